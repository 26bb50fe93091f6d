/- The code of the functions that the claim reaches, in the evaluator's form; what it is held against stands in the text of the checks. No condition. -/
import Derived.Test.YtienkohkbihdoaaGreatDoorEv9
/-! The code of the functions, as the evaluator takes it. -/
set_option linter.all false
namespace Ev
open Go

abbrev f_law11_BundleLooks : Nat := 4
abbrev f_law11_Light : Nat := 5
abbrev f_law11_awake : Nat := 6
abbrev f_bundle_Put : Nat := 7
abbrev f_bundle_Check : Nat := 9
abbrev f_bundle_Get : Nat := 10
abbrev f_ref11_Same : Nat := 12
abbrev f_bundle_Same : Nat := 13
abbrev f_bundle_Find : Nat := 14
abbrev f_bundle_Without : Nat := 15
abbrev f_bundle_Key : Nat := 16
abbrev f_ref11_Key : Nat := 17
abbrev f_bundle_Over : Nat := 18
abbrev f_ref08_End : Nat := 19
abbrev f_law11_small : Nat := 20
abbrev f_bundle_With : Nat := 21
abbrev f_head_Open : Nat := 22
abbrev f_primary_Put : Nat := 23
abbrev f_block_Put : Nat := 24
abbrev f_head_Break : Nat := 25
abbrev f_primary_Check : Nat := 28
abbrev f_block_Check : Nat := 29
abbrev f_bundle_unlike : Nat := 30
abbrev f_head_Is : Nat := 31
abbrev f_item_Get : Nat := 32
abbrev f_primary_Get : Nat := 33
abbrev f_bundle_blocks : Nat := 34
abbrev f_slices_Equal_api_Block_api_Block : Nat := 38
abbrev f_slices_IndexFunc_api_Block_api_Block : Nat := 39
abbrev f_bundle_Find_1 : Nat := 40
abbrev f_slices_DeleteFunc_api_Block_api_Block : Nat := 41
abbrev f_slices_Clone_api_Block_api_Block : Nat := 42
abbrev f_bundle_Without_1 : Nat := 43
abbrev f_stamp_Key : Nat := 44
abbrev f_primary_Fragment : Nat := 45
abbrev f_bundle_digits : Nat := 46
abbrev f_ref08_Key : Nat := 47
abbrev f_ref07_Digits : Nat := 48
abbrev f_stamp_Over : Nat := 49
abbrev f_slices_ContainsFunc_api_Block_api_Block : Nat := 50
abbrev f_bundle_With_1 : Nat := 51
abbrev f_primary_Put_1 : Nat := 52
abbrev f_eid_Value : Nat := 53
abbrev f_stamp_Value : Nat := 54
abbrev f_block_Seal : Nat := 55
abbrev f_block_values : Nat := 56
abbrev f_eid_Right : Nat := 59
abbrev f_eid_None : Nat := 60
abbrev f_bundle_unlike_1 : Nat := 61
abbrev f_item_counter_read : Nat := 62
abbrev f_primary_reader_n : Nat := 63
abbrev f_item_List : Nat := 64
abbrev f_item_Bytes : Nat := 65
abbrev f_item_At : Nat := 66
abbrev f_stamp_Of : Nat := 67
abbrev f_primary_reader_name : Nat := 68
abbrev f_block_Open : Nat := 69
abbrev f_block_Get : Nat := 70
abbrev f_stamp_Key_1 : Nat := 74
abbrev f_stamp_digits : Nat := 75
abbrev f_stamp_End : Nat := 76
abbrev f_item_Put : Nat := 77
abbrev f_block_Seal_1 : Nat := 78
abbrev f_block_width : Nat := 79
abbrev f_block_sum : Nat := 80
abbrev f_eid_named : Nat := 81
abbrev f_item_counter_one : Nat := 82
abbrev f_head_Get : Nat := 83
abbrev f_item_text : Nat := 84
abbrev f_item_counter_list : Nat := 85
abbrev f_item_other : Nat := 86
abbrev f_item_Uint : Nat := 87
abbrev f_stamp_Of_1 : Nat := 88
abbrev f_eid_Of : Nat := 89
abbrev f_block_Get_1 : Nat := 90
abbrev f_item_counter_lay : Nat := 93
abbrev f_crc_Width : Nat := 94
abbrev f_be_Put : Nat := 95
abbrev f_crc_Of : Nat := 96
abbrev f_strings_HasPrefix : Nat := 97
abbrev f_runes_Plain : Nat := 98
abbrev f_be_Get : Nat := 99
abbrev f_head_wide : Nat := 100
abbrev f_unicode_utf8_Valid : Nat := 101
abbrev f_eid_pair : Nat := 102
abbrev f_eid_within : Nat := 103
abbrev f_item_Text : Nat := 104
abbrev f_head_Put : Nat := 106
abbrev f_item_put : Nat := 107
abbrev f_unicode_utf8_ValidString : Nat := 108
abbrev f_item_simple : Nat := 109
abbrev f_be_width : Nat := 110
abbrev f_crc_Short : Nat := 111
abbrev f_crc_Long : Nat := 112
abbrev f_internal_stringslite_HasPrefix : Nat := 113
abbrev f_runes_plain : Nat := 114
abbrev f_be_Get_1 : Nat := 115
abbrev f_head_wide_1 : Nat := 116
abbrev f_unicode_utf8_word_byte : Nat := 117
abbrev f_eid_pair_1 : Nat := 118
abbrev f_head_info : Nat := 119
abbrev f_unicode_utf8_word_string : Nat := 120
abbrev f_crc_GoShort : Nat := 121
abbrev f_crc_GoLong : Nat := 122
abbrev f_crc_through : Nat := 123
abbrev f_crc_bits : Nat := 124
abbrev f_crc_bits_1 : Nat := 125
abbrev xI (n : Int) : A := .c (.int .i64 n)
abbrev xT (d n : Nat) : AOpr := ⟨some d, .mv (.t n) true, none⟩
abbrev xF (d n : Nat) : AOpr := ⟨some d, .mv (.t n) false, none⟩
abbrev xE (d n i : Nat) : AOpr := ⟨some d, .ext (.t n) i, none⟩
abbrev xS (d : Nat) (o : AOp) : AOpr := ⟨some d, o, none⟩
abbrev xG (d g : Nat) (b : Bool) (o : AOp) : AOpr := ⟨some d, o, some (g, b)⟩
def bl_law11_Light_0 : ACode := (.seq (.seq (.reg [xF 39 3, xS 40 (.fa 19 (.t 1)), xS 41 (.load 0 (.t 40)), xS 42 (.len false (.t 41)), xS 43 (.bin .lss .int (.t 39) (.t 42))] [1, 3, 43]) (.cond (.t 43)
 .skip
 (.exit 0))) (.seq (.block 1 (.seq (.reg [xS 46 (.fa 19 (.t 1)), xS 47 (.load 0 (.t 46)), xF 48 3, xS 49 (.ia (.sl 5) (.t 47) (.t 48)), xS 50 (.fa 4 (.t 49)), xS 51 (.load 0 (.t 50)), xS 52 (.len true (.t 51)), xS 53 (.bin .gtr .int (.t 52) (xI 200))] [1, 3, 53]) (.cond (.t 53)
 (.seq (.reg [xS 2 (.mv (.c (.bool false)) false)] [2]) .ret)
 .skip))) (.reg [xT 44 3, xS 45 (.bin .add .int (.t 44) (xI 1)), xT 3 45] [1, 3])))
def l_law11_Light_0 : ACode := .loop [1, 3] [] bl_law11_Light_0
theorem L_law11_Light_0 {T : Table} (ks : List Kt) (e : Env) (h : Heap) (Q : Ex → Env → Heap → Prop) : Xc T l_law11_Light_0 ks e h Q = Xc T bl_law11_Light_0 (.seq l_law11_Light_0 :: ks) (e.keep [1, 3]) h Q := Xc_loop ks _ e h Q _ _
def k_law11_Light : ACode := (.seq (.reg [xS 1 (.box (.t 0)), xS 2 (.mv (.c (.bool false)) false)] [1]) (.seq (.seq (.reg [xS 4 (.fa 19 (.t 1)), xS 5 (.load 0 (.t 4)), xS 6 (.len false (.t 5)), xS 7 (.bin .gtr .int (.t 6) (xI 20)), xT 8 7, xG 9 8 false (.fa 20 (.t 1)), xG 10 8 false (.fa 4 (.t 9)), xG 11 8 false (.load 0 (.t 10)), xG 12 8 false (.len true (.t 11)), xG 13 8 false (.bin .gtr .int (.t 12) (xI 500)), xS 14 (.pick (.t 8) (.c (.bool true)) (.t 13)), xT 15 14, xG 16 15 false (.fa 0 (.t 1)), xG 17 15 false (.fa 2 (.t 16)), xG 18 15 false (.fa 1 (.t 17)), xG 19 15 false (.load 0 (.t 18)), xG 20 15 false (.len true (.t 19)), xG 21 15 false (.bin .gtr .int (.t 20) (xI 100)), xS 22 (.pick (.t 15) (.c (.bool true)) (.t 21)), xT 23 22, xG 24 23 false (.fa 0 (.t 1)), xG 25 23 false (.fa 6 (.t 24)), xG 26 23 false (.fa 1 (.t 25)), xG 27 23 false (.load 0 (.t 26)), xG 28 23 false (.len true (.t 27)), xG 29 23 false (.bin .gtr .int (.t 28) (xI 100)), xS 30 (.pick (.t 23) (.c (.bool true)) (.t 29)), xT 31 30, xG 32 31 false (.fa 0 (.t 1)), xG 33 31 false (.fa 10 (.t 32)), xG 34 31 false (.fa 1 (.t 33)), xG 35 31 false (.load 0 (.t 34)), xG 36 31 false (.len true (.t 35)), xG 37 31 false (.bin .gtr .int (.t 36) (xI 100)), xS 38 (.pick (.t 31) (.c (.bool true)) (.t 37))] [1, 38]) (.cond (.t 38)
 (.seq (.reg [xS 2 (.mv (.c (.bool false)) false)] [2]) .ret)
 .skip)) (.seq (.seq (.reg [xS 3 (.mv (xI 0) false)] [1, 3]) (.block 0 l_law11_Light_0)) (.seq (.reg [xS 2 (.mv (.c (.bool true)) false)] [2]) .ret))))
def c_law11_Light : AFunc := ⟨k_law11_Light, 54, [.t 2], [], [], []⟩
def k_law11_small : ACode := (.seq (.reg [xS 0 (.alloc [(.int .u64 0), (.int .i64 0), (.int .i64 0), (.str []), (.int .u64 0), (.int .u64 0), (.int .i64 0), (.str []), (.int .u64 0), (.int .u64 0), (.int .i64 0), (.str []), (.int .u64 0), (.int .u64 0), (.int .u64 0), (.int .u64 0), (.int .u64 0), (.int .u64 0), (.int .u64 0), (.ps 5 []), (.int .u64 0), (.int .u64 0), (.int .u64 0), (.int .i64 0), (.str [])])] [0]) (.seq (.reg [xS 2 (.build [(.int .i64 0), (.str []), (.int .u64 0), (.int .u64 0)] [(0, 1, (xI 2)), (2, 1, (.c (.int .u64 1)))]), xS 1 (.alloc [(.int .i64 0), (.str []), (.int .u64 0), (.int .u64 0)]), ⟨none, .store 4 (.t 1) (.t 2), none⟩] [0, 1]) (.seq (.reg [xS 3 (.load 4 (.t 1)), xS 4 (.load 4 (.t 1)), xS 5 (.build [(.int .i64 0), (.str []), (.int .u64 0), (.int .u64 0)] [(0, 1, (xI 1))]), xS 6 (.build [(.int .u64 0), (.int .i64 0), (.int .i64 0), (.str []), (.int .u64 0), (.int .u64 0), (.int .i64 0), (.str []), (.int .u64 0), (.int .u64 0), (.int .i64 0), (.str []), (.int .u64 0), (.int .u64 0), (.int .u64 0), (.int .u64 0), (.int .u64 0), (.int .u64 0), (.int .u64 0)] [(2, 4, (.t 3)), (6, 4, (.t 4)), (10, 4, (.t 5)), (16, 1, (.c (.int .u64 9)))]), xS 7 (.build [(.int .u64 0), (.int .u64 0), (.int .u64 0), (.int .i64 0), (.str [])] [(0, 1, (.c (.int .u64 1))), (1, 1, (.c (.int .u64 1))), (4, 1, (.c (.str [104, 105])))]), xS 8 (.build [(.int .u64 0), (.int .i64 0), (.int .i64 0), (.str []), (.int .u64 0), (.int .u64 0), (.int .i64 0), (.str []), (.int .u64 0), (.int .u64 0), (.int .i64 0), (.str []), (.int .u64 0), (.int .u64 0), (.int .u64 0), (.int .u64 0), (.int .u64 0), (.int .u64 0), (.int .u64 0), (.ps 5 []), (.int .u64 0), (.int .u64 0), (.int .u64 0), (.int .i64 0), (.str [])] [(0, 19, (.t 6)), (20, 5, (.t 7))]), ⟨none, .store 25 (.t 0) (.t 8), none⟩] [0]) .ret)))
def c_law11_small : AFunc := ⟨k_law11_small, 9, [.c 0 25], [], [], []⟩
def k_primary_Fragment : ACode := (.seq (.reg [xS 1 (.box (.t 0)), xS 2 (.mv (.c (.bool false)) false)] [1]) (.seq (.reg [xS 3 (.fa 0 (.t 1)), xS 4 (.load 0 (.t 3)), xS 5 (.bin .and .int (.t 4) (.c (.int .u64 1))), xS 6 (.bin .neq .int (.t 5) (.c (.int .u64 0))), xT 2 6] [2]) .ret))
def c_primary_Fragment : AFunc := ⟨k_primary_Fragment, 7, [.t 2], [], [], []⟩
def k_eid_None : ACode := (.seq (.reg [xS 0 (.alloc [(.int .i64 0), (.str []), (.int .u64 0), (.int .u64 0)])] [0]) (.seq (.reg [xS 1 (.build [(.int .i64 0), (.str []), (.int .u64 0), (.int .u64 0)] [(0, 1, (xI 1))]), ⟨none, .store 4 (.t 0) (.t 1), none⟩] [0]) .ret))
def c_eid_None : AFunc := ⟨k_eid_None, 2, [.c 0 4], [], [], []⟩
def k_internal_stringslite_HasPrefix : ACode := (.seq (.reg [xS 4 (.mv (.c (.bool false)) false)] [0, 1]) (.seq (.reg [xF 5 0, xS 6 (.len true (.t 5)), xF 7 1, xS 8 (.len true (.t 7)), xS 9 (.bin .geq .int (.t 6) (.t 8)), xT 10 9, xG 11 10 true (.mv (.t 0) true), xG 12 10 true (.mv (.t 1) false), xG 13 10 true (.len true (.t 12)), xG 14 10 true (.sl .str (.t 11) none (some (.t 13)) none false), xG 15 10 true (.mv (.t 1) true), xG 16 10 true (.bin .eql .str (.t 14) (.t 15)), xS 17 (.pick (.t 10) (.t 16) (.c (.bool false))), xT 4 17] [4]) .ret))
def c_internal_stringslite_HasPrefix : AFunc := ⟨k_internal_stringslite_HasPrefix, 18, [.t 4], [], [], []⟩
def k_strings_HasPrefix : ACode := (.seq (.reg [xS 4 (.mv (.c (.bool false)) false)] [0, 1]) (.seq (.reg [xT 5 0, xT 6 1, xS 7 (.callp f_internal_stringslite_HasPrefix [(.t 5), (.t 6)] []), xT 4 7] [4]) .ret))
def c_strings_HasPrefix : AFunc := ⟨k_strings_HasPrefix, 8, [.t 4], [], [], []⟩
def k_runes_plain : ACode := (.seq (.reg [xS 2 (.mv (.c (.bool false)) false)] [0]) (.seq (.reg [xF 3 0, xS 4 (.bin .gtr .int (.t 3) (.c (.int .i32 32))), xT 5 4, xG 6 5 true (.mv (.t 0) true), xG 7 5 true (.bin .leq .int (.t 6) (.c (.int .i32 126))), xS 8 (.pick (.t 5) (.t 7) (.c (.bool false))), xT 2 8] [2]) .ret))
def c_runes_plain : AFunc := ⟨k_runes_plain, 9, [.t 2], [], [], []⟩
def bl_runes_Plain_0 : ACode := (.seq (.reg [xS 7 (.nxt (.t 6)), xE 8 7 0] [0, 6, 7, 8]) (.seq (.cond (.t 8)
 .skip
 (.exit 0)) (.block 1 (.seq (.reg [xE 9 7 2, xT 4 9] [0, 4, 6]) (.seq (.reg [xT 10 4, xS 11 (.callp f_runes_plain [(.t 10)] []), xS 12 (.un .not (.t 11))] [0, 6, 12]) (.cond (.t 12)
 (.seq (.reg [xS 2 (.mv (.c (.bool false)) false)] [2]) .ret)
 .skip))))))
def l_runes_Plain_0 : ACode := .loop [0, 6] [] bl_runes_Plain_0
theorem L_runes_Plain_0 {T : Table} (ks : List Kt) (e : Env) (h : Heap) (Q : Ex → Env → Heap → Prop) : Xc T l_runes_Plain_0 ks e h Q = Xc T bl_runes_Plain_0 (.seq l_runes_Plain_0 :: ks) (e.keep [0, 6]) h Q := Xc_loop ks _ e h Q _ _
def k_runes_Plain : ACode := (.seq (.reg [xS 2 (.mv (.c (.bool false)) false)] [0]) (.seq (.seq (.reg [xF 5 0, xS 6 (.rng (.t 5))] [0, 6]) (.block 0 l_runes_Plain_0)) (.seq (.reg [xT 13 0, xS 14 (.bin .neq .str (.t 13) (.c (.str []))), xT 2 14] [2]) .ret)))
def c_runes_Plain : AFunc := ⟨k_runes_Plain, 15, [.t 2], [], [], []⟩
def k_eid_named : ACode := (.seq (.reg [xS 2 (.mv (.c (.bool false)) false)] [0]) (.seq (.reg [xF 3 0, xS 4 (.len true (.t 3)), xS 5 (.bin .geq .int (.t 4) (xI 3)), xT 6 5, xG 7 6 true (.mv (.t 0) false), xG 8 6 true (.len true (.t 7)), xG 9 6 true (.bin .leq .int (.t 8) (xI 64)), xS 10 (.pick (.t 6) (.t 9) (.c (.bool false))), xT 11 10, xG 12 11 true (.mv (.t 0) false), xG 13 11 true (.callp f_strings_HasPrefix [(.t 12), (.c (.str [47, 47]))] []), xS 14 (.pick (.t 11) (.t 13) (.c (.bool false))), xT 15 14, xG 16 15 true (.mv (.t 0) true), xG 17 15 true (.callp f_runes_Plain [(.t 16)] []), xS 18 (.pick (.t 15) (.t 17) (.c (.bool false))), xT 2 18] [2]) .ret))
def c_eid_named : AFunc := ⟨k_eid_named, 19, [.t 2], [], [], []⟩
def k_eid_Right : ACode := (.seq (.reg [xS 1 (.box (.t 0)), xS 2 (.mv (.c (.bool false)) false)] [1]) (.seq (.seq (.reg [xS 3 (.fa 0 (.t 1)), xS 4 (.load 0 (.t 3))] [1, 4]) (.block 0 (.seq (.reg [xS 6 (.bin .eql .int (.t 4) (xI 1)), xT 5 6] [1, 4, 5]) (.cond (.t 5)
 (.seq (.regd [xS 7 (.load 4 (.t 1)), xS 8 (.callp f_eid_None [] []), xS 9 (.bin .eql (.agg (.cons 0 0 .int (.cons 1 0 .str (.cons 2 0 .int (.cons 3 0 .int .nil))))) (.t 7) (.t 8)), xF 10 9, xG 11 10 false (.load 4 (.t 1)), xG 12 10 false (.fa 1 (.t 1)), xG 13 10 false (.load 0 (.t 12)), xG 14 10 false (.build [(.int .i64 0), (.str []), (.int .u64 0), (.int .u64 0)] [(0, 1, (xI 1)), (1, 1, (.t 13))]), xG 15 10 false (.bin .eql (.agg (.cons 0 0 .int (.cons 1 0 .str (.cons 2 0 .int (.cons 3 0 .int .nil))))) (.t 11) (.t 14)), xG 16 10 false (.mv (.t 15) false), xG 17 16 true (.fa 1 (.t 1)), xG 18 16 true (.load 0 (.t 17)), xG 19 16 true (.callp f_eid_named [(.t 18)] []), xG 20 10 false (.pick (.t 16) (.t 19) (.c (.bool false))), xS 21 (.pick (.t 10) (.c (.bool true)) (.t 20)), xT 2 21] [2] ([], []) []) .ret)
 (.seq (.reg [xS 23 (.bin .eql .int (.t 4) (xI 2)), xT 22 23] [1, 22]) (.cond (.t 22)
 (.seq (.reg [xS 24 (.fa 1 (.t 1)), xS 25 (.load 0 (.t 24)), xS 26 (.bin .eql .str (.t 25) (.c (.str []))), xT 2 26] [2]) .ret)
 .skip)))))) (.seq (.reg [xS 2 (.mv (.c (.bool false)) false)] [2]) .ret)))
def c_eid_Right : AFunc := ⟨k_eid_Right, 27, [.t 2], [], [], []⟩
def k_primary_Check : ACode := (.seq (.reg [xS 1 (.box (.t 0)), xS 2 (.mv (xI 0) false)] [1]) (.seq (.reg [xS 5 (.load 19 (.t 1)), xS 6 (.callp f_primary_Fragment [(.t 5)] []), xT 3 6] [1, 3]) (.seq (.reg [xS 7 (.fa 2 (.t 1)), xS 8 (.load 4 (.t 7)), xS 9 (.callp f_eid_Right [(.t 8)] []), xT 10 9, xG 11 10 true (.fa 6 (.t 1)), xG 12 10 true (.load 4 (.t 11)), xG 13 10 true (.callp f_eid_Right [(.t 12)] []), xS 14 (.pick (.t 10) (.t 13) (.c (.bool false))), xT 15 14, xG 16 15 true (.fa 10 (.t 1)), xG 17 15 true (.load 4 (.t 16)), xG 18 15 true (.callp f_eid_Right [(.t 17)] []), xS 19 (.pick (.t 15) (.t 18) (.c (.bool false))), xT 4 19] [1, 3, 4]) (.seq (.block 0 (.seq (.reg [xS 21 (.fa 1 (.t 1)), xS 22 (.load 0 (.t 21)), xS 23 (.bin .lss .int (.t 22) (xI 0)), xT 24 23, xG 25 24 false (.fa 1 (.t 1)), xG 26 24 false (.load 0 (.t 25)), xG 27 24 false (.bin .gtr .int (.t 26) (xI 2)), xS 28 (.pick (.t 24) (.c (.bool true)) (.t 27)), xT 29 28, xG 30 29 false (.mv (.t 4) true), xG 31 29 false (.un .not (.t 30)), xS 32 (.pick (.t 29) (.c (.bool true)) (.t 31)), xT 33 32, xG 34 33 false (.fa 0 (.t 1)), xG 35 33 false (.load 0 (.t 34)), xG 36 33 false (.bin .geq .int (.t 35) (.c (.int .u64 2097152))), xS 37 (.pick (.t 33) (.c (.bool true)) (.t 36)), xT 20 37] [1, 3, 20]) (.cond (.t 20)
 (.seq (.reg [xS 2 (.mv (xI 2) false)] [2]) .ret)
 (.seq (.reg [xF 39 3, xT 40 39, xG 41 40 true (.fa 0 (.t 1)), xG 42 40 true (.load 0 (.t 41)), xG 43 40 true (.bin .and .int (.t 42) (.c (.int .u64 4))), xG 44 40 true (.bin .neq .int (.t 43) (.c (.int .u64 0))), xG 45 40 true (.mv (.t 44) true), xG 46 45 false (.fa 17 (.t 1)), xG 47 45 false (.load 0 (.t 46)), xG 48 45 false (.fa 18 (.t 1)), xG 49 45 false (.load 0 (.t 48)), xG 50 45 false (.bin .geq .int (.t 47) (.t 49)), xG 51 40 true (.pick (.t 45) (.c (.bool true)) (.t 50)), xS 52 (.pick (.t 40) (.t 51) (.c (.bool false))), xT 38 52] [1, 3, 38]) (.cond (.t 38)
 (.seq (.reg [xS 2 (.mv (xI 6) false)] [2]) .ret)
 (.seq (.reg [xF 54 3, xS 55 (.un .not (.t 54)), xT 56 55, xG 57 56 true (.fa 17 (.t 1)), xG 58 56 true (.load 0 (.t 57)), xG 59 56 true (.bin .neq .int (.t 58) (.c (.int .u64 0))), xG 60 56 true (.mv (.t 59) true), xG 61 60 false (.fa 18 (.t 1)), xG 62 60 false (.load 0 (.t 61)), xG 63 60 false (.bin .neq .int (.t 62) (.c (.int .u64 0))), xG 64 56 true (.pick (.t 60) (.c (.bool true)) (.t 63)), xS 65 (.pick (.t 56) (.t 64) (.c (.bool false))), xT 53 65] [1, 3, 53]) (.cond (.t 53)
 (.seq (.reg [xS 2 (.mv (xI 6) false)] [2]) .ret)
 (.seq (.regd [xS 67 (.fa 6 (.t 1)), xS 68 (.load 4 (.t 67)), xS 69 (.callp f_eid_None [] []), xS 70 (.bin .eql (.agg (.cons 0 0 .int (.cons 1 0 .str (.cons 2 0 .int (.cons 3 0 .int .nil))))) (.t 68) (.t 69)), xF 71 70, xG 72 71 true (.fa 0 (.t 1)), xG 73 71 true (.load 0 (.t 72)), xG 74 71 true (.bin .and .int (.t 73) (.c (.int .u64 4))), xG 75 71 true (.bin .eql .int (.t 74) (.c (.int .u64 0))), xG 76 71 true (.mv (.t 75) false), xG 77 76 false (.mv (.t 3) false), xG 78 71 true (.pick (.t 76) (.c (.bool true)) (.t 77)), xG 79 71 true (.mv (.t 78) false), xG 80 79 false (.fa 0 (.t 1)), xG 81 79 false (.load 0 (.t 80)), xG 82 79 false (.bin .and .int (.t 81) (.c (.int .u64 507904))), xG 83 79 false (.bin .neq .int (.t 82) (.c (.int .u64 0))), xG 84 71 true (.pick (.t 79) (.c (.bool true)) (.t 83)), xS 85 (.pick (.t 71) (.t 84) (.c (.bool false))), xT 66 85] [66] ([], []) []) (.cond (.t 66)
 (.seq (.reg [xS 2 (.mv (xI 6) false)] [2]) .ret)
 .skip))))))))) (.seq (.reg [xS 2 (.mv (xI 0) false)] [2]) .ret)))))
def c_primary_Check : AFunc := ⟨k_primary_Check, 86, [.t 2], [], [], []⟩
def k_block_Check : ACode := (.seq (.reg [xS 1 (.box (.t 0)), xS 2 (.mv (xI 0) false)] [1]) (.seq (.block 0 (.seq (.reg [xS 4 (.fa 1 (.t 1)), xS 5 (.load 0 (.t 4)), xS 6 (.bin .eql .int (.t 5) (.c (.int .u64 0))), xT 7 6, xG 8 7 false (.fa 3 (.t 1)), xG 9 7 false (.load 0 (.t 8)), xG 10 7 false (.bin .lss .int (.t 9) (xI 0)), xS 11 (.pick (.t 7) (.c (.bool true)) (.t 10)), xT 12 11, xG 13 12 false (.fa 3 (.t 1)), xG 14 12 false (.load 0 (.t 13)), xG 15 12 false (.bin .gtr .int (.t 14) (xI 2)), xS 16 (.pick (.t 12) (.c (.bool true)) (.t 15)), xT 3 16] [1, 3]) (.cond (.t 3)
 (.seq (.reg [xS 2 (.mv (xI 2) false)] [2]) .ret)
 (.seq (.reg [xS 18 (.fa 4 (.t 1)), xS 19 (.load 0 (.t 18)), xS 20 (.len true (.t 19)), xS 21 (.bin .gtr .int (.t 20) (xI 65536)), xT 17 21] [17]) (.cond (.t 17)
 (.seq (.reg [xS 2 (.mv (xI 4) false)] [2]) .ret)
 .skip))))) (.seq (.reg [xS 2 (.mv (xI 0) false)] [2]) .ret)))
def c_block_Check : AFunc := ⟨k_block_Check, 22, [.t 2], [], [], []⟩
def k_bundle_unlike_1 : ACode := (.seq (.reg [xS 2 (.box (.t 0)), xS 3 (.mv (.c (.bool false)) false)] [1, 2]) (.seq (.reg [xS 5 (.load 0 (.t 1)), xS 6 (.fa 1 (.t 2)), xS 7 (.load 0 (.t 6)), xS 8 (.look .int (.t 5) (.t 7) (.bool false) false), xS 9 (.un .not (.t 8)), xT 10 9, xG 11 10 true (.fa 0 (.t 2)), xG 12 10 true (.load 0 (.t 11)), xG 13 10 true (.bin .neq .int (.t 12) (.c (.int .u64 1))), xS 14 (.pick (.t 10) (.t 13) (.c (.bool false))), xT 4 14] [1, 2, 4]) (.seq (.reg [xS 15 (.load 0 (.t 1)), xS 16 (.fa 1 (.t 2)), xS 17 (.load 0 (.t 16)), ⟨none, .mset .int (.t 15) (.t 17) (.c (.bool true)), none⟩] [4]) (.seq (.reg [xT 18 4, xT 3 18] [3]) .ret))))
def c_bundle_unlike_1 : AFunc := ⟨k_bundle_unlike_1, 19, [.t 3], [], [], []⟩
def bl_bundle_unlike_0 : ACode := (.seq (.reg [xS 13 (.bin .lss .int (.t 12) (.t 11))] [4, 10, 11, 12, 13]) (.seq (.cond (.t 13)
 .skip
 (.exit 0)) (.seq (.block 1 (.seq (.reg [xS 14 (.ia (.sl 5) (.t 10) (.t 12)), xS 15 (.load 5 (.t 14)), xS 6 (.alloc [(.int .u64 0), (.int .u64 0), (.int .u64 0), (.int .i64 0), (.str [])]), ⟨none, .store 5 (.t 6) (.t 15), none⟩] [4, 6, 10, 11, 12]) (.seq (.reg [xF 16 4, xS 17 (.load 5 (.t 6)), xS 18 (.callv (.t 16) [(.t 17)]), xS 19 (.un .not (.t 18))] [4, 10, 11, 12, 19]) (.cond (.t 19)
 (.seq (.reg [xS 2 (.mv (.c (.bool false)) false)] [2]) .ret)
 .skip)))) (.reg [xS 20 (.bin .add .int (.t 12) (xI 1)), xT 12 20] [4, 10, 11, 12]))))
def l_bundle_unlike_0 : ACode := .loop [4, 10, 11, 12] [] bl_bundle_unlike_0
theorem L_bundle_unlike_0 {T : Table} (ks : List Kt) (e : Env) (h : Heap) (Q : Ex → Env → Heap → Prop) : Xc T l_bundle_unlike_0 ks e h Q = Xc T bl_bundle_unlike_0 (.seq l_bundle_unlike_0 :: ks) (e.keep [4, 10, 11, 12]) h Q := Xc_loop ks _ e h Q _ _
def k_bundle_unlike : ACode := (.seq (.reg [xS 2 (.mv (.c (.bool false)) false)] [0]) (.seq (.reg [xS 7 (.mkm), ⟨none, .mset .int (.t 7) (.c (.int .u64 0)) (.c (.bool true)), none⟩, ⟨none, .mset .int (.t 7) (.c (.int .u64 1)) (.c (.bool true)), none⟩, xT 8 7, xS 3 (.alloc [.mpn]), ⟨none, .store 1 (.t 3) (.t 8), none⟩] [0, 3]) (.seq (.reg [xS 9 (.mkfn f_bundle_unlike_1 [(.t 3)]), xT 4 9] [0, 4]) (.seq (.seq (.reg [xT 10 0, xS 11 (.len false (.t 10)), xS 12 (.mv (xI 0) false)] [4, 10, 11, 12]) (.block 0 l_bundle_unlike_0)) (.seq (.reg [xS 2 (.mv (.c (.bool true)) false)] [2]) .ret)))))
def c_bundle_unlike : AFunc := ⟨k_bundle_unlike, 21, [.t 2], [], [], []⟩
def bl_bundle_Check_0 : ACode := (.seq (.reg [xS 28 (.bin .lss .int (.t 27) (.t 26))] [1, 25, 26, 27, 28]) (.seq (.cond (.t 28)
 .skip
 (.exit 0)) (.seq (.block 1 (.seq (.reg [xS 29 (.ia (.sl 5) (.t 25) (.t 27)), xS 30 (.load 5 (.t 29)), xS 6 (.alloc [(.int .u64 0), (.int .u64 0), (.int .u64 0), (.int .i64 0), (.str [])]), ⟨none, .store 5 (.t 6) (.t 30), none⟩] [1, 6, 25, 26, 27]) (.seq (.reg [xS 31 (.load 5 (.t 6)), xS 32 (.callp f_block_Check [(.t 31)] []), xT 7 32] [1, 7, 25, 26, 27]) (.seq (.reg [xF 33 7, xS 34 (.bin .neq .int (.t 33) (xI 0))] [1, 7, 25, 26, 27, 34]) (.cond (.t 34)
 (.seq (.reg [xT 35 7, xT 2 35] [2]) .ret)
 .skip))))) (.reg [xS 36 (.bin .add .int (.t 27) (xI 1)), xT 27 36] [1, 25, 26, 27]))))
def l_bundle_Check_0 : ACode := .loop [1, 25, 26, 27] [] bl_bundle_Check_0
theorem L_bundle_Check_0 {T : Table} (ks : List Kt) (e : Env) (h : Heap) (Q : Ex → Env → Heap → Prop) : Xc T l_bundle_Check_0 ks e h Q = Xc T bl_bundle_Check_0 (.seq l_bundle_Check_0 :: ks) (e.keep [1, 25, 26, 27]) h Q := Xc_loop ks _ e h Q _ _
def k_bundle_Check : ACode := (.seq (.reg [xS 1 (.box (.t 0)), xS 2 (.mv (xI 0) false)] [1]) (.seq (.seq (.reg [xS 8 (.fa 19 (.t 1)), xS 9 (.load 0 (.t 8)), xS 10 (.len false (.t 9)), xS 11 (.bin .gtr .int (.t 10) (xI 16))] [1, 11]) (.cond (.t 11)
 (.seq (.reg [xS 2 (.mv (xI 4) false)] [2]) .ret)
 .skip)) (.seq (.seq (.reg [xS 12 (.fa 0 (.t 1)), xS 13 (.load 19 (.t 12)), xS 14 (.callp f_primary_Check [(.t 13)] []), xT 3 14] [1, 3]) (.seq (.reg [xF 15 3, xS 16 (.bin .neq .int (.t 15) (xI 0))] [1, 3, 16]) (.cond (.t 16)
 (.seq (.reg [xT 17 3, xT 2 17] [2]) .ret)
 .skip))) (.seq (.seq (.reg [xS 18 (.fa 20 (.t 1)), xS 19 (.load 5 (.t 18)), xS 20 (.callp f_block_Check [(.t 19)] []), xT 4 20] [1, 4]) (.seq (.reg [xF 21 4, xS 22 (.bin .neq .int (.t 21) (xI 0))] [1, 4, 22]) (.cond (.t 22)
 (.seq (.reg [xT 23 4, xT 2 23] [2]) .ret)
 .skip))) (.seq (.seq (.reg [xS 24 (.fa 19 (.t 1)), xS 25 (.load 0 (.t 24)), xS 26 (.len false (.t 25)), xS 27 (.mv (xI 0) false)] [1, 25, 26, 27]) (.block 0 l_bundle_Check_0)) (.seq (.seq (.reg [xS 37 (.fa 20 (.t 1)), xS 38 (.fa 0 (.t 37)), xS 39 (.load 0 (.t 38)), xS 40 (.bin .neq .int (.t 39) (.c (.int .u64 1))), xT 41 40, xG 42 41 false (.fa 20 (.t 1)), xG 43 41 false (.fa 1 (.t 42)), xG 44 41 false (.load 0 (.t 43)), xG 45 41 false (.bin .neq .int (.t 44) (.c (.int .u64 1))), xS 46 (.pick (.t 41) (.c (.bool true)) (.t 45)), xT 47 46, xG 48 47 false (.fa 19 (.t 1)), xG 49 47 false (.load 0 (.t 48)), xG 50 47 false (.callp f_bundle_unlike [(.t 49)] [(0, true)]), xG 51 47 false (.un .not (.t 50)), xS 52 (.pick (.t 47) (.c (.bool true)) (.t 51))] [52]) (.cond (.t 52)
 (.seq (.reg [xS 2 (.mv (xI 6) false)] [2]) .ret)
 .skip)) (.seq (.reg [xS 2 (.mv (xI 0) false)] [2]) .ret)))))))
def c_bundle_Check : AFunc := ⟨k_bundle_Check, 53, [.t 2], [], [], []⟩
def k_head_Open : ACode := (.seq (.reg [xS 0 (.mv (.c (.ps 1 [])) false)] []) (.seq (.reg [xS 1 (.bsl 1 [(.c (.int .u8 159))] false), xT 0 1] [0]) .ret))
def c_head_Open : AFunc := ⟨k_head_Open, 2, [.t 0], [], [0], []⟩
def k_eid_Value : ACode := (.seq (.reg [xS 1 (.box (.t 0)), xS 2 (.mv (.c .nili) false), xS 3 (.mv (xI 0) false)] [1]) (.seq (.reg [xS 5 (.fa 0 (.t 1)), xS 6 (.load 0 (.t 5)), xS 7 (.conv (.i .u64) (.t 6)), xT 4 7] [1, 4]) (.seq (.block 0 (.seq (.reg [xS 9 (.load 4 (.t 1)), xS 10 (.callp f_eid_Right [(.t 9)] []), xS 11 (.un .not (.t 10)), xT 8 11] [1, 4, 8]) (.cond (.t 8)
 (.seq (.reg [xS 2 (.mv (.c .nili) false), xS 3 (.mv (xI 2) false)] [2, 3]) .ret)
 (.seq (.regd [xS 13 (.load 4 (.t 1)), xS 14 (.callp f_eid_None [] []), xS 15 (.bin .eql (.agg (.cons 0 0 .int (.cons 1 0 .str (.cons 2 0 .int (.cons 3 0 .int .nil))))) (.t 13) (.t 14)), xT 12 15] [1, 4, 12] ([], []) []) (.cond (.t 12)
 (.seq (.reg [xT 16 4, xS 17 (.mkif 22 (.t 16)), xS 18 (.mkif 22 (.c (.int .u64 0))), xS 19 (.bsl 1 [(.t 17), (.t 18)] false), xS 20 (.mkif 84 (.t 19)), xT 2 20, xS 3 (.mv (xI 0) false)] [2, 3]) .ret)
 (.seq (.reg [xS 22 (.fa 0 (.t 1)), xS 23 (.load 0 (.t 22)), xS 24 (.bin .eql .int (.t 23) (xI 1)), xT 21 24] [1, 4, 21]) (.cond (.t 21)
 (.seq (.reg [xT 25 4, xS 26 (.mkif 22 (.t 25)), xS 27 (.fa 1 (.t 1)), xS 28 (.load 0 (.t 27)), xS 29 (.mkif 9 (.t 28)), xS 30 (.bsl 1 [(.t 26), (.t 29)] false), xS 31 (.mkif 84 (.t 30)), xT 2 31, xS 3 (.mv (xI 0) false)] [2, 3]) .ret)
 .skip))))))) (.seq (.reg [xT 32 4, xS 33 (.mkif 22 (.t 32)), xS 34 (.fa 2 (.t 1)), xS 35 (.load 0 (.t 34)), xS 36 (.mkif 22 (.t 35)), xS 37 (.fa 3 (.t 1)), xS 38 (.load 0 (.t 37)), xS 39 (.mkif 22 (.t 38)), xS 40 (.bsl 1 [(.t 36), (.t 39)] false), xS 41 (.mkif 84 (.t 40)), xS 42 (.bsl 1 [(.t 33), (.t 41)] false), xS 43 (.mkif 84 (.t 42)), xT 2 43, xS 3 (.mv (xI 0) false)] [2, 3]) .ret))))
def c_eid_Value : AFunc := ⟨k_eid_Value, 44, [.t 2, .t 3], [], [], []⟩
def k_primary_Put_1 : ACode := (.seq (.reg [xS 2 (.box (.t 0))] [1, 2]) (.seq (.reg [xS 6 (.load 4 (.t 2)), xS 7 (.callp f_eid_Value [(.t 6)] []), xT 5 7, xE 8 5 0, xE 9 5 1, xT 3 8, xT 4 9] [1, 3]) (.reg [xS 10 (.load 0 (.t 1)), xT 11 3, xS 12 (.bsl 1 [(.t 11)] false), xS 13 (.apph 1 16 (.t 10) (.t 12)), ⟨none, .store 1 (.t 1) (.t 13), none⟩] [])))
def c_primary_Put_1 : AFunc := ⟨k_primary_Put_1, 14, [], [], [], []⟩
def k_stamp_Value : ACode := (.seq (.reg [xS 1 (.box (.t 0)), xS 2 (.mv (.c .nili) false)] [1]) (.seq (.reg [xS 3 (.fa 0 (.t 1)), xS 4 (.load 0 (.t 3)), xS 5 (.mkif 22 (.t 4)), xS 6 (.fa 1 (.t 1)), xS 7 (.load 0 (.t 6)), xS 8 (.mkif 22 (.t 7)), xS 9 (.bsl 1 [(.t 5), (.t 8)] false), xS 10 (.mkif 84 (.t 9)), xT 2 10] [2]) .ret))
def c_stamp_Value : AFunc := ⟨k_stamp_Value, 11, [.t 2], [], [], []⟩
def k_item_counter_one : ACode := (.seq (.reg [xS 4 (.mv (xI 0) false)] [0, 1]) (.seq (.reg [xF 5 0, xS 6 (.nilck (.t 5)), xS 7 (.fa 0 (.t 6)), xS 8 (.load 0 (.t 7)), xS 9 (.bin .add .int (.t 8) (xI 1)), xS 10 (.nilck (.t 5)), xS 11 (.fa 0 (.t 10)), ⟨none, .store 1 (.t 11) (.t 9), none⟩] [0, 1]) (.seq (.seq (.reg [xT 12 1, xS 13 (.bin .gtr .int (.t 12) (xI 16)), xT 14 13, xG 15 14 false (.mv (.t 0) true), xG 16 14 false (.nilck (.t 15)), xG 17 14 false (.fa 0 (.t 16)), xG 18 14 false (.load 0 (.t 17)), xG 19 14 false (.bin .gtr .int (.t 18) (xI 4096)), xS 20 (.pick (.t 14) (.c (.bool true)) (.t 19))] [20]) (.cond (.t 20)
 (.seq (.reg [xS 4 (.mv (xI 4) false)] [4]) .ret)
 .skip)) (.seq (.reg [xS 4 (.mv (xI 0) false)] [4]) .ret))))
def c_item_counter_one : AFunc := ⟨k_item_counter_one, 21, [.t 4], [], [], []⟩
def k_head_wide_1 : ACode := (.seq (.reg [xS 3 (.mv (.c (.bool false)) false)] [0, 1]) (.seq (.reg [xS 4 (.load 0 (.t 1)), xT 5 0, xS 6 (.bin .shr .int (.t 4) (.t 5)), xS 7 (.bin .eql .int (.t 6) (.c (.int .u64 0))), xT 3 7] [3]) .ret))
def c_head_wide_1 : AFunc := ⟨k_head_wide_1, 8, [.t 3], [], [], []⟩
def k_head_wide : ACode := (.seq (.reg [xS 1 (.box (.t 0)), xS 2 (.mv (xI 0) false)] [1]) (.seq (.reg [xS 4 (.mkfn f_head_wide_1 [(.t 1)]), xT 3 4] [1, 3]) (.seq (.block 0 (.seq (.reg [xS 6 (.load 0 (.t 1)), xS 7 (.bin .lss .int (.t 6) (.c (.int .u64 24))), xT 5 7] [3, 5]) (.cond (.t 5)
 (.seq (.reg [xS 2 (.mv (xI 0) false)] [2]) .ret)
 (.seq (.reg [xF 9 3, xS 10 (.callv (.t 9) [(xI 8)]), xT 8 10] [3, 8]) (.cond (.t 8)
 (.seq (.reg [xS 2 (.mv (xI 1) false)] [2]) .ret)
 (.seq (.reg [xF 12 3, xS 13 (.callv (.t 12) [(xI 16)]), xT 11 13] [3, 11]) (.cond (.t 11)
 (.seq (.reg [xS 2 (.mv (xI 2) false)] [2]) .ret)
 (.seq (.reg [xT 15 3, xS 16 (.callv (.t 15) [(xI 32)]), xT 14 16] [14]) (.cond (.t 14)
 (.seq (.reg [xS 2 (.mv (xI 4) false)] [2]) .ret)
 .skip))))))))) (.seq (.reg [xS 2 (.mv (xI 8) false)] [2]) .ret))))
def c_head_wide : AFunc := ⟨k_head_wide, 17, [.t 2], [], [], []⟩
def k_head_info : ACode := (.seq (.reg [xS 2 (.mv (xI 0) false)] [0]) (.seq (.seq (.reg [xT 3 0] [3]) (.block 0 (.seq (.reg [xS 5 (.bin .eql .int (.t 3) (xI 1)), xT 4 5] [3, 4]) (.cond (.t 4)
 (.seq (.reg [xS 2 (.mv (xI 24) false)] [2]) .ret)
 (.seq (.reg [xS 7 (.bin .eql .int (.t 3) (xI 2)), xT 6 7] [3, 6]) (.cond (.t 6)
 (.seq (.reg [xS 2 (.mv (xI 25) false)] [2]) .ret)
 (.seq (.reg [xS 9 (.bin .eql .int (.t 3) (xI 4)), xT 8 9] [8]) (.cond (.t 8)
 (.seq (.reg [xS 2 (.mv (xI 26) false)] [2]) .ret)
 .skip)))))))) (.seq (.reg [xS 2 (.mv (xI 27) false)] [2]) .ret)))
def c_head_info : AFunc := ⟨k_head_info, 10, [.t 2], [], [], []⟩
def k_be_width : ACode := (.seq (.reg [xS 2 (.mv (xI 0) false)] [0]) (.seq (.reg [xT 3 0, xS 4 (.mx true [(.t 3), (xI 0)]), xS 5 (.mx false [(.t 4), (xI 8)]), xT 2 5] [2]) .ret))
def c_be_width : AFunc := ⟨k_be_width, 6, [.t 2], [], [], []⟩
def bl_be_Put_0 : ACode := (.seq (.seq (.reg [xF 14 8, xS 15 (.bin .geq .int (.t 14) (xI 0))] [2, 7, 8, 15]) (.cond (.t 15)
 .skip
 (.exit 0))) (.seq (.block 1 (.reg [xT 18 7, xF 19 2, xF 20 8, xS 21 (.bin .mul .int (xI 8) (.t 20)), xS 22 (.bin .shr .int (.t 19) (.t 21)), xS 23 (.conv (.i .u8) (.t 22)), xS 24 (.bsl 1 [(.t 23)] false), xS 25 (.app 1 1 (.t 18) (.t 24)), xT 7 25] [2, 7, 8])) (.reg [xT 16 8, xS 17 (.bin .sub .int (.t 16) (xI 1)), xT 8 17] [2, 7, 8])))
def l_be_Put_0 : ACode := .loop [2, 7, 8] [(7, 0)] bl_be_Put_0
theorem L_be_Put_0 {T : Table} (ks : List Kt) (e : Env) (h : Heap) (Q : Ex → Env → Heap → Prop) : Xc T l_be_Put_0 ks e h Q = Xc T bl_be_Put_0 (.seq l_be_Put_0 :: ks) (e.keep [2, 7, 8]) h Q := Xc_loop ks _ e h Q _ _
def k_be_Put : ACode := (.seq (.reg [xS 6 (.mv (.c (.ps 1 [])) false)] [0, 1, 2]) (.seq (.reg [xT 9 0, xS 10 (.app 1 1 (.c (.ps 1 [])) (.t 9)), xT 7 10] [1, 2, 7]) (.seq (.seq (.reg [xT 11 1, xS 12 (.callp f_be_width [(.t 11)] []), xS 13 (.bin .sub .int (.t 12) (xI 1)), xT 8 13] [2, 7, 8]) (.block 0 l_be_Put_0)) (.seq (.reg [xT 26 7, xT 6 26] [6]) .ret))))
def c_be_Put : AFunc := ⟨k_be_Put, 27, [.t 6], [], [0], []⟩
def k_head_Put : ACode := (.seq (.reg [xS 4 (.mv (.c (.ps 1 [])) false), xS 5 (.mv (xI 0) false)] [0, 1]) (.seq (.seq (.reg [xF 7 0, xS 8 (.bin .lss .int (.t 7) (xI 0)), xT 9 8, xG 10 9 false (.mv (.t 0) false), xG 11 9 false (.bin .gtr .int (.t 10) (xI 7)), xS 12 (.pick (.t 9) (.c (.bool true)) (.t 11))] [0, 1, 12]) (.cond (.t 12)
 (.seq (.reg [xS 4 (.mv (.c (.ps 1 [])) false), xS 5 (.mv (xI 2) false)] [4, 5]) .ret)
 .skip)) (.seq (.reg [xF 13 1, xS 14 (.callp f_head_wide [(.t 13)] []), xT 6 14] [0, 1, 6]) (.seq (.seq (.reg [xF 15 6, xS 16 (.bin .eql .int (.t 15) (xI 0))] [0, 1, 6, 16]) (.cond (.t 16)
 (.seq (.reg [xT 17 0, xS 18 (.bin .shl .int (.t 17) (.c (.int .u64 5))), xS 19 (.conv (.i .u8) (.t 18)), xT 20 1, xS 21 (.conv (.i .u8) (.t 20)), xS 22 (.bin .or .int (.t 19) (.t 21)), xS 23 (.bsl 1 [(.t 22)] false), xT 4 23, xS 5 (.mv (xI 0) false)] [4, 5]) .ret)
 .skip)) (.seq (.reg [xT 24 0, xS 25 (.bin .shl .int (.t 24) (.c (.int .u64 5))), xF 26 6, xS 27 (.callp f_head_info [(.t 26)] []), xS 28 (.bin .or .int (.t 25) (.t 27)), xS 29 (.conv (.i .u8) (.t 28)), xS 30 (.bsl 1 [(.t 29)] false), xT 31 6, xT 32 1, xS 33 (.callp f_be_Put [(.t 30), (.t 31), (.t 32)] []), xT 4 33, xS 5 (.mv (xI 0) false)] [4, 5]) .ret)))))
def c_head_Put : AFunc := ⟨k_head_Put, 34, [.t 4, .t 5], [], [1], []⟩
def k_item_put : ACode := (.seq (.reg [xS 6 (.mv (.c (.ps 1 [])) false)] [0, 1, 2]) (.seq (.reg [xT 10 0, xT 11 1, xS 12 (.conv (.i .u64) (.t 11)), xS 13 (.callp f_head_Put [(.t 10), (.t 12)] []), xT 9 13, xE 14 9 0, xE 15 9 1, xT 7 14, xT 8 15] [2, 7]) (.seq (.reg [xT 16 7, xT 17 2, xS 18 (.app 1 1 (.t 16) (.t 17)), xT 6 18] [6]) .ret)))
def c_item_put : AFunc := ⟨k_item_put, 19, [.t 6], [], [0], []⟩
def k_unicode_utf8_word_string : ACode := (.seq (.reg [xS 2 (.mv (.c (.int .u64 0)) false)] [0]) (.seq (.cond (.c (.bool false))
 (.seq (.regd [xF 3 0, xS 4 (.idx .str 0 (.t 3) (xI 0)), xS 5 (.conv (.i .u64) (.t 4)), xF 6 0, xS 7 (.idx .str 0 (.t 6) (xI 1)), xS 8 (.conv (.i .u64) (.t 7)), xS 9 (.bin .shl .int (.t 8) (.c (.int .u64 8))), xS 10 (.bin .or .int (.t 5) (.t 9)), xF 11 0, xS 12 (.idx .str 0 (.t 11) (xI 2)), xS 13 (.conv (.i .u64) (.t 12)), xS 14 (.bin .shl .int (.t 13) (.c (.int .u64 16))), xS 15 (.bin .or .int (.t 10) (.t 14)), xF 16 0, xS 17 (.idx .str 0 (.t 16) (xI 3)), xS 18 (.conv (.i .u64) (.t 17)), xS 19 (.bin .shl .int (.t 18) (.c (.int .u64 24))), xS 20 (.bin .or .int (.t 15) (.t 19)), xT 2 20] [2] ([], []) []) .ret)
 .skip) (.seq (.regd [xF 21 0, xS 22 (.idx .str 0 (.t 21) (xI 0)), xS 23 (.conv (.i .u64) (.t 22)), xF 24 0, xS 25 (.idx .str 0 (.t 24) (xI 1)), xS 26 (.conv (.i .u64) (.t 25)), xS 27 (.bin .shl .int (.t 26) (.c (.int .u64 8))), xS 28 (.bin .or .int (.t 23) (.t 27)), xF 29 0, xS 30 (.idx .str 0 (.t 29) (xI 2)), xS 31 (.conv (.i .u64) (.t 30)), xS 32 (.bin .shl .int (.t 31) (.c (.int .u64 16))), xS 33 (.bin .or .int (.t 28) (.t 32)), xF 34 0, xS 35 (.idx .str 0 (.t 34) (xI 3)), xS 36 (.conv (.i .u64) (.t 35)), xS 37 (.bin .shl .int (.t 36) (.c (.int .u64 24))), xS 38 (.bin .or .int (.t 33) (.t 37)), xF 39 0, xS 40 (.idx .str 0 (.t 39) (xI 4)), xS 41 (.conv (.i .u64) (.t 40)), xS 42 (.bin .shl .int (.t 41) (.c (.int .u64 32))), xS 43 (.bin .or .int (.t 38) (.t 42)), xF 44 0, xS 45 (.idx .str 0 (.t 44) (xI 5)), xS 46 (.conv (.i .u64) (.t 45)), xS 47 (.bin .shl .int (.t 46) (.c (.int .u64 40))), xS 48 (.bin .or .int (.t 43) (.t 47)), xF 49 0, xS 50 (.idx .str 0 (.t 49) (xI 6)), xS 51 (.conv (.i .u64) (.t 50)), xS 52 (.bin .shl .int (.t 51) (.c (.int .u64 48))), xS 53 (.bin .or .int (.t 48) (.t 52)), xF 54 0, xS 55 (.idx .str 0 (.t 54) (xI 7)), xS 56 (.conv (.i .u64) (.t 55)), xS 57 (.bin .shl .int (.t 56) (.c (.int .u64 56))), xS 58 (.bin .or .int (.t 53) (.t 57)), xT 2 58] [2] ([], []) []) .ret)))
def c_unicode_utf8_word_string : AFunc := ⟨k_unicode_utf8_word_string, 59, [.t 2], [], [], []⟩
def bl_unicode_utf8_ValidString_0 : ACode := (.seq (.seq (.regd [xF 42 0, xS 43 (.len true (.t 42)), xS 44 (.bin .gtr .int (.t 43) (xI 32)), xF 45 44, xG 46 45 true (.mv (.t 0) false), xG 47 45 true (.callp f_unicode_utf8_word_string [(.t 46)] []), xG 48 45 true (.mv (.t 0) false), xG 49 45 true (.sl .str (.t 48) (some (xI 8)) none none false), xG 50 45 true (.callp f_unicode_utf8_word_string [(.t 49)] []), xG 51 45 true (.bin .or .int (.t 47) (.t 50)), xG 52 45 true (.mv (.t 0) false), xG 53 45 true (.sl .str (.t 52) (some (xI 16)) none none false), xG 54 45 true (.callp f_unicode_utf8_word_string [(.t 53)] []), xG 55 45 true (.mv (.t 0) false), xG 56 45 true (.sl .str (.t 55) (some (xI 24)) none none false), xG 57 45 true (.callp f_unicode_utf8_word_string [(.t 56)] []), xG 58 45 true (.bin .or .int (.t 54) (.t 57)), xG 59 45 true (.bin .or .int (.t 51) (.t 58)), xG 60 45 true (.bin .and .int (.t 59) (.c (.int .u64 9259542123273814144))), xG 61 45 true (.bin .eql .int (.t 60) (.c (.int .u64 0))), xS 62 (.pick (.t 45) (.t 61) (.c (.bool false)))] [0, 62] ([], []) []) (.cond (.t 62)
 .skip
 (.exit 2))) (.block 3 (.reg [xT 63 0, xS 64 (.sl .str (.t 63) (some (xI 32)) none none false), xT 0 64] [0])))
def l_unicode_utf8_ValidString_0 : ACode := .loop [0] [] bl_unicode_utf8_ValidString_0
theorem L_unicode_utf8_ValidString_0 {T : Table} (ks : List Kt) (e : Env) (h : Heap) (Q : Ex → Env → Heap → Prop) : Xc T l_unicode_utf8_ValidString_0 ks e h Q = Xc T bl_unicode_utf8_ValidString_0 (.seq l_unicode_utf8_ValidString_0 :: ks) (e.keep [0]) h Q := Xc_loop ks _ e h Q _ _
def bl_unicode_utf8_ValidString_1 : ACode := (.seq (.seq (.reg [xF 7 0, xS 8 (.len true (.t 7)), xS 9 (.bin .gtr .int (.t 8) (xI 0))] [0, 9]) (.cond (.t 9)
 .skip
 (.exit 0))) (.block 1 (.seq (.reg [xF 10 0, xS 11 (.idx .str 0 (.t 10) (xI 0)), xT 3 11] [0, 3]) (.seq (.seq (.reg [xF 12 3, xS 13 (.bin .lss .int (.t 12) (.c (.int .u8 128)))] [0, 3, 13]) (.cond (.t 13)
 (.seq (.reg [xT 14 0, xS 15 (.sl .str (.t 14) (some (xI 1)) none none false), xT 0 15] [0]) (.seq (.seq (.reg [xF 16 0, xS 17 (.len true (.t 16)), xS 18 (.bin .gtr .int (.t 17) (xI 8)), xT 19 18, xG 20 19 true (.mv (.t 0) false), xG 21 19 true (.callp f_unicode_utf8_word_string [(.t 20)] []), xG 22 19 true (.bin .and .int (.t 21) (.c (.int .u64 9259542123273814144))), xG 23 19 true (.bin .eql .int (.t 22) (.c (.int .u64 0))), xS 24 (.pick (.t 19) (.t 23) (.c (.bool false)))] [0, 24]) (.cond (.t 24)
 (.seq (.reg [xT 25 0, xS 26 (.sl .str (.t 25) (some (xI 8)) none none false), xT 0 26] [0]) (.seq (.regd [xF 27 0, xS 28 (.len true (.t 27)), xS 29 (.bin .gtr .int (.t 28) (xI 16)), xF 30 29, xG 31 30 true (.mv (.t 0) false), xG 32 30 true (.callp f_unicode_utf8_word_string [(.t 31)] []), xG 33 30 true (.mv (.t 0) false), xG 34 30 true (.sl .str (.t 33) (some (xI 8)) none none false), xG 35 30 true (.callp f_unicode_utf8_word_string [(.t 34)] []), xG 36 30 true (.bin .or .int (.t 32) (.t 35)), xG 37 30 true (.bin .and .int (.t 36) (.c (.int .u64 9259542123273814144))), xG 38 30 true (.bin .eql .int (.t 37) (.c (.int .u64 0))), xS 39 (.pick (.t 30) (.t 38) (.c (.bool false)))] [0, 39] ([], []) []) (.cond (.t 39)
 (.seq (.reg [xT 40 0, xS 41 (.sl .str (.t 40) (some (xI 16)) none none false), xT 0 41] [0]) (.block 2 l_unicode_utf8_ValidString_0))
 .skip)))
 .skip)) (.exit 1)))
 .skip)) (.seq (.reg [xT 65 3, xS 66 (.bad), xS 67 (.load 0 (.t 66)), xT 4 67] [0, 4]) (.seq (.reg [xF 68 4, xS 69 (.bin .and .int (.t 68) (.c (.int .u8 7))), xS 70 (.conv (.i .i64) (.t 69)), xT 5 70] [0, 4, 5]) (.seq (.reg [xT 71 4, xS 72 (.bin .shr .int (.t 71) (.c (.int .u64 4))), xS 73 (.bad), xS 74 (.load 2 (.t 73)), xS 6 (.alloc [(.int .u8 0), (.int .u8 0)]), ⟨none, .store 2 (.t 6) (.t 74), none⟩] [0, 5, 6]) (.seq (.reg [xT 75 5] [0, 6, 75]) (.block 4 (.seq (.reg [xS 77 (.bin .eql .int (.t 75) (xI 2)), xT 76 77] [0, 6, 75, 76]) (.cond (.t 76)
 (.seq (.seq (.regd [xF 78 0, xS 79 (.len true (.t 78)), xS 80 (.bin .lss .int (.t 79) (xI 2)), xF 81 80, xG 82 81 false (.mv (.t 0) false), xG 83 81 false (.idx .str 0 (.t 82) (xI 1)), xG 84 81 false (.fa 0 (.t 6)), xG 85 81 false (.load 0 (.t 84)), xG 86 81 false (.bin .lss .int (.t 83) (.t 85)), xS 87 (.pick (.t 81) (.c (.bool true)) (.t 86)), xF 88 87, xG 89 88 false (.fa 1 (.t 6)), xG 90 88 false (.load 0 (.t 89)), xG 91 88 false (.mv (.t 0) false), xG 92 88 false (.idx .str 0 (.t 91) (xI 1)), xG 93 88 false (.bin .lss .int (.t 90) (.t 92)), xS 94 (.pick (.t 88) (.c (.bool true)) (.t 93))] [0, 94] ([], []) []) (.cond (.t 94)
 (.seq (.reg [xS 2 (.mv (.c (.bool false)) false)] [2]) .ret)
 .skip)) (.reg [xT 95 0, xS 96 (.sl .str (.t 95) (some (xI 2)) none none false), xT 0 96] [0]))
 (.seq (.reg [xS 98 (.bin .eql .int (.t 75) (xI 3)), xT 97 98] [0, 6, 75, 97]) (.cond (.t 97)
 (.seq (.seq (.regd [xF 99 0, xS 100 (.len true (.t 99)), xS 101 (.bin .lss .int (.t 100) (xI 3)), xF 102 101, xG 103 102 false (.mv (.t 0) false), xG 104 102 false (.idx .str 0 (.t 103) (xI 1)), xG 105 102 false (.fa 0 (.t 6)), xG 106 102 false (.load 0 (.t 105)), xG 107 102 false (.bin .lss .int (.t 104) (.t 106)), xS 108 (.pick (.t 102) (.c (.bool true)) (.t 107)), xF 109 108, xG 110 109 false (.fa 1 (.t 6)), xG 111 109 false (.load 0 (.t 110)), xG 112 109 false (.mv (.t 0) false), xG 113 109 false (.idx .str 0 (.t 112) (xI 1)), xG 114 109 false (.bin .lss .int (.t 111) (.t 113)), xS 115 (.pick (.t 109) (.c (.bool true)) (.t 114)), xF 116 115, xG 117 116 false (.mv (.t 0) false), xG 118 116 false (.idx .str 0 (.t 117) (xI 2)), xG 119 116 false (.bin .lss .int (.t 118) (.c (.int .u8 128))), xS 120 (.pick (.t 116) (.c (.bool true)) (.t 119)), xF 121 120, xG 122 121 false (.mv (.t 0) false), xG 123 121 false (.idx .str 0 (.t 122) (xI 2)), xG 124 121 false (.bin .lss .int (.c (.int .u8 191)) (.t 123)), xS 125 (.pick (.t 121) (.c (.bool true)) (.t 124))] [0, 125] ([], []) []) (.cond (.t 125)
 (.seq (.reg [xS 2 (.mv (.c (.bool false)) false)] [2]) .ret)
 .skip)) (.reg [xT 126 0, xS 127 (.sl .str (.t 126) (some (xI 3)) none none false), xT 0 127] [0]))
 (.seq (.reg [xS 129 (.bin .eql .int (.t 75) (xI 4)), xT 128 129] [0, 6, 128]) (.cond (.t 128)
 (.seq (.seq (.regd [xF 130 0, xS 131 (.len true (.t 130)), xS 132 (.bin .lss .int (.t 131) (xI 4)), xF 133 132, xG 134 133 false (.mv (.t 0) false), xG 135 133 false (.idx .str 0 (.t 134) (xI 1)), xG 136 133 false (.fa 0 (.t 6)), xG 137 133 false (.load 0 (.t 136)), xG 138 133 false (.bin .lss .int (.t 135) (.t 137)), xS 139 (.pick (.t 133) (.c (.bool true)) (.t 138)), xF 140 139, xG 141 140 false (.fa 1 (.t 6)), xG 142 140 false (.load 0 (.t 141)), xG 143 140 false (.mv (.t 0) false), xG 144 140 false (.idx .str 0 (.t 143) (xI 1)), xG 145 140 false (.bin .lss .int (.t 142) (.t 144)), xS 146 (.pick (.t 140) (.c (.bool true)) (.t 145)), xF 147 146, xG 148 147 false (.mv (.t 0) false), xG 149 147 false (.idx .str 0 (.t 148) (xI 2)), xG 150 147 false (.bin .lss .int (.t 149) (.c (.int .u8 128))), xS 151 (.pick (.t 147) (.c (.bool true)) (.t 150)), xF 152 151, xG 153 152 false (.mv (.t 0) false), xG 154 152 false (.idx .str 0 (.t 153) (xI 2)), xG 155 152 false (.bin .lss .int (.c (.int .u8 191)) (.t 154)), xS 156 (.pick (.t 152) (.c (.bool true)) (.t 155)), xF 157 156, xG 158 157 false (.mv (.t 0) false), xG 159 157 false (.idx .str 0 (.t 158) (xI 3)), xG 160 157 false (.bin .lss .int (.t 159) (.c (.int .u8 128))), xS 161 (.pick (.t 157) (.c (.bool true)) (.t 160)), xF 162 161, xG 163 162 false (.mv (.t 0) false), xG 164 162 false (.idx .str 0 (.t 163) (xI 3)), xG 165 162 false (.bin .lss .int (.c (.int .u8 191)) (.t 164)), xS 166 (.pick (.t 162) (.c (.bool true)) (.t 165))] [0, 166] ([], []) []) (.cond (.t 166)
 (.seq (.reg [xS 2 (.mv (.c (.bool false)) false)] [2]) .ret)
 .skip)) (.reg [xT 167 0, xS 168 (.sl .str (.t 167) (some (xI 4)) none none false), xT 0 168] [0]))
 (.seq (.reg [xS 2 (.mv (.c (.bool false)) false)] [2]) .ret))))))))))))))))
def l_unicode_utf8_ValidString_1 : ACode := .loop [0] [] bl_unicode_utf8_ValidString_1
theorem L_unicode_utf8_ValidString_1 {T : Table} (ks : List Kt) (e : Env) (h : Heap) (Q : Ex → Env → Heap → Prop) : Xc T l_unicode_utf8_ValidString_1 ks e h Q = Xc T bl_unicode_utf8_ValidString_1 (.seq l_unicode_utf8_ValidString_1 :: ks) (e.keep [0]) h Q := Xc_loop ks _ e h Q _ _
def k_unicode_utf8_ValidString : ACode := (.seq (.reg [xS 2 (.mv (.c (.bool false)) false)] [0]) (.seq (.block 0 l_unicode_utf8_ValidString_1) (.seq (.reg [xS 2 (.mv (.c (.bool true)) false)] [2]) .ret)))
def c_unicode_utf8_ValidString : AFunc := ⟨k_unicode_utf8_ValidString, 169, [.t 2], [], [], []⟩
def k_item_simple : ACode := (.seq (.reg [xS 2 (.mv (.c (.ps 1 [])) false)] [0]) (.seq (.reg [xT 6 0, xS 7 (.callp f_head_Put [(xI 7), (.t 6)] []), xT 5 7, xE 8 5 0, xE 9 5 1, xT 3 8, xT 4 9] [3]) (.seq (.reg [xT 10 3, xT 2 10] [2]) .ret)))
def c_item_simple : AFunc := ⟨k_item_simple, 11, [.t 2], [], [0], []⟩
def bl_item_counter_lay_0 : ACode := (.seq (.reg [xS 77 (.bin .lss .int (.t 76) (.t 75))] [0, 2, 16, 74, 75, 76, 77]) (.seq (.cond (.t 77)
 .skip
 (.exit 1)) (.seq (.block 2 (.seq (.reg [xS 78 (.ia (.sl 1) (.t 74) (.t 76)), xS 79 (.load 0 (.t 78)), xT 18 79] [0, 2, 16, 18, 74, 75, 76]) (.seq (.reg [xF 81 0, xT 82 18, xF 83 2, xS 84 (.bin .add .int (.t 83) (xI 1)), xS 85 (.callh f_item_counter_lay [(.t 81), (.t 82), (.t 84)]), xT 80 85, xE 86 80 0, xE 87 80 1, xT 19 86, xT 20 87] [0, 2, 16, 19, 20, 74, 75, 76]) (.seq (.seq (.reg [xF 88 20, xS 89 (.bin .neq .int (.t 88) (xI 0))] [0, 2, 16, 19, 20, 74, 75, 76, 89]) (.cond (.t 89)
 (.seq (.reg [xT 90 20, xS 6 (.mv (.c (.ps 1 [])) false), xT 7 90] [6, 7]) .ret)
 .skip)) (.reg [xT 91 16, xT 92 19, xS 93 (.app 1 1 (.t 91) (.t 92)), xT 16 93] [0, 2, 16, 74, 75, 76]))))) (.reg [xS 94 (.bin .add .int (.t 76) (xI 1)), xT 76 94] [0, 2, 16, 74, 75, 76]))))
def l_item_counter_lay_0 : ACode := .loop [0, 2, 16, 74, 75, 76] [(16, 0)] bl_item_counter_lay_0
theorem L_item_counter_lay_0 {T : Table} (ks : List Kt) (e : Env) (h : Heap) (Q : Ex → Env → Heap → Prop) : Xc T l_item_counter_lay_0 ks e h Q = Xc T bl_item_counter_lay_0 (.seq l_item_counter_lay_0 :: ks) (e.keep [0, 2, 16, 74, 75, 76]) h Q := Xc_loop ks _ e h Q _ _
def k_item_counter_lay : ACode := (.seq (.reg [xS 6 (.mv (.c (.ps 1 [])) false), xS 7 (.mv (xI 0) false)] [0, 1, 2]) (.seq (.seq (.reg [xF 21 0, xF 22 2, xS 23 (.callh f_item_counter_one [(.t 21), (.t 22)]), xT 8 23] [0, 1, 2, 8]) (.seq (.reg [xF 24 8, xS 25 (.bin .neq .int (.t 24) (xI 0))] [0, 1, 2, 8, 25]) (.cond (.t 25)
 (.seq (.reg [xT 26 8, xS 6 (.mv (.c (.ps 1 [])) false), xT 7 26] [6, 7]) .ret)
 .skip))) (.seq (.seq (.reg [xT 27 1] [0, 2, 27]) (.block 0 (.seq (.reg [xS 28 (.ta 22 (.int .u64 0) true (.t 27)), xE 29 28 1, xE 30 28 0] [0, 2, 27, 29, 30]) (.cond (.t 29)
 (.seq (.reg [xT 9 30] [9]) (.seq (.reg [xT 31 9, xS 32 (.callp f_head_Put [(xI 0), (.t 31)] []), xE 33 32 0, xE 34 32 1, xT 6 33, xT 7 34] [6, 7]) .ret))
 (.seq (.reg [xS 35 (.ta 127 (.int .u64 0) true (.t 27)), xE 36 35 1, xE 37 35 0] [0, 2, 27, 36, 37]) (.cond (.t 36)
 (.seq (.reg [xT 10 37] [10]) (.seq (.reg [xT 38 10, xS 39 (.callp f_head_Put [(xI 1), (.t 38)] []), xE 40 39 0, xE 41 39 1, xT 6 40, xT 7 41] [6, 7]) .ret))
 (.seq (.reg [xS 42 (.ta 36 (.ps 1 []) true (.t 27)), xE 43 42 1, xE 44 42 0] [0, 2, 27, 43, 44]) (.cond (.t 43)
 (.seq (.reg [xT 11 44] [11]) (.seq (.reg [xF 45 11, xS 46 (.len false (.t 45)), xT 47 11, xS 48 (.conv .bs (.t 47)), xS 49 (.callp f_item_put [(xI 2), (.t 46), (.t 48)] []), xT 6 49, xS 7 (.mv (xI 0) false)] [6, 7]) .ret))
 (.seq (.reg [xS 50 (.ta 9 (.str []) true (.t 27)), xE 51 50 1, xE 52 50 0] [0, 2, 27, 51, 52]) (.cond (.t 51)
 (.seq (.reg [xT 12 52] [12]) (.seq (.seq (.reg [xF 53 12, xS 54 (.callp f_unicode_utf8_ValidString [(.t 53)] []), xS 55 (.un .not (.t 54))] [12, 55]) (.cond (.t 55)
 (.seq (.reg [xS 6 (.mv (.c (.ps 1 [])) false), xS 7 (.mv (xI 18) false)] [6, 7]) .ret)
 .skip)) (.seq (.reg [xF 56 12, xS 57 (.len true (.t 56)), xT 58 12, xS 59 (.callp f_item_put [(xI 3), (.t 57), (.t 58)] []), xT 6 59, xS 7 (.mv (xI 0) false)] [6, 7]) .ret)))
 (.seq (.reg [xS 60 (.ta 4 (.bool false) true (.t 27)), xE 61 60 1, xE 62 60 0] [0, 2, 27, 61, 62]) (.cond (.t 61)
 (.seq (.reg [xT 13 62] [13]) (.seq (.seq (.reg [xT 63 13] [63]) (.cond (.t 63)
 (.seq (.reg [xS 64 (.callp f_item_simple [(.c (.int .u64 21))] []), xT 6 64, xS 7 (.mv (xI 0) false)] [6, 7]) .ret)
 .skip)) (.seq (.reg [xS 65 (.callp f_item_simple [(.c (.int .u64 20))] []), xT 6 65, xS 7 (.mv (xI 0) false)] [6, 7]) .ret)))
 (.seq (.reg [xS 66 (.bin .eql .ifc (.t 27) (.c .nili))] [0, 2, 27, 66]) (.cond (.t 66)
 (.seq (.reg [xT 14 27] []) (.seq (.reg [xS 67 (.callp f_item_simple [(.c (.int .u64 22))] []), xT 6 67, xS 7 (.mv (xI 0) false)] [6, 7]) .ret))
 (.seq (.reg [xS 68 (.ta 84 (.ps 1 []) true (.t 27)), xE 69 68 1, xE 70 68 0] [0, 2, 69, 70]) (.cond (.t 69)
 (.seq (.reg [xT 15 70] [0, 2, 15]) (.seq (.reg [xF 71 15, xS 72 (.len false (.t 71)), xS 73 (.callp f_item_put [(xI 4), (.t 72), (.c (.str []))] []), xT 16 73] [0, 2, 15, 16]) (.seq (.seq (.reg [xT 74 15, xS 75 (.len false (.t 74)), xS 76 (.mv (xI 0) false)] [0, 2, 16, 74, 75, 76]) (.block 1 l_item_counter_lay_0)) (.seq (.reg [xT 95 16, xT 6 95, xS 7 (.mv (xI 0) false)] [6, 7]) .ret))))
 .skip)))))))))))))))) (.seq (.reg [xS 6 (.mv (.c (.ps 1 [])) false), xS 7 (.mv (xI 18) false)] [6, 7]) .ret))))
def c_item_counter_lay : AFunc := ⟨k_item_counter_lay, 96, [.t 6, .t 7], [], [1], []⟩
def k_item_Put : ACode := (.seq (.reg [xS 2 (.mv (.c (.ps 1 [])) false), xS 3 (.mv (xI 0) false)] [0]) (.seq (.reg [xS 4 (.alloc [(.int .i64 0)]), xT 5 0, xS 6 (.callh f_item_counter_lay [(.t 4), (.t 5), (xI 0)]), xE 7 6 0, xE 8 6 1, xT 2 7, xT 3 8] [2, 3]) .ret))
def c_item_Put : AFunc := ⟨k_item_Put, 9, [.t 2, .t 3], [], [1], []⟩
def k_block_Seal_1 : ACode := (.seq (.reg [xS 3 (.mv (.c (.ps 1 [])) false), xS 4 (.mv (xI 0) false)] [0, 1]) (.seq (.reg [xS 5 (.bsl 1 [] false), xS 6 (.load 0 (.t 1)), xS 7 (.app 1 16 (.t 5) (.t 6)), xT 8 0, xS 9 (.mkif 36 (.t 8)), xS 10 (.bsl 1 [(.t 9)] false), xS 11 (.app 1 16 (.t 7) (.t 10)), xS 12 (.mkif 84 (.t 11)), xS 13 (.callp f_item_Put [(.t 12)] []), xE 14 13 0, xE 15 13 1, xT 3 14, xT 4 15] [3, 4]) .ret))
def c_block_Seal_1 : AFunc := ⟨k_block_Seal_1, 16, [.t 3, .t 4], [], [1], []⟩
def k_crc_Width : ACode := (.seq (.reg [xS 2 (.mv (xI 0) false)] [0]) (.seq (.seq (.reg [xT 3 0] [3]) (.block 0 (.seq (.reg [xS 5 (.bin .eql .int (.t 3) (xI 1)), xT 4 5] [3, 4]) (.cond (.t 4)
 (.seq (.reg [xS 2 (.mv (xI 2) false)] [2]) .ret)
 (.seq (.reg [xS 7 (.bin .eql .int (.t 3) (xI 2)), xT 6 7] [6]) (.cond (.t 6)
 (.seq (.reg [xS 2 (.mv (xI 4) false)] [2]) .ret)
 .skip)))))) (.seq (.reg [xS 2 (.mv (xI 0) false)] [2]) .ret)))
def c_crc_Width : AFunc := ⟨k_crc_Width, 8, [.t 2], [], [], []⟩
def k_block_width : ACode := (.seq (.reg [xS 2 (.mv (xI 0) false)] [0]) (.seq (.reg [xT 3 0, xS 4 (.callp f_crc_Width [(.t 3)] []), xT 2 4] [2]) .ret))
def c_block_width : AFunc := ⟨k_block_width, 5, [.t 2], [], [], []⟩
def bl_crc_bits_1_0 : ACode := (.seq (.reg [xS 11 (.bin .lss .int (.t 10) (xI 8))] [0, 2, 10, 11]) (.seq (.cond (.t 11)
 .skip
 (.exit 0)) (.seq (.block 1 (.seq (.reg [xF 12 0, xS 13 (.bin .and .int (.t 12) (.c (.int .u32 1))), xS 14 (.bin .eql .int (.t 13) (.c (.int .u32 1)))] [0, 2, 10, 14]) (.cond (.t 14)
 (.reg [xT 15 0, xS 16 (.bin .shr .int (.t 15) (.c (.int .u64 1))), xS 17 (.load 0 (.t 2)), xS 18 (.bin .xor .int (.t 16) (.t 17)), xT 0 18] [0, 2, 10])
 (.reg [xT 19 0, xS 20 (.bin .shr .int (.t 19) (.c (.int .u64 1))), xT 0 20] [0, 2, 10])))) (.reg [xS 21 (.bin .add .int (.t 10) (xI 1)), xT 10 21] [0, 2, 10]))))
def l_crc_bits_1_0 : ACode := .loop [0, 2, 10] [] bl_crc_bits_1_0
theorem L_crc_bits_1_0 {T : Table} (ks : List Kt) (e : Env) (h : Heap) (Q : Ex → Env → Heap → Prop) : Xc T l_crc_bits_1_0 ks e h Q = Xc T bl_crc_bits_1_0 (.seq l_crc_bits_1_0 :: ks) (e.keep [0, 2, 10]) h Q := Xc_loop ks _ e h Q _ _
def k_crc_bits_1 : ACode := (.seq (.reg [xS 5 (.mv (.c (.int .u32 0)) false)] [0, 1, 2]) (.seq (.reg [xT 6 0, xT 7 1, xS 8 (.conv (.i .u32) (.t 7)), xS 9 (.bin .xor .int (.t 6) (.t 8)), xT 0 9] [0, 2]) (.seq (.seq (.reg [xS 10 (.mv (xI 0) false)] [0, 2, 10]) (.block 0 l_crc_bits_1_0)) (.seq (.reg [xT 22 0, xT 5 22] [5]) .ret))))
def c_crc_bits_1 : AFunc := ⟨k_crc_bits_1, 23, [.t 5], [], [], []⟩
def k_crc_bits : ACode := (.seq (.reg [xS 1 (.box (.t 0)), xS 2 (.mv (.c .nilf) false)] [1]) (.seq (.reg [xS 3 (.mkfn f_crc_bits_1 [(.t 1)]), xT 2 3] [2]) .ret))
def c_crc_bits : AFunc := ⟨k_crc_bits, 4, [.t 2], [], [], []⟩
def bl_crc_through_0 : ACode := (.seq (.reg [xS 15 (.bin .lss .int (.t 14) (.t 13))] [0, 7, 12, 13, 14, 15]) (.seq (.cond (.t 15)
 .skip
 (.exit 0)) (.seq (.block 1 (.seq (.reg [xS 16 (.ia (.sl 1) (.t 12) (.t 14)), xS 17 (.load 0 (.t 16)), xT 9 17] [0, 7, 9, 12, 13, 14]) (.reg [xF 18 7, xT 19 0, xT 20 9, xS 21 (.callv (.t 18) [(.t 19), (.t 20)]), xT 0 21] [0, 7, 12, 13, 14]))) (.reg [xS 22 (.bin .add .int (.t 14) (xI 1)), xT 14 22] [0, 7, 12, 13, 14]))))
def l_crc_through_0 : ACode := .loop [0, 7, 12, 13, 14] [] bl_crc_through_0
theorem L_crc_through_0 {T : Table} (ks : List Kt) (e : Env) (h : Heap) (Q : Ex → Env → Heap → Prop) : Xc T l_crc_through_0 ks e h Q = Xc T bl_crc_through_0 (.seq l_crc_through_0 :: ks) (e.keep [0, 7, 12, 13, 14]) h Q := Xc_loop ks _ e h Q _ _
def k_crc_through : ACode := (.seq (.reg [xS 6 (.mv (.c (.int .u32 0)) false)] [0, 1, 2]) (.seq (.reg [xT 10 1, xS 11 (.callh f_crc_bits [(.t 10)]), xT 7 11] [0, 2, 7]) (.seq (.seq (.reg [xT 12 2, xS 13 (.len false (.t 12)), xS 14 (.mv (xI 0) false)] [0, 7, 12, 13, 14]) (.block 0 l_crc_through_0)) (.seq (.reg [xT 23 0, xT 6 23] [6]) .ret))))
def c_crc_through : AFunc := ⟨k_crc_through, 24, [.t 6], [], [], []⟩
def k_crc_GoShort : ACode := (.seq (.reg [xS 4 (.mv (.c (.int .u16 0)) false)] [0, 1]) (.seq (.reg [xT 5 0, xS 6 (.un .xor (.t 5)), xS 7 (.conv (.i .u32) (.t 6)), xT 8 1, xS 9 (.callp f_crc_through [(.t 7), (.c (.int .u32 33800)), (.t 8)] [(2, false)]), xS 10 (.conv (.i .u16) (.t 9)), xS 11 (.un .xor (.t 10)), xT 4 11] [4]) .ret))
def c_crc_GoShort : AFunc := ⟨k_crc_GoShort, 12, [.t 4], [], [], []⟩
def k_crc_Short : ACode := (.seq (.reg [xS 2 (.mv (.c (.int .u16 0)) false)] [0]) (.seq (.reg [xT 3 0, xS 4 (.callp f_crc_GoShort [(.c (.int .u16 0)), (.t 3)] [(1, false)]), xT 2 4] [2]) .ret))
def c_crc_Short : AFunc := ⟨k_crc_Short, 5, [.t 2], [], [], []⟩
def k_crc_GoLong : ACode := (.seq (.reg [xS 4 (.mv (.c (.int .u32 0)) false)] [0, 1]) (.seq (.reg [xT 5 0, xS 6 (.un .xor (.t 5)), xT 7 1, xS 8 (.callp f_crc_through [(.t 6), (.c (.int .u32 2197175160)), (.t 7)] [(2, false)]), xS 9 (.un .xor (.t 8)), xT 4 9] [4]) .ret))
def c_crc_GoLong : AFunc := ⟨k_crc_GoLong, 10, [.t 4], [], [], []⟩
def k_crc_Long : ACode := (.seq (.reg [xS 2 (.mv (.c (.int .u32 0)) false)] [0]) (.seq (.reg [xT 3 0, xS 4 (.callp f_crc_GoLong [(.c (.int .u32 0)), (.t 3)] [(1, false)]), xT 2 4] [2]) .ret))
def c_crc_Long : AFunc := ⟨k_crc_Long, 5, [.t 2], [], [], []⟩
def k_crc_Of : ACode := (.seq (.reg [xS 4 (.mv (.c (.int .u64 0)) false)] [0, 1]) (.seq (.seq (.reg [xT 5 0] [1, 5]) (.block 0 (.seq (.reg [xS 7 (.bin .eql .int (.t 5) (xI 1)), xT 6 7] [1, 5, 6]) (.cond (.t 6)
 (.seq (.reg [xT 8 1, xS 9 (.callp f_crc_Short [(.t 8)] [(0, false)]), xS 10 (.conv (.i .u64) (.t 9)), xT 4 10] [4]) .ret)
 (.seq (.reg [xS 12 (.bin .eql .int (.t 5) (xI 2)), xT 11 12] [1, 11]) (.cond (.t 11)
 (.seq (.reg [xT 13 1, xS 14 (.callp f_crc_Long [(.t 13)] [(0, false)]), xS 15 (.conv (.i .u64) (.t 14)), xT 4 15] [4]) .ret)
 .skip)))))) (.seq (.reg [xS 4 (.mv (.c (.int .u64 0)) false)] [4]) .ret)))
def c_crc_Of : AFunc := ⟨k_crc_Of, 16, [.t 4], [], [], []⟩
def k_block_sum : ACode := (.seq (.reg [xS 4 (.mv (.c (.ps 1 [])) false)] [0, 1]) (.seq (.reg [xF 5 0, xS 6 (.callp f_block_width [(.t 5)] []), xT 7 0, xT 8 1, xS 9 (.callp f_crc_Of [(.t 7), (.t 8)] [(1, false)]), xS 10 (.callp f_be_Put [(.c (.ps 1 [])), (.t 6), (.t 9)] []), xT 4 10] [4]) .ret))
def c_block_sum : AFunc := ⟨k_block_sum, 11, [.t 4], [], [0], []⟩
def k_block_Seal : ACode := (.seq (.reg [xS 2 (.box (.t 0)), xS 4 (.mv (.c (.ps 1 [])) false), xS 5 (.mv (xI 0) false)] [1, 2]) (.seq (.seq (.reg [xF 9 1, xS 10 (.bin .lss .int (.t 9) (xI 0)), xT 11 10, xG 12 11 false (.mv (.t 1) false), xG 13 11 false (.bin .gtr .int (.t 12) (xI 2)), xS 14 (.pick (.t 11) (.c (.bool true)) (.t 13))] [1, 2, 14]) (.cond (.t 14)
 (.seq (.reg [xS 4 (.mv (.c (.ps 1 [])) false), xS 5 (.mv (xI 2) false)] [4, 5]) .ret)
 .skip)) (.seq (.seq (.reg [xF 15 1, xS 16 (.bin .eql .int (.t 15) (xI 0))] [1, 2, 16]) (.cond (.t 16)
 (.seq (.reg [xS 17 (.bsl 1 [] false), xS 18 (.load 0 (.t 2)), xS 19 (.app 1 16 (.t 17) (.t 18)), xS 20 (.mkif 84 (.t 19)), xS 21 (.callp f_item_Put [(.t 20)] []), xE 22 21 0, xE 23 21 1, xT 4 22, xT 5 23] [4, 5]) .ret)
 .skip)) (.seq (.reg [xS 24 (.mkfn f_block_Seal_1 [(.t 2)]), xT 6 24] [1, 6]) (.seq (.reg [xF 26 6, xF 27 1, xS 28 (.callp f_block_width [(.t 27)] []), xS 29 (.mksl 1 1 (.int .u8 0) (.t 28) (.t 28) false), xS 30 (.callv (.t 26) [(.t 29)]), xT 25 30, xE 31 25 0, xE 32 25 1, xT 7 31, xT 8 32] [1, 6, 7, 8]) (.seq (.seq (.reg [xF 33 8, xS 34 (.bin .neq .int (.t 33) (xI 0))] [1, 6, 7, 8, 34]) (.cond (.t 34)
 (.seq (.reg [xT 35 8, xS 4 (.mv (.c (.ps 1 [])) false), xT 5 35] [4, 5]) .ret)
 .skip)) (.seq (.reg [xT 36 6, xT 37 1, xT 38 7, xS 39 (.callp f_block_sum [(.t 37), (.t 38)] []), xS 40 (.callv (.t 36) [(.t 39)]), xE 41 40 0, xE 42 40 1, xT 4 41, xT 5 42] [4, 5]) .ret)))))))
def c_block_Seal : AFunc := ⟨k_block_Seal, 43, [.t 4, .t 5], [], [], []⟩
def k_primary_Put : ACode := (.seq (.reg [xS 1 (.box (.t 0)), xS 2 (.mv (.c (.ps 1 [])) false), xS 3 (.mv (xI 0) false)] [1]) (.seq (.seq (.reg [xS 7 (.load 19 (.t 1)), xS 8 (.callp f_primary_Check [(.t 7)] []), xT 4 8] [1, 4]) (.seq (.reg [xF 9 4, xS 10 (.bin .neq .int (.t 9) (xI 0))] [1, 4, 10]) (.cond (.t 10)
 (.seq (.reg [xT 11 4, xS 2 (.mv (.c (.ps 1 [])) false), xT 3 11] [2, 3]) .ret)
 .skip))) (.seq (.reg [xS 12 (.mkif 22 (.c (.int .u64 7))), xS 13 (.fa 0 (.t 1)), xS 14 (.load 0 (.t 13)), xS 15 (.mkif 22 (.t 14)), xS 16 (.fa 1 (.t 1)), xS 17 (.load 0 (.t 16)), xS 18 (.conv (.i .u64) (.t 17)), xS 19 (.mkif 22 (.t 18)), xS 20 (.bsl 1 [(.t 12), (.t 15), (.t 19)] true), xS 5 (.alloc [(.hn 1)]), ⟨none, .store 1 (.t 5) (.t 20), none⟩] [1, 5]) (.seq (.reg [xS 21 (.mkfn f_primary_Put_1 [(.t 5)]), xT 6 21] [1, 5, 6]) (.seq (.reg [xF 22 6, xS 23 (.fa 2 (.t 1)), xS 24 (.load 4 (.t 23)), xS 25 (.callv (.t 22) [(.t 24)])] [1, 5, 6]) (.seq (.reg [xF 26 6, xS 27 (.fa 6 (.t 1)), xS 28 (.load 4 (.t 27)), xS 29 (.callv (.t 26) [(.t 28)])] [1, 5, 6]) (.seq (.reg [xT 30 6, xS 31 (.fa 10 (.t 1)), xS 32 (.load 4 (.t 31)), xS 33 (.callv (.t 30) [(.t 32)])] [1, 5]) (.seq (.regd [xS 34 (.load 0 (.t 5)), xS 35 (.fa 14 (.t 1)), xS 36 (.load 2 (.t 35)), xS 37 (.callp f_stamp_Value [(.t 36)] []), xS 38 (.fa 16 (.t 1)), xS 39 (.load 0 (.t 38)), xS 40 (.mkif 22 (.t 39)), xS 41 (.bsl 1 [(.t 37), (.t 40)] false), xS 42 (.apph 1 16 (.t 34) (.t 41)), ⟨none, .store 1 (.t 5) (.t 42), none⟩] [1, 5] ([], []) []) (.seq (.seq (.reg [xS 43 (.load 19 (.t 1)), xS 44 (.callp f_primary_Fragment [(.t 43)] [])] [1, 5, 44]) (.cond (.t 44)
 (.reg [xS 45 (.load 0 (.t 5)), xS 46 (.fa 17 (.t 1)), xS 47 (.load 0 (.t 46)), xS 48 (.mkif 22 (.t 47)), xS 49 (.fa 18 (.t 1)), xS 50 (.load 0 (.t 49)), xS 51 (.mkif 22 (.t 50)), xS 52 (.bsl 1 [(.t 48), (.t 51)] false), xS 53 (.apph 1 16 (.t 45) (.t 52)), ⟨none, .store 1 (.t 5) (.t 53), none⟩] [1, 5])
 .skip)) (.seq (.reg [xS 54 (.ldz 0 (.t 5) false), xS 55 (.fa 1 (.t 1)), xS 56 (.load 0 (.t 55)), xS 57 (.callp f_block_Seal [(.t 54), (.t 56)] []), xE 58 57 0, xE 59 57 1, xT 2 58, xT 3 59] [2, 3]) .ret))))))))))
def c_primary_Put : AFunc := ⟨k_primary_Put, 60, [.t 2, .t 3], [], [], []⟩
def k_block_values : ACode := (.seq (.reg [xS 1 (.box (.t 0)), xS 2 (.mv (.c (.ps 1 [])) false)] [1]) (.seq (.reg [xS 3 (.fa 0 (.t 1)), xS 4 (.load 0 (.t 3)), xS 5 (.mkif 22 (.t 4)), xS 6 (.fa 1 (.t 1)), xS 7 (.load 0 (.t 6)), xS 8 (.mkif 22 (.t 7)), xS 9 (.fa 2 (.t 1)), xS 10 (.load 0 (.t 9)), xS 11 (.mkif 22 (.t 10)), xS 12 (.fa 3 (.t 1)), xS 13 (.load 0 (.t 12)), xS 14 (.conv (.i .u64) (.t 13)), xS 15 (.mkif 22 (.t 14)), xS 16 (.fa 4 (.t 1)), xS 17 (.load 0 (.t 16)), xS 18 (.conv .sb (.t 17)), xS 19 (.mkif 36 (.t 18)), xS 20 (.bsl 1 [(.t 5), (.t 8), (.t 11), (.t 15), (.t 19)] false), xT 2 20] [2]) .ret))
def c_block_values : AFunc := ⟨k_block_values, 21, [.t 2], [], [0], []⟩
def k_block_Put : ACode := (.seq (.reg [xS 1 (.box (.t 0)), xS 2 (.mv (.c (.ps 1 [])) false), xS 3 (.mv (xI 0) false)] [1]) (.seq (.seq (.reg [xS 5 (.load 5 (.t 1)), xS 6 (.callp f_block_Check [(.t 5)] []), xT 4 6] [1, 4]) (.seq (.reg [xF 7 4, xS 8 (.bin .neq .int (.t 7) (xI 0))] [1, 4, 8]) (.cond (.t 8)
 (.seq (.reg [xT 9 4, xS 2 (.mv (.c (.ps 1 [])) false), xT 3 9] [2, 3]) .ret)
 .skip))) (.seq (.regd [xS 10 (.load 5 (.t 1)), xS 11 (.callp f_block_values [(.t 10)] []), xS 12 (.fa 3 (.t 1)), xS 13 (.load 0 (.t 12)), xS 14 (.callp f_block_Seal [(.t 11), (.t 13)] []), xE 15 14 0, xE 16 14 1, xF 2 15, xT 3 16] [2, 3] ([], [(1, [(11, 0)])]) []) .ret)))
def c_block_Put : AFunc := ⟨k_block_Put, 17, [.t 2, .t 3], [], [], []⟩
def k_head_Break : ACode := (.seq (.reg [xS 0 (.mv (.c (.ps 1 [])) false)] []) (.seq (.reg [xS 1 (.bsl 1 [(.c (.int .u8 255))] false), xT 0 1] [0]) .ret))
def c_head_Break : AFunc := ⟨k_head_Break, 2, [.t 0], [], [0], []⟩
def bl_bundle_Put_0 : ACode := (.seq (.reg [xS 42 (.bin .lss .int (.t 41) (.t 40))] [5, 39, 40, 41, 42]) (.seq (.cond (.t 42)
 .skip
 (.exit 0)) (.seq (.block 1 (.seq (.reg [xS 43 (.ia (.sl 5) (.t 39) (.t 41)), xS 44 (.load 5 (.t 43)), xS 9 (.alloc [(.int .u64 0), (.int .u64 0), (.int .u64 0), (.int .i64 0), (.str [])]), ⟨none, .store 5 (.t 9) (.t 44), none⟩] [5, 9, 39, 40, 41]) (.seq (.reg [xS 46 (.load 5 (.t 9)), xS 47 (.callp f_block_Put [(.t 46)] []), xT 45 47, xE 48 45 0, xE 49 45 1, xT 10 48, xT 11 49] [5, 10, 39, 40, 41]) (.reg [xT 50 5, xT 51 10, xS 52 (.app 1 1 (.t 50) (.t 51)), xT 5 52] [5, 39, 40, 41])))) (.reg [xS 53 (.bin .add .int (.t 41) (xI 1)), xT 41 53] [5, 39, 40, 41]))))
def l_bundle_Put_0 : ACode := .loop [5, 39, 40, 41] [(5, 0), (39, 0)] bl_bundle_Put_0
theorem L_bundle_Put_0 {T : Table} (ks : List Kt) (e : Env) (h : Heap) (Q : Ex → Env → Heap → Prop) : Xc T l_bundle_Put_0 ks e h Q = Xc T bl_bundle_Put_0 (.seq l_bundle_Put_0 :: ks) (e.keep [5, 39, 40, 41]) h Q := Xc_loop ks _ e h Q _ _
def k_bundle_Put : ACode := (.seq (.reg [xS 1 (.box (.t 0)), xS 2 (.mv (.c (.ps 1 [])) false), xS 3 (.mv (xI 0) false)] [1]) (.seq (.seq (.reg [xS 12 (.load 25 (.t 1)), xS 13 (.callp f_bundle_Check [(.t 12)] []), xT 4 13] [1, 4]) (.seq (.reg [xF 14 4, xS 15 (.bin .neq .int (.t 14) (xI 0))] [1, 4, 15]) (.cond (.t 15)
 (.seq (.reg [xT 16 4, xS 2 (.mv (.c (.ps 1 [])) false), xT 3 16] [2, 3]) .ret)
 .skip))) (.seq (.reg [xS 17 (.callp f_head_Open [] []), xT 5 17] [1, 5]) (.seq (.reg [xS 19 (.fa 0 (.t 1)), xS 20 (.load 19 (.t 19)), xS 21 (.callp f_primary_Put [(.t 20)] []), xT 18 21, xE 22 18 0, xE 23 18 1, xT 6 22, xT 7 23] [1, 5, 6]) (.seq (.reg [xT 24 5, xT 25 6, xS 26 (.app 1 1 (.t 24) (.t 25)), xT 5 26] [1, 5]) (.seq (.seq (.regd [xS 27 (.fa 19 (.t 1)), xS 28 (.load 0 (.t 27)), xS 29 (.fa 19 (.t 1)), xS 30 (.load 0 (.t 29)), xS 31 (.len false (.t 30)), xS 32 (.fa 19 (.t 1)), xS 33 (.load 0 (.t 32)), xS 34 (.len false (.t 33)), xS 35 (.sl (.sl 5) (.t 28) none (some (.t 31)) (some (.t 34)) true), xS 36 (.fa 20 (.t 1)), xS 37 (.load 5 (.t 36)), xS 38 (.bsl 5 [(.t 37)] false), xS 39 (.app 5 48 (.t 35) (.t 38)), xS 40 (.len false (.t 39)), xS 41 (.mv (xI 0) false)] [5, 39, 40, 41] ([(5, 0)], [(8, [(5, 0), (35, 0)]), (12, [(5, 0), (39, 0)])]) []) (.block 0 l_bundle_Put_0)) (.seq (.reg [xT 54 5, xS 55 (.callp f_head_Break [] []), xS 56 (.app 1 1 (.t 54) (.t 55)), xT 2 56, xS 3 (.mv (xI 0) false)] [2, 3]) .ret)))))))
def c_bundle_Put : AFunc := ⟨k_bundle_Put, 57, [.t 2, .t 3], [], [1], []⟩
def k_head_Is : ACode := (.seq (.reg [xS 4 (.mv (.c (.bool false)) false)] [0, 1]) (.seq (.regd [xF 5 0, xS 6 (.len false (.t 5)), xF 7 1, xS 8 (.len false (.t 7)), xS 9 (.bin .geq .int (.t 6) (.t 8)), xF 10 9, xG 11 10 true (.mv (.t 0) false), xG 12 10 true (.mv (.t 1) false), xG 13 10 true (.len false (.t 12)), xG 14 10 true (.sl (.sl 1) (.t 11) none (some (.t 13)) none false), xG 15 10 true (.conv .bs (.t 14)), xG 16 10 true (.mv (.t 1) false), xG 17 10 true (.conv .bs (.t 16)), xG 18 10 true (.bin .eql .str (.t 15) (.t 17)), xS 19 (.pick (.t 10) (.t 18) (.c (.bool false))), xT 4 19] [4] ([], []) []) .ret))
def c_head_Is : AFunc := ⟨k_head_Is, 20, [.t 4], [], [], []⟩
def k_be_Get_1 : ACode := (.seq (.reg [xS 3 (.mv (.c (.int .u64 0)) false)] [0, 1]) (.seq (.seq (.reg [xF 4 0, xS 5 (.bin .lss .int (.t 4) (xI 0)), xT 6 5, xG 7 6 false (.mv (.t 0) false), xG 8 6 false (.load 0 (.t 1)), xG 9 6 false (.len false (.t 8)), xG 10 6 false (.bin .geq .int (.t 7) (.t 9)), xS 11 (.pick (.t 6) (.c (.bool true)) (.t 10))] [0, 1, 11]) (.cond (.t 11)
 (.seq (.reg [xS 3 (.mv (.c (.int .u64 0)) false)] [3]) .ret)
 .skip)) (.seq (.reg [xS 12 (.load 0 (.t 1)), xT 13 0, xS 14 (.ia (.sl 1) (.t 12) (.t 13)), xS 15 (.load 0 (.t 14)), xS 16 (.conv (.i .u64) (.t 15)), xT 3 16] [3]) .ret)))
def c_be_Get_1 : AFunc := ⟨k_be_Get_1, 17, [.t 3], [], [], []⟩
def bl_be_Get_0 : ACode := (.seq (.reg [xS 22 (.bin .lss .int (.t 21) (.t 20))] [1, 7, 8, 20, 21, 22]) (.seq (.cond (.t 22)
 .skip
 (.exit 0)) (.seq (.block 1 (.seq (.reg [xF 23 21, xT 9 23] [1, 7, 8, 9, 20, 21]) (.reg [xT 24 7, xS 25 (.bin .shl .int (.t 24) (.c (.int .u64 8))), xF 26 8, xF 27 1, xT 28 9, xS 29 (.bin .add .int (.t 27) (.t 28)), xS 30 (.callv (.t 26) [(.t 29)]), xS 31 (.bin .or .int (.t 25) (.t 30)), xT 7 31] [1, 7, 8, 20, 21]))) (.reg [xS 32 (.bin .add .int (.t 21) (xI 1)), xT 21 32] [1, 7, 8, 20, 21]))))
def l_be_Get_0 : ACode := .loop [1, 7, 8, 20, 21] [] bl_be_Get_0
theorem L_be_Get_0 {T : Table} (ks : List Kt) (e : Env) (h : Heap) (Q : Ex → Env → Heap → Prop) : Xc T l_be_Get_0 ks e h Q = Xc T bl_be_Get_0 (.seq l_be_Get_0 :: ks) (e.keep [1, 7, 8, 20, 21]) h Q := Xc_loop ks _ e h Q _ _
def k_be_Get : ACode := (.seq (.reg [xS 3 (.box (.t 0)), xS 6 (.mv (.c (.int .u64 0)) false)] [1, 2, 3]) (.seq (.reg [xS 7 (.mv (.c (.int .u64 0)) false)] [1, 2, 3, 7]) (.seq (.reg [xS 10 (.mkfn f_be_Get_1 [(.t 3)]), xT 8 10] [1, 2, 3, 7, 8]) (.seq (.seq (.reg [xF 11 1, xS 12 (.load 0 (.t 3)), xS 13 (.len false (.t 12)), xS 14 (.bin .gtr .int (.t 11) (.t 13))] [1, 2, 3, 7, 8, 14]) (.cond (.t 14)
 (.reg [xS 15 (.load 0 (.t 3)), xS 16 (.len false (.t 15)), xT 1 16] [1, 2, 7, 8])
 .skip)) (.seq (.reg [xT 17 1, xS 18 (.mx true [(.t 17), (.c (.int .i64 (-8)))]), xT 1 18] [1, 2, 7, 8]) (.seq (.seq (.reg [xT 19 2, xS 20 (.callp f_be_width [(.t 19)] []), xS 21 (.mv (xI 0) false)] [1, 7, 8, 20, 21]) (.block 0 l_be_Get_0)) (.seq (.reg [xT 33 7, xT 6 33] [6]) .ret)))))))
def c_be_Get : AFunc := ⟨k_be_Get, 34, [.t 6], [], [], []⟩
def k_head_Get : ACode := (.seq (.reg [xS 2 (.mv (xI 0) false), xS 3 (.mv (.c (.int .u64 0)) false), xS 4 (.mv (xI 0) false), xS 5 (.mv (xI 0) false)] [0]) (.seq (.seq (.reg [xF 10 0, xS 11 (.len false (.t 10)), xS 12 (.bin .eql .int (.t 11) (xI 0))] [0, 12]) (.cond (.t 12)
 (.seq (.reg [xS 2 (.mv (xI 0) false), xS 3 (.mv (.c (.int .u64 0)) false), xS 4 (.mv (xI 0) false), xS 5 (.mv (xI 5) false)] [2, 3, 4, 5]) .ret)
 .skip)) (.seq (.regd [xF 13 0, xS 14 (.ia (.sl 1) (.t 13) (xI 0)), xS 15 (.load 0 (.t 14)), xS 16 (.bin .shr .int (.t 15) (.c (.int .u64 5))), xS 17 (.conv (.i .i64) (.t 16)), xF 18 0, xS 19 (.ia (.sl 1) (.t 18) (xI 0)), xS 20 (.load 0 (.t 19)), xS 21 (.bin .and .int (.t 20) (.c (.int .u8 31))), xS 22 (.conv (.i .i64) (.t 21)), xF 6 17, xT 7 22] [0, 6, 7] ([], []) []) (.seq (.seq (.reg [xF 23 7, xS 24 (.bin .lss .int (.t 23) (xI 24))] [0, 6, 7, 24]) (.cond (.t 24)
 (.seq (.reg [xT 25 6, xT 26 7, xS 27 (.conv (.i .u64) (.t 26)), xT 2 25, xT 3 27, xS 4 (.mv (xI 1) false), xS 5 (.mv (xI 0) false)] [2, 3, 4, 5]) .ret)
 .skip)) (.seq (.seq (.reg [xF 28 7, xS 29 (.bin .gtr .int (.t 28) (xI 27))] [0, 6, 7, 29]) (.cond (.t 29)
 (.seq (.reg [xS 2 (.mv (xI 0) false), xS 3 (.mv (.c (.int .u64 0)) false), xS 4 (.mv (xI 0) false), xS 5 (.mv (xI 6) false)] [2, 3, 4, 5]) .ret)
 .skip)) (.seq (.reg [xT 30 7, xS 31 (.bin .sub .int (.t 30) (xI 24)), xS 32 (.bin .shl .int (xI 1) (.t 31)), xT 8 32] [0, 6, 8]) (.seq (.seq (.reg [xF 33 0, xS 34 (.len false (.t 33)), xF 35 8, xS 36 (.bin .add .int (xI 1) (.t 35)), xS 37 (.bin .lss .int (.t 34) (.t 36))] [0, 6, 8, 37]) (.cond (.t 37)
 (.seq (.reg [xS 2 (.mv (xI 0) false), xS 3 (.mv (.c (.int .u64 0)) false), xS 4 (.mv (xI 0) false), xS 5 (.mv (xI 5) false)] [2, 3, 4, 5]) .ret)
 .skip)) (.seq (.reg [xT 38 0, xF 39 8, xS 40 (.callp f_be_Get [(.t 38), (xI 1), (.t 39)] [(0, false)]), xT 9 40] [6, 8, 9]) (.seq (.seq (.reg [xF 41 9, xS 42 (.callp f_head_wide [(.t 41)] []), xF 43 8, xS 44 (.bin .neq .int (.t 42) (.t 43))] [6, 8, 9, 44]) (.cond (.t 44)
 (.seq (.reg [xS 2 (.mv (xI 0) false), xS 3 (.mv (.c (.int .u64 0)) false), xS 4 (.mv (xI 0) false), xS 5 (.mv (xI 6) false)] [2, 3, 4, 5]) .ret)
 .skip)) (.seq (.reg [xT 45 6, xT 46 9, xT 47 8, xS 48 (.bin .add .int (xI 1) (.t 47)), xT 2 45, xT 3 46, xT 4 48, xS 5 (.mv (xI 0) false)] [2, 3, 4, 5]) .ret))))))))))
def c_head_Get : AFunc := ⟨k_head_Get, 49, [.t 2, .t 3, .t 4, .t 5], [], [], []⟩
def k_unicode_utf8_word_byte : ACode := (.seq (.reg [xS 2 (.mv (.c (.int .u64 0)) false)] [0]) (.seq (.cond (.c (.bool false))
 (.seq (.regd [xF 3 0, xS 4 (.ia (.sl 1) (.t 3) (xI 0)), xS 5 (.load 0 (.t 4)), xS 6 (.conv (.i .u64) (.t 5)), xF 7 0, xS 8 (.ia (.sl 1) (.t 7) (xI 1)), xS 9 (.load 0 (.t 8)), xS 10 (.conv (.i .u64) (.t 9)), xS 11 (.bin .shl .int (.t 10) (.c (.int .u64 8))), xS 12 (.bin .or .int (.t 6) (.t 11)), xF 13 0, xS 14 (.ia (.sl 1) (.t 13) (xI 2)), xS 15 (.load 0 (.t 14)), xS 16 (.conv (.i .u64) (.t 15)), xS 17 (.bin .shl .int (.t 16) (.c (.int .u64 16))), xS 18 (.bin .or .int (.t 12) (.t 17)), xF 19 0, xS 20 (.ia (.sl 1) (.t 19) (xI 3)), xS 21 (.load 0 (.t 20)), xS 22 (.conv (.i .u64) (.t 21)), xS 23 (.bin .shl .int (.t 22) (.c (.int .u64 24))), xS 24 (.bin .or .int (.t 18) (.t 23)), xT 2 24] [2] ([], []) []) .ret)
 .skip) (.seq (.regd [xF 25 0, xS 26 (.ia (.sl 1) (.t 25) (xI 0)), xS 27 (.load 0 (.t 26)), xS 28 (.conv (.i .u64) (.t 27)), xF 29 0, xS 30 (.ia (.sl 1) (.t 29) (xI 1)), xS 31 (.load 0 (.t 30)), xS 32 (.conv (.i .u64) (.t 31)), xS 33 (.bin .shl .int (.t 32) (.c (.int .u64 8))), xS 34 (.bin .or .int (.t 28) (.t 33)), xF 35 0, xS 36 (.ia (.sl 1) (.t 35) (xI 2)), xS 37 (.load 0 (.t 36)), xS 38 (.conv (.i .u64) (.t 37)), xS 39 (.bin .shl .int (.t 38) (.c (.int .u64 16))), xS 40 (.bin .or .int (.t 34) (.t 39)), xF 41 0, xS 42 (.ia (.sl 1) (.t 41) (xI 3)), xS 43 (.load 0 (.t 42)), xS 44 (.conv (.i .u64) (.t 43)), xS 45 (.bin .shl .int (.t 44) (.c (.int .u64 24))), xS 46 (.bin .or .int (.t 40) (.t 45)), xF 47 0, xS 48 (.ia (.sl 1) (.t 47) (xI 4)), xS 49 (.load 0 (.t 48)), xS 50 (.conv (.i .u64) (.t 49)), xS 51 (.bin .shl .int (.t 50) (.c (.int .u64 32))), xS 52 (.bin .or .int (.t 46) (.t 51)), xF 53 0, xS 54 (.ia (.sl 1) (.t 53) (xI 5)), xS 55 (.load 0 (.t 54)), xS 56 (.conv (.i .u64) (.t 55)), xS 57 (.bin .shl .int (.t 56) (.c (.int .u64 40))), xS 58 (.bin .or .int (.t 52) (.t 57)), xF 59 0, xS 60 (.ia (.sl 1) (.t 59) (xI 6)), xS 61 (.load 0 (.t 60)), xS 62 (.conv (.i .u64) (.t 61)), xS 63 (.bin .shl .int (.t 62) (.c (.int .u64 48))), xS 64 (.bin .or .int (.t 58) (.t 63)), xF 65 0, xS 66 (.ia (.sl 1) (.t 65) (xI 7)), xS 67 (.load 0 (.t 66)), xS 68 (.conv (.i .u64) (.t 67)), xS 69 (.bin .shl .int (.t 68) (.c (.int .u64 56))), xS 70 (.bin .or .int (.t 64) (.t 69)), xT 2 70] [2] ([], []) []) .ret)))
def c_unicode_utf8_word_byte : AFunc := ⟨k_unicode_utf8_word_byte, 71, [.t 2], [], [], []⟩
def bl_unicode_utf8_Valid_0 : ACode := (.seq (.seq (.regd [xF 49 0, xS 50 (.len false (.t 49)), xS 51 (.bin .gtr .int (.t 50) (xI 32)), xF 52 51, xG 53 52 true (.mv (.t 0) false), xG 54 52 true (.callp f_unicode_utf8_word_byte [(.t 53)] [(0, false)]), xG 55 52 true (.mv (.t 0) false), xG 56 52 true (.sl (.sl 1) (.t 55) (some (xI 8)) none none false), xG 57 52 true (.callp f_unicode_utf8_word_byte [(.t 56)] [(0, false)]), xG 58 52 true (.bin .or .int (.t 54) (.t 57)), xG 59 52 true (.mv (.t 0) false), xG 60 52 true (.sl (.sl 1) (.t 59) (some (xI 16)) none none false), xG 61 52 true (.callp f_unicode_utf8_word_byte [(.t 60)] [(0, false)]), xG 62 52 true (.mv (.t 0) false), xG 63 52 true (.sl (.sl 1) (.t 62) (some (xI 24)) none none false), xG 64 52 true (.callp f_unicode_utf8_word_byte [(.t 63)] [(0, false)]), xG 65 52 true (.bin .or .int (.t 61) (.t 64)), xG 66 52 true (.bin .or .int (.t 58) (.t 65)), xG 67 52 true (.bin .and .int (.t 66) (.c (.int .u64 9259542123273814144))), xG 68 52 true (.bin .eql .int (.t 67) (.c (.int .u64 0))), xS 69 (.pick (.t 52) (.t 68) (.c (.bool false)))] [0, 69] ([], []) []) (.cond (.t 69)
 .skip
 (.exit 2))) (.block 3 (.reg [xT 70 0, xS 71 (.sl (.sl 1) (.t 70) (some (xI 32)) none none false), xT 0 71] [0])))
def l_unicode_utf8_Valid_0 : ACode := .loop [0] [] bl_unicode_utf8_Valid_0
theorem L_unicode_utf8_Valid_0 {T : Table} (ks : List Kt) (e : Env) (h : Heap) (Q : Ex → Env → Heap → Prop) : Xc T l_unicode_utf8_Valid_0 ks e h Q = Xc T bl_unicode_utf8_Valid_0 (.seq l_unicode_utf8_Valid_0 :: ks) (e.keep [0]) h Q := Xc_loop ks _ e h Q _ _
def bl_unicode_utf8_Valid_1 : ACode := (.seq (.seq (.reg [xF 13 0, xS 14 (.len false (.t 13)), xS 15 (.bin .gtr .int (.t 14) (xI 0))] [0, 15]) (.cond (.t 15)
 .skip
 (.exit 0))) (.block 1 (.seq (.reg [xF 16 0, xS 17 (.ia (.sl 1) (.t 16) (xI 0)), xS 18 (.load 0 (.t 17)), xT 3 18] [0, 3]) (.seq (.seq (.reg [xF 19 3, xS 20 (.bin .lss .int (.t 19) (.c (.int .u8 128)))] [0, 3, 20]) (.cond (.t 20)
 (.seq (.reg [xT 21 0, xS 22 (.sl (.sl 1) (.t 21) (some (xI 1)) none none false), xT 0 22] [0]) (.seq (.seq (.reg [xF 23 0, xS 24 (.len false (.t 23)), xS 25 (.bin .gtr .int (.t 24) (xI 8)), xT 26 25, xG 27 26 true (.mv (.t 0) false), xG 28 26 true (.callp f_unicode_utf8_word_byte [(.t 27)] [(0, false)]), xG 29 26 true (.bin .and .int (.t 28) (.c (.int .u64 9259542123273814144))), xG 30 26 true (.bin .eql .int (.t 29) (.c (.int .u64 0))), xS 31 (.pick (.t 26) (.t 30) (.c (.bool false)))] [0, 31]) (.cond (.t 31)
 (.seq (.reg [xT 32 0, xS 33 (.sl (.sl 1) (.t 32) (some (xI 8)) none none false), xT 0 33] [0]) (.seq (.regd [xF 34 0, xS 35 (.len false (.t 34)), xS 36 (.bin .gtr .int (.t 35) (xI 16)), xF 37 36, xG 38 37 true (.mv (.t 0) false), xG 39 37 true (.callp f_unicode_utf8_word_byte [(.t 38)] [(0, false)]), xG 40 37 true (.mv (.t 0) false), xG 41 37 true (.sl (.sl 1) (.t 40) (some (xI 8)) none none false), xG 42 37 true (.callp f_unicode_utf8_word_byte [(.t 41)] [(0, false)]), xG 43 37 true (.bin .or .int (.t 39) (.t 42)), xG 44 37 true (.bin .and .int (.t 43) (.c (.int .u64 9259542123273814144))), xG 45 37 true (.bin .eql .int (.t 44) (.c (.int .u64 0))), xS 46 (.pick (.t 37) (.t 45) (.c (.bool false)))] [0, 46] ([], []) []) (.cond (.t 46)
 (.seq (.reg [xT 47 0, xS 48 (.sl (.sl 1) (.t 47) (some (xI 16)) none none false), xT 0 48] [0]) (.block 2 l_unicode_utf8_Valid_0))
 .skip)))
 .skip)) (.exit 1)))
 .skip)) (.seq (.reg [xT 72 3, xS 73 (.bad), xS 74 (.load 0 (.t 73)), xT 4 74] [0, 4]) (.seq (.reg [xF 75 4, xS 76 (.bin .and .int (.t 75) (.c (.int .u8 7))), xS 77 (.conv (.i .i64) (.t 76)), xT 5 77] [0, 4, 5]) (.seq (.reg [xT 78 4, xS 79 (.bin .shr .int (.t 78) (.c (.int .u64 4))), xS 80 (.bad), xS 81 (.load 2 (.t 80)), xS 6 (.alloc [(.int .u8 0), (.int .u8 0)]), ⟨none, .store 2 (.t 6) (.t 81), none⟩] [0, 5, 6]) (.seq (.reg [xT 82 5] [0, 6, 82]) (.block 4 (.seq (.reg [xS 84 (.bin .eql .int (.t 82) (xI 2)), xT 83 84] [0, 6, 82, 83]) (.cond (.t 83)
 (.seq (.seq (.regd [xF 85 0, xS 86 (.len false (.t 85)), xS 87 (.bin .lss .int (.t 86) (xI 2)), xF 88 87, xG 89 88 false (.mv (.t 0) false), xG 90 88 false (.ia (.sl 1) (.t 89) (xI 1)), xG 91 88 false (.load 0 (.t 90)), xG 92 88 false (.fa 0 (.t 6)), xG 93 88 false (.load 0 (.t 92)), xG 94 88 false (.bin .lss .int (.t 91) (.t 93)), xS 95 (.pick (.t 88) (.c (.bool true)) (.t 94)), xF 96 95, xG 97 96 false (.fa 1 (.t 6)), xG 98 96 false (.load 0 (.t 97)), xG 99 96 false (.mv (.t 0) false), xG 100 96 false (.ia (.sl 1) (.t 99) (xI 1)), xG 101 96 false (.load 0 (.t 100)), xG 102 96 false (.bin .lss .int (.t 98) (.t 101)), xS 103 (.pick (.t 96) (.c (.bool true)) (.t 102))] [0, 103] ([], []) []) (.cond (.t 103)
 (.seq (.reg [xS 2 (.mv (.c (.bool false)) false)] [2]) .ret)
 .skip)) (.reg [xT 104 0, xS 105 (.sl (.sl 1) (.t 104) (some (xI 2)) none none false), xT 0 105] [0]))
 (.seq (.reg [xS 107 (.bin .eql .int (.t 82) (xI 3)), xT 106 107] [0, 6, 82, 106]) (.cond (.t 106)
 (.seq (.seq (.regd [xF 108 0, xS 109 (.len false (.t 108)), xS 110 (.bin .lss .int (.t 109) (xI 3)), xF 111 110, xG 112 111 false (.mv (.t 0) false), xG 113 111 false (.ia (.sl 1) (.t 112) (xI 1)), xG 114 111 false (.load 0 (.t 113)), xG 115 111 false (.fa 0 (.t 6)), xG 116 111 false (.load 0 (.t 115)), xG 117 111 false (.bin .lss .int (.t 114) (.t 116)), xS 118 (.pick (.t 111) (.c (.bool true)) (.t 117)), xF 119 118, xG 120 119 false (.fa 1 (.t 6)), xG 121 119 false (.load 0 (.t 120)), xG 122 119 false (.mv (.t 0) false), xG 123 119 false (.ia (.sl 1) (.t 122) (xI 1)), xG 124 119 false (.load 0 (.t 123)), xG 125 119 false (.bin .lss .int (.t 121) (.t 124)), xS 126 (.pick (.t 119) (.c (.bool true)) (.t 125)), xF 127 126, xG 128 127 false (.mv (.t 0) false), xG 129 127 false (.ia (.sl 1) (.t 128) (xI 2)), xG 130 127 false (.load 0 (.t 129)), xG 131 127 false (.bin .lss .int (.t 130) (.c (.int .u8 128))), xS 132 (.pick (.t 127) (.c (.bool true)) (.t 131)), xF 133 132, xG 134 133 false (.mv (.t 0) false), xG 135 133 false (.ia (.sl 1) (.t 134) (xI 2)), xG 136 133 false (.load 0 (.t 135)), xG 137 133 false (.bin .lss .int (.c (.int .u8 191)) (.t 136)), xS 138 (.pick (.t 133) (.c (.bool true)) (.t 137))] [0, 138] ([], []) []) (.cond (.t 138)
 (.seq (.reg [xS 2 (.mv (.c (.bool false)) false)] [2]) .ret)
 .skip)) (.reg [xT 139 0, xS 140 (.sl (.sl 1) (.t 139) (some (xI 3)) none none false), xT 0 140] [0]))
 (.seq (.reg [xS 142 (.bin .eql .int (.t 82) (xI 4)), xT 141 142] [0, 6, 141]) (.cond (.t 141)
 (.seq (.seq (.regd [xF 143 0, xS 144 (.len false (.t 143)), xS 145 (.bin .lss .int (.t 144) (xI 4)), xF 146 145, xG 147 146 false (.mv (.t 0) false), xG 148 146 false (.ia (.sl 1) (.t 147) (xI 1)), xG 149 146 false (.load 0 (.t 148)), xG 150 146 false (.fa 0 (.t 6)), xG 151 146 false (.load 0 (.t 150)), xG 152 146 false (.bin .lss .int (.t 149) (.t 151)), xS 153 (.pick (.t 146) (.c (.bool true)) (.t 152)), xF 154 153, xG 155 154 false (.fa 1 (.t 6)), xG 156 154 false (.load 0 (.t 155)), xG 157 154 false (.mv (.t 0) false), xG 158 154 false (.ia (.sl 1) (.t 157) (xI 1)), xG 159 154 false (.load 0 (.t 158)), xG 160 154 false (.bin .lss .int (.t 156) (.t 159)), xS 161 (.pick (.t 154) (.c (.bool true)) (.t 160)), xF 162 161, xG 163 162 false (.mv (.t 0) false), xG 164 162 false (.ia (.sl 1) (.t 163) (xI 2)), xG 165 162 false (.load 0 (.t 164)), xG 166 162 false (.bin .lss .int (.t 165) (.c (.int .u8 128))), xS 167 (.pick (.t 162) (.c (.bool true)) (.t 166)), xF 168 167, xG 169 168 false (.mv (.t 0) false), xG 170 168 false (.ia (.sl 1) (.t 169) (xI 2)), xG 171 168 false (.load 0 (.t 170)), xG 172 168 false (.bin .lss .int (.c (.int .u8 191)) (.t 171)), xS 173 (.pick (.t 168) (.c (.bool true)) (.t 172)), xF 174 173, xG 175 174 false (.mv (.t 0) false), xG 176 174 false (.ia (.sl 1) (.t 175) (xI 3)), xG 177 174 false (.load 0 (.t 176)), xG 178 174 false (.bin .lss .int (.t 177) (.c (.int .u8 128))), xS 179 (.pick (.t 174) (.c (.bool true)) (.t 178)), xF 180 179, xG 181 180 false (.mv (.t 0) false), xG 182 180 false (.ia (.sl 1) (.t 181) (xI 3)), xG 183 180 false (.load 0 (.t 182)), xG 184 180 false (.bin .lss .int (.c (.int .u8 191)) (.t 183)), xS 185 (.pick (.t 180) (.c (.bool true)) (.t 184))] [0, 185] ([], []) []) (.cond (.t 185)
 (.seq (.reg [xS 2 (.mv (.c (.bool false)) false)] [2]) .ret)
 .skip)) (.reg [xT 186 0, xS 187 (.sl (.sl 1) (.t 186) (some (xI 4)) none none false), xT 0 187] [0]))
 (.seq (.reg [xS 2 (.mv (.c (.bool false)) false)] [2]) .ret))))))))))))))))
def l_unicode_utf8_Valid_1 : ACode := .loop [0] [] bl_unicode_utf8_Valid_1
theorem L_unicode_utf8_Valid_1 {T : Table} (ks : List Kt) (e : Env) (h : Heap) (Q : Ex → Env → Heap → Prop) : Xc T l_unicode_utf8_Valid_1 ks e h Q = Xc T bl_unicode_utf8_Valid_1 (.seq l_unicode_utf8_Valid_1 :: ks) (e.keep [0]) h Q := Xc_loop ks _ e h Q _ _
def k_unicode_utf8_Valid : ACode := (.seq (.reg [xS 2 (.mv (.c (.bool false)) false)] [0]) (.seq (.reg [xF 7 0, xF 8 0, xS 9 (.len false (.t 8)), xT 10 0, xS 11 (.len false (.t 10)), xS 12 (.sl (.sl 1) (.t 7) none (some (.t 9)) (some (.t 11)) false), xT 0 12] [0]) (.seq (.block 0 l_unicode_utf8_Valid_1) (.seq (.reg [xS 2 (.mv (.c (.bool true)) false)] [2]) .ret))))
def c_unicode_utf8_Valid : AFunc := ⟨k_unicode_utf8_Valid, 188, [.t 2], [], [], []⟩
def k_item_text : ACode := (.seq (.reg [xS 4 (.mv (.c .nili) false), xS 5 (.mv (xI 0) false)] [0, 1]) (.seq (.seq (.reg [xT 6 0, xS 7 (.bin .eql .int (.t 6) (xI 2))] [1, 7]) (.cond (.t 7)
 (.seq (.reg [xS 8 (.bsl 1 [] false), xT 9 1, xS 10 (.app 1 1 (.t 8) (.t 9)), xS 11 (.mkif 36 (.t 10)), xT 4 11, xS 5 (.mv (xI 0) false)] [4, 5]) .ret)
 .skip)) (.seq (.seq (.reg [xF 12 1, xS 13 (.callp f_unicode_utf8_Valid [(.t 12)] [(0, false)]), xS 14 (.un .not (.t 13))] [1, 14]) (.cond (.t 14)
 (.seq (.reg [xS 4 (.mv (.c .nili) false), xS 5 (.mv (xI 6) false)] [4, 5]) .ret)
 .skip)) (.seq (.reg [xT 15 1, xS 16 (.conv .bs (.t 15)), xS 17 (.mkif 9 (.t 16)), xT 4 17, xS 5 (.mv (xI 0) false)] [4, 5]) .ret))))
def c_item_text : AFunc := ⟨k_item_text, 18, [.t 4, .t 5], [], [], []⟩
def bl_item_counter_list_0 : ACode := (.seq (.reg [xS 19 (.bin .lss .int (.t 18) (.t 17))] [0, 1, 3, 11, 12, 17, 18, 19]) (.seq (.cond (.t 19)
 .skip
 (.exit 0)) (.seq (.block 1 (.seq (.reg [xF 21 0, xF 22 1, xF 23 12, xS 24 (.sl (.sl 1) (.t 22) (some (.t 23)) none none false), xF 25 3, xS 26 (.bin .add .int (.t 25) (xI 1)), xS 27 (.callh f_item_counter_read [(.t 21), (.t 24), (.t 26)]), xT 20 27, xE 28 20 0, xE 29 20 1, xE 30 20 2, xT 13 28, xT 14 29, xT 15 30] [0, 1, 3, 11, 12, 13, 14, 15, 17, 18]) (.seq (.seq (.reg [xF 31 15, xS 32 (.bin .neq .int (.t 31) (xI 0))] [0, 1, 3, 11, 12, 13, 14, 15, 17, 18, 32]) (.cond (.t 32)
 (.seq (.reg [xT 33 15, xS 8 (.mv (.c .nili) false), xS 9 (.mv (xI 0) false), xT 10 33] [8, 9, 10]) .ret)
 .skip)) (.seq (.reg [xT 34 11, xT 35 13, xS 36 (.bsl 1 [(.t 35)] false), xS 37 (.app 1 16 (.t 34) (.t 36)), xT 11 37] [0, 1, 3, 11, 12, 14, 17, 18]) (.reg [xT 38 12, xT 39 14, xS 40 (.bin .add .int (.t 38) (.t 39)), xT 12 40] [0, 1, 3, 11, 12, 17, 18]))))) (.reg [xS 41 (.bin .add .int (.t 18) (.c (.int .u64 1))), xT 18 41] [0, 1, 3, 11, 12, 17, 18]))))
def l_item_counter_list_0 : ACode := .loop [0, 1, 3, 11, 12, 17, 18] [(11, 0)] bl_item_counter_list_0
theorem L_item_counter_list_0 {T : Table} (ks : List Kt) (e : Env) (h : Heap) (Q : Ex → Env → Heap → Prop) : Xc T l_item_counter_list_0 ks e h Q = Xc T bl_item_counter_list_0 (.seq l_item_counter_list_0 :: ks) (e.keep [0, 1, 3, 11, 12, 17, 18]) h Q := Xc_loop ks _ e h Q _ _
def k_item_counter_list : ACode := (.seq (.reg [xS 8 (.mv (.c .nili) false), xS 9 (.mv (xI 0) false), xS 10 (.mv (xI 0) false)] [0, 1, 2, 3]) (.seq (.reg [xS 16 (.bsl 1 [] false), xT 11 16] [0, 1, 2, 3, 11]) (.seq (.reg [xS 12 (.mv (xI 0) false)] [0, 1, 2, 3, 11, 12]) (.seq (.seq (.reg [xT 17 2, xS 18 (.mv (.c (.int .u64 0)) false)] [0, 1, 3, 11, 12, 17, 18]) (.block 0 l_item_counter_list_0)) (.seq (.reg [xT 42 11, xS 43 (.mkif 84 (.t 42)), xT 44 12, xT 8 43, xT 9 44, xS 10 (.mv (xI 0) false)] [8, 9, 10]) .ret)))))
def c_item_counter_list : AFunc := ⟨k_item_counter_list, 45, [.t 8, .t 9, .t 10], [], [], []⟩
def k_item_other : ACode := (.seq (.reg [xS 2 (.mv (.c .nili) false), xS 3 (.mv (xI 0) false)] [0]) (.seq (.seq (.reg [xF 4 0] [0, 4]) (.block 0 (.seq (.seq (.reg [xS 6 (.bin .eql .int (.t 4) (.c (.int .u64 20))), xT 5 6] [0, 4, 5]) (.cond (.t 5)
 .skip
 (.reg [xS 7 (.bin .eql .int (.t 4) (.c (.int .u64 21))), xT 5 7] [0, 4, 5]))) (.cond (.t 5)
 (.seq (.reg [xT 8 0, xS 9 (.bin .eql .int (.t 8) (.c (.int .u64 21))), xS 10 (.mkif 4 (.t 9)), xT 2 10, xS 3 (.mv (xI 0) false)] [2, 3]) .ret)
 (.seq (.reg [xS 12 (.bin .eql .int (.t 4) (.c (.int .u64 22))), xT 11 12] [11]) (.cond (.t 11)
 (.seq (.reg [xS 2 (.mv (.c .nili) false), xS 3 (.mv (xI 0) false)] [2, 3]) .ret)
 .skip)))))) (.seq (.reg [xS 2 (.mv (.c .nili) false), xS 3 (.mv (xI 18) false)] [2, 3]) .ret)))
def c_item_other : AFunc := ⟨k_item_other, 13, [.t 2, .t 3], [], [], []⟩
def k_item_counter_read : ACode := (.seq (.reg [xS 6 (.mv (.c .nili) false), xS 7 (.mv (xI 0) false), xS 8 (.mv (xI 0) false)] [0, 1, 2]) (.seq (.seq (.reg [xF 16 0, xF 17 2, xS 18 (.callh f_item_counter_one [(.t 16), (.t 17)]), xT 9 18] [0, 1, 2, 9]) (.seq (.reg [xF 19 9, xS 20 (.bin .neq .int (.t 19) (xI 0))] [0, 1, 2, 9, 20]) (.cond (.t 20)
 (.seq (.reg [xT 21 9, xS 6 (.mv (.c .nili) false), xS 7 (.mv (xI 0) false), xT 8 21] [6, 7, 8]) .ret)
 .skip))) (.seq (.reg [xF 23 1, xS 24 (.callp f_head_Get [(.t 23)] [(0, false)]), xT 22 24, xE 25 22 0, xE 26 22 1, xE 27 22 2, xE 28 22 3, xT 10 25, xT 11 26, xT 12 27, xT 13 28] [0, 1, 2, 10, 11, 12, 13]) (.seq (.seq (.reg [xF 29 13, xS 30 (.bin .neq .int (.t 29) (xI 0))] [0, 1, 2, 10, 11, 12, 13, 30]) (.cond (.t 30)
 (.seq (.reg [xT 31 13, xS 6 (.mv (.c .nili) false), xS 7 (.mv (xI 0) false), xT 8 31] [6, 7, 8]) .ret)
 .skip)) (.seq (.reg [xS 14 (.mv (.c .nili) false)] [0, 1, 2, 10, 11, 12, 13, 14]) (.seq (.reg [xS 15 (.mv (xI 0) false)] [0, 1, 2, 10, 11, 12, 13, 14, 15]) (.seq (.seq (.reg [xF 32 10] [0, 1, 2, 10, 11, 12, 13, 14, 15, 32]) (.block 0 (.seq (.reg [xS 34 (.bin .eql .int (.t 32) (xI 0)), xT 33 34] [0, 1, 2, 10, 11, 12, 13, 14, 15, 32, 33]) (.cond (.t 33)
 (.reg [xT 35 11, xS 36 (.mkif 22 (.t 35)), xT 14 36] [12, 13, 14, 15])
 (.seq (.reg [xS 38 (.bin .eql .int (.t 32) (xI 1)), xT 37 38] [0, 1, 2, 10, 11, 12, 13, 14, 15, 32, 37]) (.cond (.t 37)
 (.reg [xT 39 11, xS 40 (.mkif 127 (.t 39)), xT 14 40] [12, 13, 14, 15])
 (.seq (.seq (.reg [xS 42 (.bin .eql .int (.t 32) (xI 2)), xT 41 42] [0, 1, 2, 10, 11, 12, 14, 15, 32, 41]) (.cond (.t 41)
 .skip
 (.reg [xS 43 (.bin .eql .int (.t 32) (xI 3)), xT 41 43] [0, 1, 2, 10, 11, 12, 14, 15, 32, 41]))) (.cond (.t 41)
 (.seq (.seq (.reg [xF 44 11, xF 45 1, xS 46 (.len false (.t 45)), xF 47 12, xS 48 (.bin .sub .int (.t 46) (.t 47)), xS 49 (.conv (.i .u64) (.t 48)), xS 50 (.bin .gtr .int (.t 44) (.t 49))] [1, 10, 11, 12, 50]) (.cond (.t 50)
 (.seq (.reg [xS 6 (.mv (.c .nili) false), xS 7 (.mv (xI 0) false), xS 8 (.mv (xI 5) false)] [6, 7, 8]) .ret)
 .skip)) (.seq (.reg [xT 51 11, xS 52 (.conv (.i .i64) (.t 51)), xT 15 52] [1, 10, 12, 15]) (.reg [xT 54 10, xT 55 1, xF 56 12, xF 57 12, xF 58 15, xS 59 (.bin .add .int (.t 57) (.t 58)), xS 60 (.sl (.sl 1) (.t 55) (some (.t 56)) (some (.t 59)) none false), xS 61 (.callp f_item_text [(.t 54), (.t 60)] []), xT 53 61, xE 62 53 0, xE 63 53 1, xT 14 62, xT 13 63] [12, 13, 14, 15])))
 (.seq (.reg [xS 65 (.bin .eql .int (.t 32) (xI 4)), xT 64 65] [0, 1, 2, 11, 12, 14, 15, 32, 64]) (.cond (.t 64)
 (.reg [xT 67 0, xT 68 1, xF 69 12, xS 70 (.sl (.sl 1) (.t 68) (some (.t 69)) none none false), xT 71 11, xT 72 2, xS 73 (.callh f_item_counter_list [(.t 67), (.t 70), (.t 71), (.t 72)]), xT 66 73, xE 74 66 0, xE 75 66 1, xE 76 66 2, xT 14 74, xT 15 75, xT 13 76] [12, 13, 14, 15])
 (.seq (.reg [xS 78 (.bin .eql .int (.t 32) (xI 7)), xT 77 78] [11, 12, 14, 15, 77]) (.cond (.t 77)
 (.reg [xT 80 11, xS 81 (.callp f_item_other [(.t 80)] []), xT 79 81, xE 82 79 0, xE 83 79 1, xT 14 82, xT 13 83] [12, 13, 14, 15])
 (.reg [xS 13 (.mv (xI 18) false)] [12, 13, 14, 15]))))))))))))) (.seq (.seq (.reg [xF 84 13, xS 85 (.bin .neq .int (.t 84) (xI 0))] [12, 13, 14, 15, 85]) (.cond (.t 85)
 (.seq (.reg [xT 86 13, xS 6 (.mv (.c .nili) false), xS 7 (.mv (xI 0) false), xT 8 86] [6, 7, 8]) .ret)
 .skip)) (.seq (.reg [xT 87 14, xT 88 12, xT 89 15, xS 90 (.bin .add .int (.t 88) (.t 89)), xT 6 87, xT 7 90, xS 8 (.mv (xI 0) false)] [6, 7, 8]) .ret)))))))))
def c_item_counter_read : AFunc := ⟨k_item_counter_read, 91, [.t 6, .t 7, .t 8], [], [], []⟩
def k_item_Get : ACode := (.seq (.reg [xS 2 (.mv (.c .nili) false), xS 3 (.mv (xI 0) false), xS 4 (.mv (xI 0) false)] [0]) (.seq (.reg [xS 5 (.alloc [(.int .i64 0)]), xT 6 0, xS 7 (.callh f_item_counter_read [(.t 5), (.t 6), (xI 0)]), xE 8 7 0, xE 9 7 1, xE 10 7 2, xT 2 8, xT 3 9, xT 4 10] [2, 3, 4]) .ret))
def c_item_Get : AFunc := ⟨k_item_Get, 11, [.t 2, .t 3, .t 4], [], [], []⟩
def k_item_At : ACode := (.seq (.reg [xS 4 (.mv (.c .nili) false)] [0, 1]) (.seq (.seq (.reg [xT 8 0, xS 9 (.ta 84 (.ps 1 []) true (.t 8)), xT 7 9, xE 10 7 0, xE 11 7 1, xT 5 10, xT 6 11] [1, 5, 6]) (.seq (.reg [xT 12 6, xT 13 12, xG 14 13 true (.mv (.t 1) false), xG 15 13 true (.bin .geq .int (.t 14) (xI 0)), xS 16 (.pick (.t 13) (.t 15) (.c (.bool false))), xT 17 16, xG 18 17 true (.mv (.t 1) false), xG 19 17 true (.mv (.t 5) false), xG 20 17 true (.len false (.t 19)), xG 21 17 true (.bin .lss .int (.t 18) (.t 20)), xS 22 (.pick (.t 17) (.t 21) (.c (.bool false)))] [1, 5, 22]) (.cond (.t 22)
 (.seq (.reg [xT 23 5, xT 24 1, xS 25 (.ia (.sl 1) (.t 23) (.t 24)), xS 26 (.load 0 (.t 25)), xT 4 26] [4]) .ret)
 .skip))) (.seq (.reg [xS 4 (.mv (.c .nili) false)] [4]) .ret)))
def c_item_At : AFunc := ⟨k_item_At, 27, [.t 4], [], [], []⟩
def k_item_Uint : ACode := (.seq (.reg [xS 2 (.mv (.c (.int .u64 0)) false), xS 3 (.mv (.c (.bool false)) false)] [0]) (.seq (.reg [xT 7 0, xS 8 (.ta 22 (.int .u64 0) true (.t 7)), xT 6 8, xE 9 6 0, xE 10 6 1, xT 4 9, xT 5 10] [4, 5]) (.seq (.reg [xT 11 4, xT 12 5, xT 2 11, xT 3 12] [2, 3]) .ret)))
def c_item_Uint : AFunc := ⟨k_item_Uint, 13, [.t 2, .t 3], [], [], []⟩
def k_primary_reader_n : ACode := (.seq (.reg [xS 4 (.mv (.c (.int .u64 0)) false)] [0, 1]) (.seq (.reg [xF 8 0, xS 9 (.nilck (.t 8)), xS 10 (.fa 0 (.t 9)), xS 11 (.load 0 (.t 10)), xT 12 1, xS 13 (.callp f_item_At [(.t 11), (.t 12)] []), xS 14 (.callp f_item_Uint [(.t 13)] []), xT 7 14, xE 15 7 0, xE 16 7 1, xT 5 15, xT 6 16] [0, 5, 6]) (.seq (.reg [xF 17 0, xT 18 0, xS 19 (.nilck (.t 18)), xS 20 (.fa 1 (.t 19)), xS 21 (.load 0 (.t 20)), xT 22 21, xG 23 22 false (.mv (.t 6) true), xG 24 22 false (.un .not (.t 23)), xS 25 (.pick (.t 22) (.c (.bool true)) (.t 24)), xS 26 (.nilck (.t 17)), xS 27 (.fa 1 (.t 26)), ⟨none, .store 1 (.t 27) (.t 25), none⟩] [5]) (.seq (.reg [xT 28 5, xT 4 28] [4]) .ret))))
def c_primary_reader_n : AFunc := ⟨k_primary_reader_n, 29, [.t 4], [], [], []⟩
def k_item_List : ACode := (.seq (.reg [xS 2 (.mv (.c (.ps 1 [])) false), xS 3 (.mv (.c (.bool false)) false)] [0]) (.seq (.reg [xT 7 0, xS 8 (.ta 84 (.ps 1 []) true (.t 7)), xT 6 8, xE 9 6 0, xE 10 6 1, xT 4 9, xT 5 10] [4, 5]) (.seq (.reg [xT 11 4, xS 12 (.app 1 16 (.c (.ps 1 [])) (.t 11)), xT 13 5, xT 2 12, xT 3 13] [2, 3]) .ret)))
def c_item_List : AFunc := ⟨k_item_List, 14, [.t 2, .t 3], [], [1], []⟩
def k_item_Bytes : ACode := (.seq (.reg [xS 2 (.mv (.c (.ps 1 [])) false), xS 3 (.mv (.c (.bool false)) false)] [0]) (.seq (.reg [xT 7 0, xS 8 (.ta 36 (.ps 1 []) true (.t 7)), xT 6 8, xE 9 6 0, xE 10 6 1, xT 4 9, xT 5 10] [4, 5]) (.seq (.reg [xT 11 4, xS 12 (.app 1 1 (.c (.ps 1 [])) (.t 11)), xT 13 5, xT 2 12, xT 3 13] [2, 3]) .ret)))
def c_item_Bytes : AFunc := ⟨k_item_Bytes, 14, [.t 2, .t 3], [], [1], []⟩
def k_stamp_Of_1 : ACode := (.seq (.reg [xS 4 (.mv (.c (.int .u64 0)) false)] [0, 1, 2]) (.seq (.reg [xS 8 (.load 0 (.t 1)), xT 9 0, xS 10 (.ia (.sl 1) (.t 8) (.t 9)), xS 11 (.load 0 (.t 10)), xS 12 (.callp f_item_Uint [(.t 11)] []), xT 7 12, xE 13 7 0, xE 14 7 1, xT 5 13, xT 6 14] [2, 5, 6]) (.seq (.reg [xS 15 (.load 0 (.t 2)), xT 16 15, xG 17 16 true (.mv (.t 6) true), xS 18 (.pick (.t 16) (.t 17) (.c (.bool false))), ⟨none, .store 1 (.t 2) (.t 18), none⟩] [5]) (.seq (.reg [xT 19 5, xT 4 19] [4]) .ret))))
def c_stamp_Of_1 : AFunc := ⟨k_stamp_Of_1, 20, [.t 4], [], [], []⟩
def k_stamp_Of : ACode := (.seq (.reg [xS 2 (.alloc [(.int .u64 0), (.int .u64 0)]), xS 3 (.mv (xI 0) false)] [0, 2]) (.seq (.reg [xT 10 0, xS 11 (.callp f_item_List [(.t 10)] []), xT 9 11, xE 12 9 0, xE 13 9 1, xS 4 (.alloc [(.ps 1 [])]), ⟨none, .store 1 (.t 4) (.t 12), none⟩, xT 5 13] [2, 4, 5]) (.seq (.seq (.reg [xT 14 5, xS 15 (.un .not (.t 14)), xT 16 15, xG 17 16 false (.load 0 (.t 4)), xG 18 16 false (.len false (.t 17)), xG 19 16 false (.bin .neq .int (.t 18) (xI 2)), xS 20 (.pick (.t 16) (.c (.bool true)) (.t 19))] [2, 4, 20]) (.cond (.t 20)
 (.seq (.reg [xS 21 (.build [(.int .u64 0), (.int .u64 0)] []), ⟨none, .store 2 (.t 2) (.t 21), none⟩, xS 3 (.mv (xI 18) false)] [2, 3]) .ret)
 .skip)) (.seq (.reg [xS 6 (.alloc [(.bool false)]), ⟨none, .store 1 (.t 6) (.c (.bool true)), none⟩] [2, 4, 6]) (.seq (.reg [xS 22 (.mkfn f_stamp_Of_1 [(.t 4), (.t 6)]), xT 7 22] [2, 6, 7]) (.seq (.reg [xF 23 7, xS 24 (.callv (.t 23) [(xI 0)]), xT 25 7, xS 26 (.callv (.t 25) [(xI 1)]), xS 27 (.build [(.int .u64 0), (.int .u64 0)] [(0, 1, (.t 24)), (1, 1, (.t 26))]), xS 8 (.alloc [(.int .u64 0), (.int .u64 0)]), ⟨none, .store 2 (.t 8) (.t 27), none⟩] [2, 6, 8]) (.seq (.seq (.reg [xS 28 (.load 0 (.t 6)), xS 29 (.un .not (.t 28))] [2, 8, 29]) (.cond (.t 29)
 (.seq (.reg [xS 30 (.build [(.int .u64 0), (.int .u64 0)] []), ⟨none, .store 2 (.t 2) (.t 30), none⟩, xS 3 (.mv (xI 18) false)] [2, 3]) .ret)
 .skip)) (.seq (.reg [xS 31 (.load 2 (.t 8)), ⟨none, .store 2 (.t 2) (.t 31), none⟩, xS 3 (.mv (xI 0) false)] [2, 3]) .ret))))))))
def c_stamp_Of : AFunc := ⟨k_stamp_Of, 32, [.c 2 2, .t 3], [], [], []⟩
def k_eid_pair_1 : ACode := (.seq (.reg [xS 3 (.mv (.c .nili) false)] [0, 1]) (.seq (.reg [xS 4 (.load 0 (.t 1)), xT 5 0, xS 6 (.callp f_item_At [(.t 4), (.t 5)] []), xT 3 6] [3]) .ret))
def c_eid_pair_1 : AFunc := ⟨k_eid_pair_1, 7, [.t 3], [], [], []⟩
def k_eid_pair : ACode := (.seq (.reg [xS 1 (.box (.t 0)), xS 2 (.mv (.c .nili) false), xS 3 (.mv (.c .nili) false), xS 4 (.mv (.c (.bool false)) false)] [1]) (.seq (.reg [xS 9 (.load 0 (.t 1)), xS 10 (.callp f_item_List [(.t 9)] []), xT 8 10, xE 11 8 0, xE 12 8 1, xT 5 11, xT 6 12] [1, 5, 6]) (.seq (.seq (.reg [xT 13 6, xS 14 (.un .not (.t 13)), xT 15 14, xG 16 15 false (.mv (.t 5) true), xG 17 15 false (.len false (.t 16)), xG 18 15 false (.bin .neq .int (.t 17) (xI 2)), xS 19 (.pick (.t 15) (.c (.bool true)) (.t 18))] [1, 19]) (.cond (.t 19)
 (.seq (.reg [xS 2 (.mv (.c .nili) false), xS 3 (.mv (.c .nili) false), xS 4 (.mv (.c (.bool false)) false)] [2, 3, 4]) .ret)
 .skip)) (.seq (.reg [xS 20 (.mkfn f_eid_pair_1 [(.t 1)]), xT 7 20] [7]) (.seq (.reg [xF 21 7, xS 22 (.callv (.t 21) [(xI 0)]), xT 23 7, xS 24 (.callv (.t 23) [(xI 1)]), xT 2 22, xT 3 24, xS 4 (.mv (.c (.bool true)) false)] [2, 3, 4]) .ret)))))
def c_eid_pair : AFunc := ⟨k_eid_pair, 25, [.t 2, .t 3, .t 4], [], [], []⟩
def k_item_Text : ACode := (.seq (.reg [xS 2 (.mv (.c (.str [])) false), xS 3 (.mv (.c (.bool false)) false)] [0]) (.seq (.reg [xT 7 0, xS 8 (.ta 9 (.str []) true (.t 7)), xT 6 8, xE 9 6 0, xE 10 6 1, xT 4 9, xT 5 10] [4, 5]) (.seq (.reg [xT 11 4, xT 12 5, xT 2 11, xT 3 12] [2, 3]) .ret)))
def c_item_Text : AFunc := ⟨k_item_Text, 13, [.t 2, .t 3], [], [], []⟩
def k_eid_within : ACode := (.seq (.reg [xS 4 (.alloc [(.int .i64 0), (.str []), (.int .u64 0), (.int .u64 0)]), xS 5 (.mv (.c (.bool false)) false)] [0, 1, 4]) (.seq (.seq (.reg [xF 18 1, xS 19 (.callp f_item_Uint [(.t 18)] []), xT 17 19, xE 20 17 0, xE 21 17 1, xT 6 20, xT 7 21] [0, 1, 4, 6, 7]) (.seq (.reg [xT 22 7, xT 23 22, xG 24 23 true (.mv (.t 0) false), xG 25 23 true (.bin .eql .int (.t 24) (.c (.int .u64 1))), xS 26 (.pick (.t 23) (.t 25) (.c (.bool false)))] [0, 1, 4, 6, 26]) (.cond (.t 26)
 (.seq (.reg [xT 27 6, xS 28 (.build [(.int .i64 0), (.str []), (.int .u64 0), (.int .u64 0)] [(0, 1, (xI 1)), (2, 1, (.t 27))]), ⟨none, .store 4 (.t 4) (.t 28), none⟩, xS 5 (.mv (.c (.bool true)) false)] [4, 5]) .ret)
 .skip))) (.seq (.seq (.reg [xF 30 1, xS 31 (.callp f_item_Text [(.t 30)] []), xT 29 31, xE 32 29 0, xE 33 29 1, xT 8 32, xT 9 33] [0, 1, 4, 8, 9]) (.seq (.reg [xT 34 9, xT 35 34, xG 36 35 true (.mv (.t 0) false), xG 37 35 true (.bin .eql .int (.t 36) (.c (.int .u64 1))), xS 38 (.pick (.t 35) (.t 37) (.c (.bool false)))] [0, 1, 4, 8, 38]) (.cond (.t 38)
 (.seq (.reg [xT 39 8, xS 40 (.build [(.int .i64 0), (.str []), (.int .u64 0), (.int .u64 0)] [(0, 1, (xI 1)), (1, 1, (.t 39)), (3, 1, (.c (.int .u64 0)))]), ⟨none, .store 4 (.t 4) (.t 40), none⟩, xS 5 (.mv (.c (.bool true)) false)] [4, 5]) .ret)
 .skip))) (.seq (.reg [xT 42 1, xS 43 (.callp f_eid_pair [(.t 42)] []), xT 41 43, xE 44 41 0, xE 45 41 1, xE 46 41 2, xT 10 44, xT 11 45, xT 12 46] [0, 4, 10, 11, 12]) (.seq (.reg [xT 48 10, xS 49 (.callp f_item_Uint [(.t 48)] []), xT 47 49, xE 50 47 0, xE 51 47 1, xT 13 50, xT 14 51] [0, 4, 11, 12, 13, 14]) (.seq (.reg [xT 53 11, xS 54 (.callp f_item_Uint [(.t 53)] []), xT 52 54, xE 55 52 0, xE 56 52 1, xT 15 55, xT 16 56] [0, 4, 12, 13, 14, 15, 16]) (.seq (.reg [xT 57 13, xT 58 15, xS 59 (.build [(.int .i64 0), (.str []), (.int .u64 0), (.int .u64 0)] [(0, 1, (xI 2)), (2, 1, (.t 57)), (3, 1, (.t 58))]), xT 60 12, xT 61 60, xG 62 61 true (.mv (.t 14) true), xS 63 (.pick (.t 61) (.t 62) (.c (.bool false))), xT 64 63, xG 65 64 true (.mv (.t 16) true), xS 66 (.pick (.t 64) (.t 65) (.c (.bool false))), xT 67 66, xG 68 67 true (.mv (.t 0) true), xG 69 67 true (.bin .eql .int (.t 68) (.c (.int .u64 2))), xS 70 (.pick (.t 67) (.t 69) (.c (.bool false))), ⟨none, .store 4 (.t 4) (.t 59), none⟩, xT 5 70] [4, 5]) .ret)))))))
def c_eid_within : AFunc := ⟨k_eid_within, 71, [.c 4 4, .t 5], [], [], []⟩
def k_eid_Of : ACode := (.seq (.reg [xS 2 (.alloc [(.int .i64 0), (.str []), (.int .u64 0), (.int .u64 0)]), xS 3 (.mv (xI 0) false)] [0, 2]) (.seq (.reg [xT 14 0, xS 15 (.callp f_eid_pair [(.t 14)] []), xT 13 15, xE 16 13 0, xE 17 13 1, xE 18 13 2, xT 4 16, xT 5 17, xT 6 18] [2, 4, 5, 6]) (.seq (.reg [xT 20 4, xS 21 (.callp f_item_Uint [(.t 20)] []), xT 19 21, xE 22 19 0, xE 23 19 1, xT 7 22, xT 8 23] [2, 5, 6, 7, 8]) (.seq (.seq (.reg [xT 24 6, xS 25 (.un .not (.t 24)), xT 26 25, xG 27 26 false (.mv (.t 8) true), xG 28 26 false (.un .not (.t 27)), xS 29 (.pick (.t 26) (.c (.bool true)) (.t 28))] [2, 5, 7, 29]) (.cond (.t 29)
 (.seq (.reg [xS 30 (.build [(.int .i64 0), (.str []), (.int .u64 0), (.int .u64 0)] []), ⟨none, .store 4 (.t 2) (.t 30), none⟩, xS 3 (.mv (xI 18) false)] [2, 3]) .ret)
 .skip)) (.seq (.reg [xT 32 7, xF 33 5, xS 34 (.callp f_eid_within [(.t 32), (.t 33)] []), xT 31 34, xE 35 31 0, xE 36 31 1, xS 9 (.alloc [(.int .i64 0), (.str []), (.int .u64 0), (.int .u64 0)]), ⟨none, .store 4 (.t 9) (.t 35), none⟩, xT 10 36] [2, 5, 9, 10]) (.seq (.seq (.reg [xT 37 10, xS 38 (.un .not (.t 37))] [2, 5, 9, 38]) (.cond (.t 38)
 (.seq (.reg [xS 39 (.build [(.int .i64 0), (.str []), (.int .u64 0), (.int .u64 0)] []), ⟨none, .store 4 (.t 2) (.t 39), none⟩, xS 3 (.mv (xI 18) false)] [2, 3]) .ret)
 .skip)) (.seq (.seq (.reg [xT 41 5, xS 42 (.callp f_item_Text [(.t 41)] []), xT 40 42, xE 43 40 0, xE 44 40 1, xT 11 43, xT 12 44] [2, 9, 12]) (.seq (.reg [xS 45 (.load 4 (.t 9)), xS 46 (.callp f_eid_Right [(.t 45)] []), xS 47 (.un .not (.t 46)), xT 48 47, xG 49 48 false (.mv (.t 12) true), xG 50 48 false (.mv (.t 49) true), xG 51 50 true (.fa 1 (.t 9)), xG 52 50 true (.load 0 (.t 51)), xG 53 50 true (.bin .eql .str (.t 52) (.c (.str []))), xG 54 48 false (.pick (.t 50) (.t 53) (.c (.bool false))), xS 55 (.pick (.t 48) (.c (.bool true)) (.t 54))] [2, 9, 55]) (.cond (.t 55)
 (.seq (.reg [xS 56 (.build [(.int .i64 0), (.str []), (.int .u64 0), (.int .u64 0)] []), ⟨none, .store 4 (.t 2) (.t 56), none⟩, xS 3 (.mv (xI 6) false)] [2, 3]) .ret)
 .skip))) (.seq (.reg [xS 57 (.load 4 (.t 9)), ⟨none, .store 4 (.t 2) (.t 57), none⟩, xS 3 (.mv (xI 0) false)] [2, 3]) .ret))))))))
def c_eid_Of : AFunc := ⟨k_eid_Of, 58, [.c 2 4, .t 3], [], [], []⟩
def k_primary_reader_name : ACode := (.seq (.reg [xS 4 (.alloc [(.int .i64 0), (.str []), (.int .u64 0), (.int .u64 0)])] [0, 1, 4]) (.seq (.reg [xF 8 0, xS 9 (.nilck (.t 8)), xS 10 (.fa 0 (.t 9)), xS 11 (.load 0 (.t 10)), xT 12 1, xS 13 (.callp f_item_At [(.t 11), (.t 12)] []), xS 14 (.callp f_eid_Of [(.t 13)] []), xT 7 14, xE 15 7 0, xE 16 7 1, xS 5 (.alloc [(.int .i64 0), (.str []), (.int .u64 0), (.int .u64 0)]), ⟨none, .store 4 (.t 5) (.t 15), none⟩, xT 6 16] [0, 4, 5, 6]) (.seq (.seq (.reg [xF 17 0, xS 18 (.nilck (.t 17)), xS 19 (.fa 2 (.t 18)), xS 20 (.load 0 (.t 19)), xS 21 (.bin .eql .int (.t 20) (xI 0))] [0, 4, 5, 6, 21]) (.cond (.t 21)
 (.reg [xT 22 0, xT 23 6, xS 24 (.nilck (.t 22)), xS 25 (.fa 2 (.t 24)), ⟨none, .store 1 (.t 25) (.t 23), none⟩] [4, 5])
 .skip)) (.seq (.reg [xS 26 (.load 4 (.t 5)), ⟨none, .store 4 (.t 4) (.t 26), none⟩] [4]) .ret))))
def c_primary_reader_name : AFunc := ⟨k_primary_reader_name, 27, [.c 4 4], [], [], []⟩
def k_block_Open : ACode := (.seq (.reg [xS 2 (.mv (.c (.ps 1 [])) false), xS 3 (.mv (xI 0) false), xS 4 (.mv (xI 0) false)] [0]) (.seq (.reg [xF 15 0, xS 16 (.callp f_item_List [(.t 15)] []), xT 14 16, xE 17 14 0, xE 18 14 1, xT 5 17, xT 6 18] [0, 5, 6]) (.seq (.seq (.reg [xT 19 6, xS 20 (.un .not (.t 19))] [0, 5, 20]) (.cond (.t 20)
 (.seq (.reg [xS 2 (.mv (.c (.ps 1 [])) false), xS 3 (.mv (xI 0) false), xS 4 (.mv (xI 18) false)] [2, 3, 4]) .ret)
 .skip)) (.seq (.seq (.reg [xF 21 5, xS 22 (.len false (.t 21)), xS 23 (.bin .eql .int (.t 22) (xI 0))] [0, 5, 23]) (.cond (.t 23)
 (.seq (.reg [xT 24 5, xT 2 24, xS 3 (.mv (xI 0) false), xS 4 (.mv (xI 0) false)] [2, 3, 4]) .ret)
 .skip)) (.seq (.reg [xF 25 5, xS 26 (.len false (.t 25)), xS 27 (.bin .sub .int (.t 26) (xI 1)), xT 7 27] [0, 5, 7]) (.seq (.reg [xF 29 5, xF 30 7, xS 31 (.ia (.sl 1) (.t 29) (.t 30)), xS 32 (.load 0 (.t 31)), xS 33 (.callp f_item_Bytes [(.t 32)] []), xT 28 33, xE 34 28 0, xE 35 28 1, xT 8 34, xT 6 35] [0, 5, 6, 7, 8]) (.seq (.reg [xS 9 (.mv (xI 0) false)] [0, 5, 6, 7, 8]) (.seq (.block 0 (.seq (.reg [xF 38 6, xT 39 38, xG 40 39 true (.mv (.t 8) false), xG 41 39 true (.len false (.t 40)), xG 42 39 true (.callp f_block_width [(xI 1)] []), xG 43 39 true (.bin .eql .int (.t 41) (.t 42)), xS 44 (.pick (.t 39) (.t 43) (.c (.bool false))), xT 37 44] [0, 5, 6, 7, 8, 37]) (.cond (.t 37)
 (.reg [xS 9 (.mv (xI 1) false)] [0, 5, 7, 9])
 (.seq (.reg [xT 46 6, xT 47 46, xG 48 47 true (.mv (.t 8) true), xG 49 47 true (.len false (.t 48)), xG 50 47 true (.callp f_block_width [(xI 2)] []), xG 51 47 true (.bin .eql .int (.t 49) (.t 50)), xS 52 (.pick (.t 47) (.t 51) (.c (.bool false))), xT 45 52] [0, 5, 7, 45]) (.cond (.t 45)
 (.reg [xS 9 (.mv (xI 2) false)] [0, 5, 7, 9])
 (.seq (.reg [xT 36 5, xT 2 36, xS 3 (.mv (xI 0) false), xS 4 (.mv (xI 0) false)] [2, 3, 4]) .ret)))))) (.seq (.reg [xF 54 5, xF 55 7, xS 56 (.sl (.sl 1) (.t 54) none (some (.t 55)) none false), xF 57 9, xS 58 (.callp f_block_Seal [(.t 56), (.t 57)] []), xT 53 58, xE 59 53 0, xE 60 53 1, xT 10 59, xT 11 60] [0, 5, 7, 9, 10]) (.seq (.reg [xT 62 0, xS 63 (.callp f_item_Put [(.t 62)] []), xT 61 63, xE 64 61 0, xE 65 61 1, xT 12 64, xT 13 65] [5, 7, 9, 10, 12, 13]) (.seq (.seq (.reg [xT 66 13, xS 67 (.bin .neq .int (.t 66) (xI 0)), xT 68 67, xG 69 68 false (.mv (.t 10) true), xG 70 68 false (.conv .bs (.t 69)), xG 71 68 false (.mv (.t 12) true), xG 72 68 false (.conv .bs (.t 71)), xG 73 68 false (.bin .neq .str (.t 70) (.t 72)), xS 74 (.pick (.t 68) (.c (.bool true)) (.t 73))] [5, 7, 9, 74]) (.cond (.t 74)
 (.seq (.reg [xS 2 (.mv (.c (.ps 1 [])) false), xS 3 (.mv (xI 0) false), xS 4 (.mv (xI 7) false)] [2, 3, 4]) .ret)
 .skip)) (.seq (.reg [xT 75 5, xT 76 7, xS 77 (.sl (.sl 1) (.t 75) none (some (.t 76)) none false), xT 78 9, xT 2 77, xT 3 78, xS 4 (.mv (xI 0) false)] [2, 3, 4]) .ret))))))))))))
def c_block_Open : AFunc := ⟨k_block_Open, 79, [.t 2, .t 3, .t 4], [], [], []⟩
def k_primary_Get : ACode := (.seq (.reg [xS 2 (.alloc [(.int .u64 0), (.int .i64 0), (.int .i64 0), (.str []), (.int .u64 0), (.int .u64 0), (.int .i64 0), (.str []), (.int .u64 0), (.int .u64 0), (.int .i64 0), (.str []), (.int .u64 0), (.int .u64 0), (.int .u64 0), (.int .u64 0), (.int .u64 0), (.int .u64 0), (.int .u64 0)]), xS 3 (.mv (xI 0) false)] [0, 2]) (.seq (.reg [xF 19 0, xS 20 (.build [.nili, (.bool false), (.int .i64 0)] [(0, 1, (.t 19))]), xS 21 (.box (.t 20)), xT 4 21] [0, 2, 4]) (.seq (.reg [xF 22 4, xS 23 (.callh f_primary_reader_n [(.t 22), (xI 0)]), xF 24 4, xS 25 (.callh f_primary_reader_n [(.t 24), (xI 1)]), xF 26 4, xS 27 (.callh f_primary_reader_n [(.t 26), (xI 2)]), xT 5 23, xT 6 25, xT 7 27] [0, 2, 4, 5, 6, 7]) (.seq (.reg [xF 28 6, xF 29 4, xS 30 (.callh f_primary_reader_n [(.t 29), (xI 7)]), xS 31 (.build [(.int .u64 0), (.int .i64 0), (.int .i64 0), (.str []), (.int .u64 0), (.int .u64 0), (.int .i64 0), (.str []), (.int .u64 0), (.int .u64 0), (.int .i64 0), (.str []), (.int .u64 0), (.int .u64 0), (.int .u64 0), (.int .u64 0), (.int .u64 0), (.int .u64 0), (.int .u64 0)] [(0, 1, (.t 28)), (16, 1, (.t 30))]), xS 8 (.alloc [(.int .u64 0), (.int .i64 0), (.int .i64 0), (.str []), (.int .u64 0), (.int .u64 0), (.int .i64 0), (.str []), (.int .u64 0), (.int .u64 0), (.int .i64 0), (.str []), (.int .u64 0), (.int .u64 0), (.int .u64 0), (.int .u64 0), (.int .u64 0), (.int .u64 0), (.int .u64 0)]), ⟨none, .store 19 (.t 8) (.t 31), none⟩] [0, 2, 4, 5, 6, 7, 8]) (.seq (.reg [xF 33 0, xS 34 (.callp f_item_List [(.t 33)] []), xT 32 34, xE 35 32 0, xE 36 32 1, xT 9 35, xT 10 36] [0, 2, 4, 5, 6, 7, 8, 9]) (.seq (.reg [xS 11 (.mv (xI 8) false)] [0, 2, 4, 5, 6, 7, 8, 9, 11]) (.seq (.seq (.reg [xT 37 6, xS 38 (.bin .and .int (.t 37) (.c (.int .u64 1))), xS 39 (.bin .neq .int (.t 38) (.c (.int .u64 0)))] [0, 2, 4, 5, 7, 8, 9, 11, 39]) (.cond (.t 39)
 (.seq (.reg [xF 40 4, xS 41 (.callh f_primary_reader_n [(.t 40), (xI 8)]), xF 42 4, xS 43 (.callh f_primary_reader_n [(.t 42), (xI 9)]), xS 44 (.fa 17 (.t 8)), ⟨none, .store 1 (.t 44) (.t 41), none⟩, xS 45 (.fa 18 (.t 8)), ⟨none, .store 1 (.t 45) (.t 43), none⟩] [0, 2, 4, 5, 7, 8, 9, 11]) (.reg [xT 46 11, xS 47 (.bin .add .int (.t 46) (xI 2)), xT 11 47] [0, 2, 4, 5, 7, 8, 9, 11]))
 .skip)) (.seq (.seq (.reg [xF 48 7, xS 49 (.bin .gtr .int (.t 48) (.c (.int .u64 0)))] [0, 2, 4, 5, 7, 8, 9, 11, 49]) (.cond (.t 49)
 (.seq (.reg [xF 51 0, xF 52 11, xS 53 (.callp f_item_At [(.t 51), (.t 52)] []), xS 54 (.callp f_item_Bytes [(.t 53)] []), xT 50 54, xE 55 50 0, xE 56 50 1, xT 12 55, xT 13 56] [0, 2, 4, 5, 7, 8, 9, 11, 13]) (.seq (.reg [xF 57 4, xF 58 4, xS 59 (.nilck (.t 58)), xS 60 (.fa 1 (.t 59)), xS 61 (.load 0 (.t 60)), xT 62 61, xG 63 62 false (.mv (.t 13) true), xG 64 62 false (.un .not (.t 63)), xS 65 (.pick (.t 62) (.c (.bool true)) (.t 64)), xS 66 (.nilck (.t 57)), xS 67 (.fa 1 (.t 66)), ⟨none, .store 1 (.t 67) (.t 65), none⟩] [0, 2, 4, 5, 7, 8, 9, 11]) (.reg [xT 68 11, xS 69 (.bin .add .int (.t 68) (xI 1)), xT 11 69] [0, 2, 4, 5, 7, 8, 9, 11])))
 .skip)) (.seq (.reg [xS 14 (.mv (xI 0) false)] [0, 2, 4, 5, 7, 8, 9, 11]) (.seq (.reg [xF 71 0, xS 72 (.callp f_item_At [(.t 71), (xI 6)] []), xS 73 (.callp f_stamp_Of [(.t 72)] []), xT 70 73, xE 74 70 0, xE 75 70 1, xS 76 (.fa 14 (.t 8)), ⟨none, .store 2 (.t 76) (.t 74), none⟩, xT 14 75] [0, 2, 4, 5, 7, 8, 9, 11, 14]) (.seq (.seq (.reg [xF 77 4, xS 78 (.nilck (.t 77)), xS 79 (.fa 1 (.t 78)), xS 80 (.load 0 (.t 79)), xT 81 80, xG 82 81 false (.mv (.t 14) true), xG 83 81 false (.bin .neq .int (.t 82) (xI 0)), xS 84 (.pick (.t 81) (.c (.bool true)) (.t 83)), xT 85 84, xG 86 85 false (.mv (.t 5) true), xG 87 85 false (.bin .neq .int (.t 86) (.c (.int .u64 7))), xS 88 (.pick (.t 85) (.c (.bool true)) (.t 87)), xT 89 88, xG 90 89 false (.mv (.t 7) false), xG 91 89 false (.bin .gtr .int (.t 90) (.c (.int .u64 2))), xS 92 (.pick (.t 89) (.c (.bool true)) (.t 91)), xT 93 92, xG 94 93 false (.mv (.t 9) true), xG 95 93 false (.len false (.t 94)), xG 96 93 false (.mv (.t 11) true), xG 97 93 false (.bin .neq .int (.t 95) (.t 96)), xS 98 (.pick (.t 93) (.c (.bool true)) (.t 97))] [0, 2, 4, 7, 8, 98]) (.cond (.t 98)
 (.seq (.reg [xS 99 (.build [(.int .u64 0), (.int .i64 0), (.int .i64 0), (.str []), (.int .u64 0), (.int .u64 0), (.int .i64 0), (.str []), (.int .u64 0), (.int .u64 0), (.int .i64 0), (.str []), (.int .u64 0), (.int .u64 0), (.int .u64 0), (.int .u64 0), (.int .u64 0), (.int .u64 0), (.int .u64 0)] []), ⟨none, .store 19 (.t 2) (.t 99), none⟩, xS 3 (.mv (xI 18) false)] [2, 3]) .ret)
 .skip)) (.seq (.reg [xF 100 7, xS 101 (.conv (.i .i64) (.t 100)), xS 102 (.fa 1 (.t 8)), ⟨none, .store 1 (.t 102) (.t 101), none⟩] [0, 2, 4, 7, 8]) (.seq (.reg [xF 103 4, xS 104 (.callh f_primary_reader_name [(.t 103), (xI 3)]), xF 105 4, xS 106 (.callh f_primary_reader_name [(.t 105), (xI 4)]), xF 107 4, xS 108 (.callh f_primary_reader_name [(.t 107), (xI 5)]), xS 109 (.fa 2 (.t 8)), ⟨none, .store 4 (.t 109) (.t 104), none⟩, xS 110 (.fa 6 (.t 8)), ⟨none, .store 4 (.t 110) (.t 106), none⟩, xS 111 (.fa 10 (.t 8)), ⟨none, .store 4 (.t 111) (.t 108), none⟩] [0, 2, 4, 7, 8]) (.seq (.seq (.reg [xF 112 4, xS 113 (.nilck (.t 112)), xS 114 (.fa 2 (.t 113)), xS 115 (.load 0 (.t 114)), xS 116 (.bin .neq .int (.t 115) (xI 0))] [0, 2, 4, 7, 8, 116]) (.cond (.t 116)
 (.seq (.regd [xS 117 (.build [(.int .u64 0), (.int .i64 0), (.int .i64 0), (.str []), (.int .u64 0), (.int .u64 0), (.int .i64 0), (.str []), (.int .u64 0), (.int .u64 0), (.int .i64 0), (.str []), (.int .u64 0), (.int .u64 0), (.int .u64 0), (.int .u64 0), (.int .u64 0), (.int .u64 0), (.int .u64 0)] []), xF 118 4, xS 119 (.nilck (.t 118)), xS 120 (.fa 2 (.t 119)), xS 121 (.load 0 (.t 120)), ⟨none, .store 19 (.t 2) (.t 117), none⟩, xT 3 121] [2, 3] ([], []) [(4, 0, 7)]) .ret)
 .skip)) (.seq (.seq (.reg [xT 122 7, xS 123 (.bin .gtr .int (.t 122) (.c (.int .u64 0)))] [0, 2, 8, 123]) (.cond (.t 123)
 (.seq (.reg [xT 125 0, xS 126 (.callp f_block_Open [(.t 125)] []), xT 124 126, xE 127 124 0, xE 128 124 1, xE 129 124 2, xT 15 127, xT 16 128, xT 17 129] [2, 8, 16, 17]) (.seq (.reg [xT 130 17, xS 131 (.bin .neq .int (.t 130) (xI 0)), xT 132 131, xG 133 132 false (.mv (.t 16) true), xG 134 132 false (.fa 1 (.t 8)), xG 135 132 false (.load 0 (.t 134)), xG 136 132 false (.bin .neq .int (.t 133) (.t 135)), xS 137 (.pick (.t 132) (.c (.bool true)) (.t 136))] [2, 8, 137]) (.cond (.t 137)
 (.seq (.reg [xS 138 (.build [(.int .u64 0), (.int .i64 0), (.int .i64 0), (.str []), (.int .u64 0), (.int .u64 0), (.int .i64 0), (.str []), (.int .u64 0), (.int .u64 0), (.int .i64 0), (.str []), (.int .u64 0), (.int .u64 0), (.int .u64 0), (.int .u64 0), (.int .u64 0), (.int .u64 0), (.int .u64 0)] []), ⟨none, .store 19 (.t 2) (.t 138), none⟩, xS 3 (.mv (xI 7) false)] [2, 3]) .ret)
 .skip)))
 .skip)) (.seq (.seq (.reg [xS 139 (.load 19 (.t 8)), xS 140 (.callp f_primary_Check [(.t 139)] []), xT 18 140] [2, 8, 18]) (.seq (.reg [xF 141 18, xS 142 (.bin .neq .int (.t 141) (xI 0))] [2, 8, 18, 142]) (.cond (.t 142)
 (.seq (.reg [xS 143 (.build [(.int .u64 0), (.int .i64 0), (.int .i64 0), (.str []), (.int .u64 0), (.int .u64 0), (.int .i64 0), (.str []), (.int .u64 0), (.int .u64 0), (.int .i64 0), (.str []), (.int .u64 0), (.int .u64 0), (.int .u64 0), (.int .u64 0), (.int .u64 0), (.int .u64 0), (.int .u64 0)] []), xT 144 18, ⟨none, .store 19 (.t 2) (.t 143), none⟩, xT 3 144] [2, 3]) .ret)
 .skip))) (.seq (.reg [xS 145 (.load 19 (.t 8)), ⟨none, .store 19 (.t 2) (.t 145), none⟩, xS 3 (.mv (xI 0) false)] [2, 3]) .ret)))))))))))))))))
def c_primary_Get : AFunc := ⟨k_primary_Get, 146, [.c 2 19, .t 3], [], [], []⟩
def k_block_Get_1 : ACode := (.seq (.reg [xS 4 (.mv (.c (.int .u64 0)) false)] [0, 1, 2]) (.seq (.reg [xS 8 (.load 0 (.t 1)), xT 9 0, xS 10 (.callp f_item_At [(.t 8), (.t 9)] []), xS 11 (.callp f_item_Uint [(.t 10)] []), xT 7 11, xE 12 7 0, xE 13 7 1, xT 5 12, xT 6 13] [2, 5, 6]) (.seq (.reg [xS 14 (.load 0 (.t 2)), xT 15 14, xG 16 15 true (.mv (.t 6) true), xS 17 (.pick (.t 15) (.t 16) (.c (.bool false))), ⟨none, .store 1 (.t 2) (.t 17), none⟩] [5]) (.seq (.reg [xT 18 5, xT 4 18] [4]) .ret))))
def c_block_Get_1 : AFunc := ⟨k_block_Get_1, 19, [.t 4], [], [], []⟩
def k_block_Get : ACode := (.seq (.reg [xS 1 (.box (.t 0)), xS 2 (.alloc [(.int .u64 0), (.int .u64 0), (.int .u64 0), (.int .i64 0), (.str [])]), xS 3 (.mv (xI 0) false)] [1, 2]) (.seq (.reg [xS 4 (.alloc [(.bool false)]), ⟨none, .store 1 (.t 4) (.c (.bool true)), none⟩] [1, 2, 4]) (.seq (.reg [xS 19 (.mkfn f_block_Get_1 [(.t 1), (.t 4)]), xT 5 19] [1, 2, 4, 5]) (.seq (.reg [xF 20 5, xS 21 (.callv (.t 20) [(xI 0)]), xF 22 5, xS 23 (.callv (.t 22) [(xI 1)]), xF 24 5, xS 25 (.callv (.t 24) [(xI 2)]), xS 26 (.build [(.int .u64 0), (.int .u64 0), (.int .u64 0), (.int .i64 0), (.str [])] [(0, 1, (.t 21)), (1, 1, (.t 23)), (2, 1, (.t 25))]), xS 6 (.alloc [(.int .u64 0), (.int .u64 0), (.int .u64 0), (.int .i64 0), (.str [])]), ⟨none, .store 5 (.t 6) (.t 26), none⟩] [1, 2, 4, 5, 6]) (.seq (.reg [xT 27 5, xS 28 (.callv (.t 27) [(xI 3)]), xT 7 28] [1, 2, 4, 6, 7]) (.seq (.reg [xS 30 (.load 0 (.t 1)), xS 31 (.callp f_item_At [(.t 30), (xI 4)] []), xS 32 (.callp f_item_Bytes [(.t 31)] []), xT 29 32, xE 33 29 0, xE 34 29 1, xT 8 33, xT 9 34] [1, 2, 4, 6, 7, 8, 9]) (.seq (.reg [xS 10 (.mv (xI 5) false)] [1, 2, 4, 6, 7, 8, 9, 10]) (.seq (.seq (.reg [xF 35 7, xS 36 (.bin .gtr .int (.t 35) (.c (.int .u64 0)))] [1, 2, 4, 6, 7, 8, 9, 10, 36]) (.cond (.t 36)
 (.reg [xS 10 (.mv (xI 6) false)] [1, 2, 4, 6, 7, 8, 9, 10])
 .skip)) (.seq (.reg [xS 38 (.load 0 (.t 1)), xS 39 (.callp f_item_List [(.t 38)] []), xT 37 39, xE 40 37 0, xE 41 37 1, xT 11 40, xT 12 41] [1, 2, 4, 6, 7, 8, 9, 10, 11]) (.seq (.seq (.reg [xS 42 (.load 0 (.t 4)), xS 43 (.un .not (.t 42)), xT 44 43, xG 45 44 false (.mv (.t 9) true), xG 46 44 false (.un .not (.t 45)), xS 47 (.pick (.t 44) (.c (.bool true)) (.t 46)), xT 48 47, xG 49 48 false (.mv (.t 7) false), xG 50 48 false (.bin .gtr .int (.t 49) (.c (.int .u64 2))), xS 51 (.pick (.t 48) (.c (.bool true)) (.t 50)), xT 52 51, xG 53 52 false (.mv (.t 11) false), xG 54 52 false (.len false (.t 53)), xG 55 52 false (.mv (.t 10) true), xG 56 52 false (.bin .neq .int (.t 54) (.t 55)), xS 57 (.pick (.t 52) (.c (.bool true)) (.t 56))] [1, 2, 6, 7, 8, 11, 57]) (.cond (.t 57)
 (.seq (.reg [xS 58 (.build [(.int .u64 0), (.int .u64 0), (.int .u64 0), (.int .i64 0), (.str [])] []), ⟨none, .store 5 (.t 2) (.t 58), none⟩, xS 3 (.mv (xI 18) false)] [2, 3]) .ret)
 .skip)) (.seq (.regd [xF 59 7, xS 60 (.conv (.i .i64) (.t 59)), xF 61 8, xS 62 (.conv .bs (.t 61)), xS 63 (.fa 3 (.t 6)), ⟨none, .store 1 (.t 63) (.t 60), none⟩, xS 64 (.fa 4 (.t 6)), ⟨none, .store 1 (.t 64) (.t 62), none⟩] [1, 2, 6, 7, 11] ([(8, 0), (11, 0)], []) [(3, 0, 7)]) (.seq (.seq (.reg [xT 65 7, xS 66 (.bin .gtr .int (.t 65) (.c (.int .u64 0)))] [1, 2, 6, 11, 66]) (.cond (.t 66)
 (.seq (.seq (.reg [xT 68 11, xS 69 (.ia (.sl 1) (.t 68) (xI 5)), xS 70 (.load 0 (.t 69)), xS 71 (.callp f_item_Bytes [(.t 70)] []), xT 67 71, xE 72 67 0, xE 73 67 1, xT 13 72, xT 14 73] [1, 2, 6, 14]) (.seq (.reg [xT 74 14, xS 75 (.un .not (.t 74))] [1, 2, 6, 75]) (.cond (.t 75)
 (.seq (.reg [xS 76 (.build [(.int .u64 0), (.int .u64 0), (.int .u64 0), (.int .i64 0), (.str [])] []), ⟨none, .store 5 (.t 2) (.t 76), none⟩, xS 3 (.mv (xI 18) false)] [2, 3]) .ret)
 .skip))) (.seq (.reg [xS 78 (.load 0 (.t 1)), xS 79 (.callp f_block_Open [(.t 78)] []), xT 77 79, xE 80 77 0, xE 81 77 1, xE 82 77 2, xT 15 80, xT 16 81, xT 17 82] [2, 6, 16, 17]) (.seq (.reg [xT 83 17, xS 84 (.bin .neq .int (.t 83) (xI 0)), xT 85 84, xG 86 85 false (.mv (.t 16) true), xG 87 85 false (.fa 3 (.t 6)), xG 88 85 false (.load 0 (.t 87)), xG 89 85 false (.bin .neq .int (.t 86) (.t 88)), xS 90 (.pick (.t 85) (.c (.bool true)) (.t 89))] [2, 6, 90]) (.cond (.t 90)
 (.seq (.reg [xS 91 (.build [(.int .u64 0), (.int .u64 0), (.int .u64 0), (.int .i64 0), (.str [])] []), ⟨none, .store 5 (.t 2) (.t 91), none⟩, xS 3 (.mv (xI 7) false)] [2, 3]) .ret)
 .skip))))
 .skip)) (.seq (.seq (.reg [xS 92 (.load 5 (.t 6)), xS 93 (.callp f_block_Check [(.t 92)] []), xT 18 93] [2, 6, 18]) (.seq (.reg [xF 94 18, xS 95 (.bin .neq .int (.t 94) (xI 0))] [2, 6, 18, 95]) (.cond (.t 95)
 (.seq (.reg [xS 96 (.build [(.int .u64 0), (.int .u64 0), (.int .u64 0), (.int .i64 0), (.str [])] []), xT 97 18, ⟨none, .store 5 (.t 2) (.t 96), none⟩, xT 3 97] [2, 3]) .ret)
 .skip))) (.seq (.reg [xS 98 (.load 5 (.t 6)), ⟨none, .store 5 (.t 2) (.t 98), none⟩, xS 3 (.mv (xI 0) false)] [2, 3]) .ret))))))))))))))
def c_block_Get : AFunc := ⟨k_block_Get, 99, [.c 2 5, .t 3], [], [], []⟩
def bl_bundle_blocks_0 : ACode := (.block 1 (.seq (.reg [xF 12 0, xF 13 6, xS 14 (.sl (.sl 1) (.t 12) (some (.t 13)) none none false), xS 15 (.callp f_item_Get [(.t 14)] []), xT 11 15, xE 16 11 0, xE 17 11 1, xE 18 11 2, xT 7 16, xT 8 17, xT 9 18] [0, 2, 5, 6, 7, 8, 9]) (.seq (.seq (.reg [xF 19 9, xS 20 (.bin .neq .int (.t 19) (xI 0))] [0, 2, 5, 6, 7, 8, 9, 20]) (.cond (.t 20)
 (.seq (.reg [xS 21 (.ldz 25 (.t 5) true), xT 22 9, ⟨none, .store 25 (.t 2) (.t 21), none⟩, xS 3 (.mv (xI 0) false), xT 4 22] [2, 3, 4]) .ret)
 .skip)) (.seq (.reg [xT 24 7, xS 25 (.callp f_block_Get [(.t 24)] []), xT 23 25, xE 26 23 0, xE 27 23 1, xS 10 (.alloc [(.int .u64 0), (.int .u64 0), (.int .u64 0), (.int .i64 0), (.str [])]), ⟨none, .store 5 (.t 10) (.t 26), none⟩, xT 9 27] [0, 2, 5, 6, 8, 9, 10]) (.seq (.seq (.reg [xF 28 9, xS 29 (.bin .neq .int (.t 28) (xI 0))] [0, 2, 5, 6, 8, 9, 10, 29]) (.cond (.t 29)
 (.seq (.reg [xS 30 (.ldz 25 (.t 5) true), xT 31 9, ⟨none, .store 25 (.t 2) (.t 30), none⟩, xS 3 (.mv (xI 0) false), xT 4 31] [2, 3, 4]) .ret)
 .skip)) (.seq (.reg [xT 32 6, xT 33 8, xS 34 (.bin .add .int (.t 32) (.t 33)), xT 6 34] [0, 2, 5, 6, 10]) (.seq (.seq (.reg [xS 35 (.fa 0 (.t 10)), xS 36 (.load 0 (.t 35)), xS 37 (.bin .eql .int (.t 36) (.c (.int .u64 1)))] [0, 2, 5, 6, 10, 37]) (.cond (.t 37)
 (.seq (.reg [xS 38 (.load 5 (.t 10)), xS 39 (.fa 20 (.t 5)), ⟨none, .store 5 (.t 39) (.t 38), none⟩] [2, 5, 6]) (.seq (.reg [xS 40 (.ldz 25 (.t 5) true), xT 41 6, ⟨none, .store 25 (.t 2) (.t 40), none⟩, xT 3 41, xS 4 (.mv (xI 0) false)] [2, 3, 4]) .ret))
 .skip)) (.seq (.seq (.reg [xS 42 (.fa 19 (.t 5)), xS 43 (.load 0 (.t 42)), xS 44 (.len false (.t 43)), xS 45 (.bin .eql .int (.t 44) (xI 16))] [0, 2, 5, 6, 10, 45]) (.cond (.t 45)
 (.seq (.reg [xS 46 (.ldz 25 (.t 5) true), ⟨none, .store 25 (.t 2) (.t 46), none⟩, xS 3 (.mv (xI 0) false), xS 4 (.mv (xI 4) false)] [2, 3, 4]) .ret)
 .skip)) (.reg [xS 47 (.fa 19 (.t 5)), xS 48 (.load 0 (.t 47)), xS 49 (.load 5 (.t 10)), xS 50 (.bsl 5 [(.t 49)] false), xS 51 (.apph 5 48 (.t 48) (.t 50)), xS 52 (.fa 19 (.t 5)), ⟨none, .store 1 (.t 52) (.t 51), none⟩] [0, 2, 5, 6])))))))))
def l_bundle_blocks_0 : ACode := .loop [0, 2, 5, 6] [] bl_bundle_blocks_0
theorem L_bundle_blocks_0 {T : Table} (ks : List Kt) (e : Env) (h : Heap) (Q : Ex → Env → Heap → Prop) : Xc T l_bundle_blocks_0 ks e h Q = Xc T bl_bundle_blocks_0 (.seq l_bundle_blocks_0 :: ks) (e.keep [0, 2, 5, 6]) h Q := Xc_loop ks _ e h Q _ _
def k_bundle_blocks : ACode := (.seq (.reg [xS 2 (.alloc [(.int .u64 0), (.int .i64 0), (.int .i64 0), (.str []), (.int .u64 0), (.int .u64 0), (.int .i64 0), (.str []), (.int .u64 0), (.int .u64 0), (.int .i64 0), (.str []), (.int .u64 0), (.int .u64 0), (.int .u64 0), (.int .u64 0), (.int .u64 0), (.int .u64 0), (.int .u64 0), (.ps 5 []), (.int .u64 0), (.int .u64 0), (.int .u64 0), (.int .i64 0), (.str [])]), xS 3 (.mv (xI 0) false), xS 4 (.mv (xI 0) false)] [0, 2]) (.seq (.reg [xS 5 (.alloc [(.int .u64 0), (.int .i64 0), (.int .i64 0), (.str []), (.int .u64 0), (.int .u64 0), (.int .i64 0), (.str []), (.int .u64 0), (.int .u64 0), (.int .i64 0), (.str []), (.int .u64 0), (.int .u64 0), (.int .u64 0), (.int .u64 0), (.int .u64 0), (.int .u64 0), (.int .u64 0), (.hn 5), (.int .u64 0), (.int .u64 0), (.int .u64 0), (.int .i64 0), (.str [])])] [0, 2, 5]) (.seq (.reg [xS 6 (.mv (xI 0) false)] [0, 2, 5, 6]) (.block 0 l_bundle_blocks_0))))
def c_bundle_blocks : AFunc := ⟨k_bundle_blocks, 53, [.c 2 25, .t 3, .t 4], [], [], []⟩
def k_bundle_Get : ACode := (.seq (.reg [xS 2 (.alloc [(.int .u64 0), (.int .i64 0), (.int .i64 0), (.str []), (.int .u64 0), (.int .u64 0), (.int .i64 0), (.str []), (.int .u64 0), (.int .u64 0), (.int .i64 0), (.str []), (.int .u64 0), (.int .u64 0), (.int .u64 0), (.int .u64 0), (.int .u64 0), (.int .u64 0), (.int .u64 0), (.ps 5 []), (.int .u64 0), (.int .u64 0), (.int .u64 0), (.int .i64 0), (.str [])]), xS 3 (.mv (xI 0) false)] [0, 2]) (.seq (.seq (.reg [xF 11 0, xS 12 (.len false (.t 11)), xS 13 (.bin .gtr .int (.t 12) (xI 65536))] [0, 2, 13]) (.cond (.t 13)
 (.seq (.reg [xS 14 (.build [(.int .u64 0), (.int .i64 0), (.int .i64 0), (.str []), (.int .u64 0), (.int .u64 0), (.int .i64 0), (.str []), (.int .u64 0), (.int .u64 0), (.int .i64 0), (.str []), (.int .u64 0), (.int .u64 0), (.int .u64 0), (.int .u64 0), (.int .u64 0), (.int .u64 0), (.int .u64 0), (.ps 5 []), (.int .u64 0), (.int .u64 0), (.int .u64 0), (.int .i64 0), (.str [])] []), ⟨none, .store 25 (.t 2) (.t 14), none⟩, xS 3 (.mv (xI 4) false)] [2, 3]) .ret)
 .skip)) (.seq (.seq (.reg [xF 15 0, xS 16 (.callp f_head_Open [] []), xS 17 (.callp f_head_Is [(.t 15), (.t 16)] [(0, false), (1, false)]), xS 18 (.un .not (.t 17))] [0, 2, 18]) (.cond (.t 18)
 (.seq (.reg [xS 19 (.build [(.int .u64 0), (.int .i64 0), (.int .i64 0), (.str []), (.int .u64 0), (.int .u64 0), (.int .i64 0), (.str []), (.int .u64 0), (.int .u64 0), (.int .i64 0), (.str []), (.int .u64 0), (.int .u64 0), (.int .u64 0), (.int .u64 0), (.int .u64 0), (.int .u64 0), (.int .u64 0), (.ps 5 []), (.int .u64 0), (.int .u64 0), (.int .u64 0), (.int .i64 0), (.str [])] []), ⟨none, .store 25 (.t 2) (.t 19), none⟩, xS 3 (.mv (xI 6) false)] [2, 3]) .ret)
 .skip)) (.seq (.reg [xF 21 0, xS 22 (.sl (.sl 1) (.t 21) (some (xI 1)) none none false), xS 23 (.callp f_item_Get [(.t 22)] []), xT 20 23, xE 24 20 0, xE 25 20 1, xE 26 20 2, xT 4 24, xT 5 25, xT 6 26] [0, 2, 4, 5, 6]) (.seq (.seq (.reg [xF 27 6, xS 28 (.bin .neq .int (.t 27) (xI 0))] [0, 2, 4, 5, 6, 28]) (.cond (.t 28)
 (.seq (.reg [xS 29 (.build [(.int .u64 0), (.int .i64 0), (.int .i64 0), (.str []), (.int .u64 0), (.int .u64 0), (.int .i64 0), (.str []), (.int .u64 0), (.int .u64 0), (.int .i64 0), (.str []), (.int .u64 0), (.int .u64 0), (.int .u64 0), (.int .u64 0), (.int .u64 0), (.int .u64 0), (.int .u64 0), (.ps 5 []), (.int .u64 0), (.int .u64 0), (.int .u64 0), (.int .i64 0), (.str [])] []), xT 30 6, ⟨none, .store 25 (.t 2) (.t 29), none⟩, xT 3 30] [2, 3]) .ret)
 .skip)) (.seq (.reg [xT 32 4, xS 33 (.callp f_primary_Get [(.t 32)] []), xT 31 33, xE 34 31 0, xE 35 31 1, xS 7 (.alloc [(.int .u64 0), (.int .i64 0), (.int .i64 0), (.str []), (.int .u64 0), (.int .u64 0), (.int .i64 0), (.str []), (.int .u64 0), (.int .u64 0), (.int .i64 0), (.str []), (.int .u64 0), (.int .u64 0), (.int .u64 0), (.int .u64 0), (.int .u64 0), (.int .u64 0), (.int .u64 0)]), ⟨none, .store 19 (.t 7) (.t 34), none⟩, xT 6 35] [0, 2, 5, 6, 7]) (.seq (.seq (.reg [xF 36 6, xS 37 (.bin .neq .int (.t 36) (xI 0))] [0, 2, 5, 6, 7, 37]) (.cond (.t 37)
 (.seq (.reg [xS 38 (.build [(.int .u64 0), (.int .i64 0), (.int .i64 0), (.str []), (.int .u64 0), (.int .u64 0), (.int .i64 0), (.str []), (.int .u64 0), (.int .u64 0), (.int .i64 0), (.str []), (.int .u64 0), (.int .u64 0), (.int .u64 0), (.int .u64 0), (.int .u64 0), (.int .u64 0), (.int .u64 0), (.ps 5 []), (.int .u64 0), (.int .u64 0), (.int .u64 0), (.int .i64 0), (.str [])] []), xT 39 6, ⟨none, .store 25 (.t 2) (.t 38), none⟩, xT 3 39] [2, 3]) .ret)
 .skip)) (.seq (.reg [xF 41 0, xF 42 5, xS 43 (.bin .add .int (xI 1) (.t 42)), xS 44 (.sl (.sl 1) (.t 41) (some (.t 43)) none none false), xS 45 (.callp f_bundle_blocks [(.t 44)] []), xT 40 45, xE 46 40 0, xE 47 40 1, xE 48 40 2, xS 8 (.alloc [(.int .u64 0), (.int .i64 0), (.int .i64 0), (.str []), (.int .u64 0), (.int .u64 0), (.int .i64 0), (.str []), (.int .u64 0), (.int .u64 0), (.int .i64 0), (.str []), (.int .u64 0), (.int .u64 0), (.int .u64 0), (.int .u64 0), (.int .u64 0), (.int .u64 0), (.int .u64 0), (.ps 5 []), (.int .u64 0), (.int .u64 0), (.int .u64 0), (.int .i64 0), (.str [])]), ⟨none, .store 25 (.t 8) (.t 46), none⟩, xT 9 47, xT 6 48] [0, 2, 5, 6, 7, 8, 9]) (.seq (.seq (.reg [xF 49 6, xS 50 (.bin .neq .int (.t 49) (xI 0))] [0, 2, 5, 6, 7, 8, 9, 50]) (.cond (.t 50)
 (.seq (.reg [xS 51 (.build [(.int .u64 0), (.int .i64 0), (.int .i64 0), (.str []), (.int .u64 0), (.int .u64 0), (.int .i64 0), (.str []), (.int .u64 0), (.int .u64 0), (.int .i64 0), (.str []), (.int .u64 0), (.int .u64 0), (.int .u64 0), (.int .u64 0), (.int .u64 0), (.int .u64 0), (.int .u64 0), (.ps 5 []), (.int .u64 0), (.int .u64 0), (.int .u64 0), (.int .i64 0), (.str [])] []), xT 52 6, ⟨none, .store 25 (.t 2) (.t 51), none⟩, xT 3 52] [2, 3]) .ret)
 .skip)) (.seq (.seq (.regd [xF 53 0, xF 54 5, xS 55 (.bin .add .int (xI 1) (.t 54)), xF 56 9, xS 57 (.bin .add .int (.t 55) (.t 56)), xS 58 (.sl (.sl 1) (.t 53) (some (.t 57)) none none false), xS 59 (.conv .bs (.t 58)), xS 60 (.callp f_head_Break [] []), xS 61 (.conv .bs (.t 60)), xS 62 (.bin .neq .str (.t 59) (.t 61))] [2, 7, 8, 62] ([], []) []) (.cond (.t 62)
 (.seq (.reg [xS 63 (.build [(.int .u64 0), (.int .i64 0), (.int .i64 0), (.str []), (.int .u64 0), (.int .u64 0), (.int .i64 0), (.str []), (.int .u64 0), (.int .u64 0), (.int .i64 0), (.str []), (.int .u64 0), (.int .u64 0), (.int .u64 0), (.int .u64 0), (.int .u64 0), (.int .u64 0), (.int .u64 0), (.ps 5 []), (.int .u64 0), (.int .u64 0), (.int .u64 0), (.int .i64 0), (.str [])] []), ⟨none, .store 25 (.t 2) (.t 63), none⟩, xS 3 (.mv (xI 6) false)] [2, 3]) .ret)
 .skip)) (.seq (.reg [xS 64 (.load 19 (.t 7)), xS 65 (.fa 0 (.t 8)), ⟨none, .store 19 (.t 65) (.t 64), none⟩] [2, 8]) (.seq (.seq (.reg [xS 66 (.load 25 (.t 8)), xS 67 (.callp f_bundle_Check [(.t 66)] []), xT 10 67] [2, 8, 10]) (.seq (.reg [xF 68 10, xS 69 (.bin .neq .int (.t 68) (xI 0))] [2, 8, 10, 69]) (.cond (.t 69)
 (.seq (.reg [xS 70 (.build [(.int .u64 0), (.int .i64 0), (.int .i64 0), (.str []), (.int .u64 0), (.int .u64 0), (.int .i64 0), (.str []), (.int .u64 0), (.int .u64 0), (.int .i64 0), (.str []), (.int .u64 0), (.int .u64 0), (.int .u64 0), (.int .u64 0), (.int .u64 0), (.int .u64 0), (.int .u64 0), (.ps 5 []), (.int .u64 0), (.int .u64 0), (.int .u64 0), (.int .i64 0), (.str [])] []), xT 71 10, ⟨none, .store 25 (.t 2) (.t 70), none⟩, xT 3 71] [2, 3]) .ret)
 .skip))) (.seq (.reg [xS 72 (.load 25 (.t 8)), ⟨none, .store 25 (.t 2) (.t 72), none⟩, xS 3 (.mv (xI 0) false)] [2, 3]) .ret)))))))))))))
def c_bundle_Get : AFunc := ⟨k_bundle_Get, 73, [.c 2 25, .t 3], [], [], []⟩
def k_bundle_With_1 : ACode := (.seq (.reg [xS 2 (.box (.t 0)), xS 3 (.mv (.c (.bool false)) false)] [1, 2]) (.seq (.reg [xS 4 (.fa 1 (.t 2)), xS 5 (.load 0 (.t 4)), xS 6 (.fa 1 (.t 1)), xS 7 (.load 0 (.t 6)), xS 8 (.bin .eql .int (.t 5) (.t 7)), xT 3 8] [3]) .ret))
def c_bundle_With_1 : AFunc := ⟨k_bundle_With_1, 9, [.t 3], [], [], []⟩
def bl_slices_IndexFunc_api_Block_api_Block_0 : ACode := (.seq (.reg [xS 9 (.bin .lss .int (.t 8) (.t 7))] [0, 1, 7, 8, 9]) (.seq (.cond (.t 9)
 .skip
 (.exit 0)) (.seq (.block 1 (.seq (.reg [xF 10 8, xT 5 10] [0, 1, 5, 7, 8]) (.seq (.reg [xF 11 1, xF 12 0, xF 13 5, xS 14 (.ia (.sl 5) (.t 12) (.t 13)), xS 15 (.load 5 (.t 14)), xS 16 (.callv (.t 11) [(.t 15)])] [0, 1, 5, 7, 8, 16]) (.cond (.t 16)
 (.seq (.reg [xT 17 5, xT 4 17] [4]) .ret)
 .skip)))) (.reg [xS 18 (.bin .add .int (.t 8) (xI 1)), xT 8 18] [0, 1, 7, 8]))))
def l_slices_IndexFunc_api_Block_api_Block_0 : ACode := .loop [0, 1, 7, 8] [] bl_slices_IndexFunc_api_Block_api_Block_0
theorem L_slices_IndexFunc_api_Block_api_Block_0 {T : Table} (ks : List Kt) (e : Env) (h : Heap) (Q : Ex → Env → Heap → Prop) : Xc T l_slices_IndexFunc_api_Block_api_Block_0 ks e h Q = Xc T bl_slices_IndexFunc_api_Block_api_Block_0 (.seq l_slices_IndexFunc_api_Block_api_Block_0 :: ks) (e.keep [0, 1, 7, 8]) h Q := Xc_loop ks _ e h Q _ _
def k_slices_IndexFunc_api_Block_api_Block : ACode := (.seq (.reg [xS 4 (.mv (xI 0) false)] [0, 1]) (.seq (.seq (.reg [xF 6 0, xS 7 (.len false (.t 6)), xS 8 (.mv (xI 0) false)] [0, 1, 7, 8]) (.block 0 l_slices_IndexFunc_api_Block_api_Block_0)) (.seq (.reg [xS 4 (.mv (.c (.int .i64 (-1))) false)] [4]) .ret)))
def c_slices_IndexFunc_api_Block_api_Block : AFunc := ⟨k_slices_IndexFunc_api_Block_api_Block, 19, [.t 4], [], [], []⟩
def k_slices_ContainsFunc_api_Block_api_Block : ACode := (.seq (.reg [xS 4 (.mv (.c (.bool false)) false)] [0, 1]) (.seq (.reg [xT 5 0, xT 6 1, xS 7 (.callh f_slices_IndexFunc_api_Block_api_Block [(.t 5), (.t 6)]), xS 8 (.bin .geq .int (.t 7) (xI 0)), xT 4 8] [4]) .ret))
def c_slices_ContainsFunc_api_Block_api_Block : AFunc := ⟨k_slices_ContainsFunc_api_Block_api_Block, 9, [.t 4], [], [], []⟩
def bl_bundle_With_0 : ACode := (.seq (.seq (.reg [xS 11 (.fa 19 (.t 2)), xS 12 (.load 0 (.t 11)), xS 13 (.mkfn f_bundle_With_1 [(.t 3)]), xS 14 (.callh f_slices_ContainsFunc_api_Block_api_Block [(.t 12), (.t 13)])] [2, 3, 4, 14]) (.cond (.t 14)
 .skip
 (.exit 0))) (.block 1 (.reg [xS 15 (.fa 1 (.t 3)), xS 16 (.load 0 (.t 15)), xS 17 (.bin .add .int (.t 16) (.c (.int .u64 1))), xS 18 (.fa 1 (.t 3)), ⟨none, .store 1 (.t 18) (.t 17), none⟩] [2, 3, 4])))
def l_bundle_With_0 : ACode := .loop [2, 3, 4] [] bl_bundle_With_0
theorem L_bundle_With_0 {T : Table} (ks : List Kt) (e : Env) (h : Heap) (Q : Ex → Env → Heap → Prop) : Xc T l_bundle_With_0 ks e h Q = Xc T bl_bundle_With_0 (.seq l_bundle_With_0 :: ks) (e.keep [2, 3, 4]) h Q := Xc_loop ks _ e h Q _ _
def k_bundle_With : ACode := (.seq (.reg [xS 2 (.box (.t 0)), xS 3 (.box (.t 1)), xS 4 (.alloc [(.int .u64 0), (.int .i64 0), (.int .i64 0), (.str []), (.int .u64 0), (.int .u64 0), (.int .i64 0), (.str []), (.int .u64 0), (.int .u64 0), (.int .i64 0), (.str []), (.int .u64 0), (.int .u64 0), (.int .u64 0), (.int .u64 0), (.int .u64 0), (.int .u64 0), (.int .u64 0), (.ps 5 []), (.int .u64 0), (.int .u64 0), (.int .u64 0), (.int .i64 0), (.str [])]), xS 5 (.mv (xI 0) false)] [2, 3, 4]) (.seq (.seq (.reg [xS 7 (.fa 1 (.t 3)), xS 8 (.load 0 (.t 7)), xS 9 (.bin .eql .int (.t 8) (.c (.int .u64 0)))] [2, 3, 4, 9]) (.cond (.t 9)
 (.seq (.reg [xS 10 (.fa 1 (.t 3)), ⟨none, .store 1 (.t 10) (.c (.int .u64 2)), none⟩] [2, 3, 4]) (.block 0 l_bundle_With_0))
 .skip)) (.seq (.regd [xS 19 (.fa 19 (.t 2)), xS 20 (.load 0 (.t 19)), xS 21 (.fa 19 (.t 2)), xS 22 (.load 0 (.t 21)), xS 23 (.len false (.t 22)), xS 24 (.fa 19 (.t 2)), xS 25 (.load 0 (.t 24)), xS 26 (.len false (.t 25)), xS 27 (.sl (.sl 5) (.t 20) none (some (.t 23)) (some (.t 26)) true), xS 28 (.load 5 (.t 3)), xS 29 (.bsl 5 [(.t 28)] false), xS 30 (.app 5 48 (.t 27) (.t 29)), xS 31 (.fa 19 (.t 2)), ⟨none, .store 1 (.t 31) (.t 30), none⟩] [2, 4] ([], [(8, [(27, 0)]), (11, [])]) []) (.seq (.seq (.reg [xS 32 (.load 25 (.t 2)), xS 33 (.callp f_bundle_Check [(.t 32)] []), xT 6 33] [2, 4, 6]) (.seq (.reg [xF 34 6, xS 35 (.bin .neq .int (.t 34) (xI 0))] [2, 4, 6, 35]) (.cond (.t 35)
 (.seq (.reg [xS 36 (.build [(.int .u64 0), (.int .i64 0), (.int .i64 0), (.str []), (.int .u64 0), (.int .u64 0), (.int .i64 0), (.str []), (.int .u64 0), (.int .u64 0), (.int .i64 0), (.str []), (.int .u64 0), (.int .u64 0), (.int .u64 0), (.int .u64 0), (.int .u64 0), (.int .u64 0), (.int .u64 0), (.ps 5 []), (.int .u64 0), (.int .u64 0), (.int .u64 0), (.int .i64 0), (.str [])] []), xT 37 6, ⟨none, .store 25 (.t 4) (.t 36), none⟩, xT 5 37] [4, 5]) .ret)
 .skip))) (.seq (.reg [xS 38 (.load 25 (.t 2)), ⟨none, .store 25 (.t 4) (.t 38), none⟩, xS 5 (.mv (xI 0) false)] [4, 5]) .ret)))))
def c_bundle_With : AFunc := ⟨k_bundle_With, 39, [.c 4 25, .t 5], [], [], []⟩
def k_bundle_Find_1 : ACode := (.seq (.reg [xS 2 (.box (.t 0)), xS 3 (.mv (.c (.bool false)) false)] [1, 2]) (.seq (.reg [xS 4 (.fa 0 (.t 2)), xS 5 (.load 0 (.t 4)), xS 6 (.load 0 (.t 1)), xS 7 (.bin .eql .int (.t 5) (.t 6)), xT 3 7] [3]) .ret))
def c_bundle_Find_1 : AFunc := ⟨k_bundle_Find_1, 8, [.t 3], [], [], []⟩
def k_bundle_Find : ACode := (.seq (.reg [xS 2 (.box (.t 0)), xS 3 (.box (.t 1)), xS 4 (.alloc [(.int .u64 0), (.int .u64 0), (.int .u64 0), (.int .i64 0), (.str [])]), xS 5 (.mv (.c (.bool false)) false)] [2, 3, 4]) (.seq (.reg [xS 7 (.fa 19 (.t 2)), xS 8 (.load 0 (.t 7)), xS 9 (.mkfn f_bundle_Find_1 [(.t 3)]), xS 10 (.callh f_slices_IndexFunc_api_Block_api_Block [(.t 8), (.t 9)]), xT 6 10] [2, 4, 6]) (.seq (.seq (.reg [xF 11 6, xS 12 (.bin .lss .int (.t 11) (xI 0))] [2, 4, 6, 12]) (.cond (.t 12)
 (.seq (.reg [xS 13 (.build [(.int .u64 0), (.int .u64 0), (.int .u64 0), (.int .i64 0), (.str [])] []), ⟨none, .store 5 (.t 4) (.t 13), none⟩, xS 5 (.mv (.c (.bool false)) false)] [4, 5]) .ret)
 .skip)) (.seq (.reg [xS 14 (.fa 19 (.t 2)), xS 15 (.load 0 (.t 14)), xT 16 6, xS 17 (.ia (.sl 5) (.t 15) (.t 16)), xS 18 (.load 5 (.t 17)), ⟨none, .store 5 (.t 4) (.t 18), none⟩, xS 5 (.mv (.c (.bool true)) false)] [4, 5]) .ret))))
def c_bundle_Find : AFunc := ⟨k_bundle_Find, 19, [.c 4 5, .t 5], [], [], []⟩
def bl_slices_Equal_api_Block_api_Block_0 : ACode := (.seq (.reg [xS 14 (.bin .lss .int (.t 13) (.t 12))] [0, 1, 12, 13, 14]) (.seq (.cond (.t 14)
 .skip
 (.exit 0)) (.seq (.block 1 (.seq (.reg [xF 15 13, xT 5 15] [0, 1, 5, 12, 13]) (.seq (.regd [xF 16 0, xF 17 5, xS 18 (.ia (.sl 5) (.t 16) (.t 17)), xS 19 (.load 5 (.t 18)), xF 20 1, xF 21 5, xS 22 (.ia (.sl 5) (.t 20) (.t 21)), xS 23 (.load 5 (.t 22)), xS 24 (.bin .neq (.agg (.cons 0 0 .int (.cons 1 0 .int (.cons 2 0 .int (.cons 3 0 .int (.cons 4 0 .str .nil)))))) (.t 19) (.t 23))] [0, 1, 12, 13, 24] ([], []) []) (.cond (.t 24)
 (.seq (.reg [xS 4 (.mv (.c (.bool false)) false)] [4]) .ret)
 .skip)))) (.reg [xS 25 (.bin .add .int (.t 13) (xI 1)), xT 13 25] [0, 1, 12, 13]))))
def l_slices_Equal_api_Block_api_Block_0 : ACode := .loop [0, 1, 12, 13] [] bl_slices_Equal_api_Block_api_Block_0
theorem L_slices_Equal_api_Block_api_Block_0 {T : Table} (ks : List Kt) (e : Env) (h : Heap) (Q : Ex → Env → Heap → Prop) : Xc T l_slices_Equal_api_Block_api_Block_0 ks e h Q = Xc T bl_slices_Equal_api_Block_api_Block_0 (.seq l_slices_Equal_api_Block_api_Block_0 :: ks) (e.keep [0, 1, 12, 13]) h Q := Xc_loop ks _ e h Q _ _
def k_slices_Equal_api_Block_api_Block : ACode := (.seq (.reg [xS 4 (.mv (.c (.bool false)) false)] [0, 1]) (.seq (.seq (.reg [xF 6 0, xS 7 (.len false (.t 6)), xF 8 1, xS 9 (.len false (.t 8)), xS 10 (.bin .neq .int (.t 7) (.t 9))] [0, 1, 10]) (.cond (.t 10)
 (.seq (.reg [xS 4 (.mv (.c (.bool false)) false)] [4]) .ret)
 .skip)) (.seq (.seq (.reg [xF 11 0, xS 12 (.len false (.t 11)), xS 13 (.mv (xI 0) false)] [0, 1, 12, 13]) (.block 0 l_slices_Equal_api_Block_api_Block_0)) (.seq (.reg [xS 4 (.mv (.c (.bool true)) false)] [4]) .ret))))
def c_slices_Equal_api_Block_api_Block : AFunc := ⟨k_slices_Equal_api_Block_api_Block, 26, [.t 4], [], [], []⟩
def k_bundle_Same : ACode := (.seq (.reg [xS 2 (.box (.t 0)), xS 3 (.box (.t 1)), xS 4 (.mv (.c (.bool false)) false)] [2, 3]) (.seq (.reg [xS 5 (.fa 0 (.t 2)), xS 6 (.load 19 (.t 5)), xS 7 (.fa 0 (.t 3)), xS 8 (.load 19 (.t 7)), xS 9 (.bin .eql (.agg (.cons 0 0 .int (.cons 1 0 .int (.cons 2 4 (.agg (.cons 0 0 .int (.cons 1 0 .str (.cons 2 0 .int (.cons 3 0 .int .nil))))) (.cons 6 4 (.agg (.cons 0 0 .int (.cons 1 0 .str (.cons 2 0 .int (.cons 3 0 .int .nil))))) (.cons 10 4 (.agg (.cons 0 0 .int (.cons 1 0 .str (.cons 2 0 .int (.cons 3 0 .int .nil))))) (.cons 14 2 (.agg (.cons 0 0 .int (.cons 1 0 .int .nil))) (.cons 16 0 .int (.cons 17 0 .int (.cons 18 0 .int .nil)))))))))) (.t 6) (.t 8)), xT 10 9, xG 11 10 true (.fa 20 (.t 2)), xG 12 10 true (.load 5 (.t 11)), xG 13 10 true (.fa 20 (.t 3)), xG 14 10 true (.load 5 (.t 13)), xG 15 10 true (.bin .eql (.agg (.cons 0 0 .int (.cons 1 0 .int (.cons 2 0 .int (.cons 3 0 .int (.cons 4 0 .str .nil)))))) (.t 12) (.t 14)), xS 16 (.pick (.t 10) (.t 15) (.c (.bool false))), xT 17 16, xG 18 17 true (.fa 19 (.t 2)), xG 19 17 true (.load 0 (.t 18)), xG 20 17 true (.fa 19 (.t 3)), xG 21 17 true (.load 0 (.t 20)), xG 22 17 true (.callp f_slices_Equal_api_Block_api_Block [(.t 19), (.t 21)] [(0, true), (1, true)]), xS 23 (.pick (.t 17) (.t 22) (.c (.bool false))), xT 4 23] [4]) .ret))
def c_bundle_Same : AFunc := ⟨k_bundle_Same, 24, [.t 4], [], [], []⟩
def k_stamp_End : ACode := (.seq (.reg [xS 2 (.box (.t 0)), xS 4 (.mv (.c (.int .u64 0)) false)] [1, 2]) (.seq (.seq (.reg [xF 5 1, xS 6 (.fa 0 (.t 2)), xS 7 (.load 0 (.t 6)), xS 8 (.bin .sub .int (.c (.int .u64 18446744073709551615)) (.t 7)), xS 9 (.bin .gtr .int (.t 5) (.t 8))] [1, 2, 9]) (.cond (.t 9)
 (.seq (.reg [xS 4 (.mv (.c (.int .u64 18446744073709551615)) false)] [4]) .ret)
 .skip)) (.seq (.reg [xS 10 (.fa 0 (.t 2)), xS 11 (.load 0 (.t 10)), xT 12 1, xS 13 (.bin .add .int (.t 11) (.t 12)), xT 4 13] [4]) .ret)))
def c_stamp_End : AFunc := ⟨k_stamp_End, 14, [.t 4], [], [], []⟩
def k_stamp_Over : ACode := (.seq (.reg [xS 3 (.box (.t 0)), xS 6 (.mv (.c (.bool false)) false)] [1, 2, 3]) (.seq (.reg [xS 7 (.load 2 (.t 3)), xT 8 1, xS 9 (.callp f_stamp_End [(.t 7), (.t 8)] []), xT 10 2, xS 11 (.bin .leq .int (.t 9) (.t 10)), xT 6 11] [6]) .ret))
def c_stamp_Over : AFunc := ⟨k_stamp_Over, 12, [.t 6], [], [], []⟩
def k_bundle_Over : ACode := (.seq (.reg [xS 2 (.box (.t 0)), xS 4 (.mv (.c (.bool false)) false)] [1, 2]) (.seq (.reg [xS 5 (.fa 0 (.t 2)), xS 6 (.fa 14 (.t 5)), xS 7 (.load 2 (.t 6)), xS 8 (.fa 0 (.t 2)), xS 9 (.fa 16 (.t 8)), xS 10 (.load 0 (.t 9)), xT 11 1, xS 12 (.callp f_stamp_Over [(.t 7), (.t 10), (.t 11)] []), xT 4 12] [4]) .ret))
def c_bundle_Over : AFunc := ⟨k_bundle_Over, 13, [.t 4], [], [], []⟩
def k_law11_awake : ACode := (.seq (.reg [xS 0 (.mv (.c (.bool false)) false)] []) (.seq (.reg [xS 10 (.callp f_law11_small [] []), xS 11 (.callp f_bundle_Put [(.t 10)] []), xT 9 11, xE 12 9 0, xE 13 9 1, xT 1 12, xT 2 13] [1, 2]) (.seq (.reg [xF 15 1, xS 16 (.callp f_bundle_Get [(.t 15)] []), xT 14 16, xE 17 14 0, xE 18 14 1, xS 3 (.alloc [(.int .u64 0), (.int .i64 0), (.int .i64 0), (.str []), (.int .u64 0), (.int .u64 0), (.int .i64 0), (.str []), (.int .u64 0), (.int .u64 0), (.int .i64 0), (.str []), (.int .u64 0), (.int .u64 0), (.int .u64 0), (.int .u64 0), (.int .u64 0), (.int .u64 0), (.int .u64 0), (.ps 5 []), (.int .u64 0), (.int .u64 0), (.int .u64 0), (.int .i64 0), (.str [])]), ⟨none, .store 25 (.t 3) (.t 17), none⟩, xT 4 18] [1, 2, 3, 4]) (.seq (.reg [xS 20 (.load 25 (.t 3)), xS 21 (.build [(.int .u64 0), (.int .u64 0), (.int .u64 0), (.int .i64 0), (.str [])] [(0, 1, (.c (.int .u64 7))), (4, 1, (.c (.str [120])))]), xS 22 (.callp f_bundle_With [(.t 20), (.t 21)] []), xT 19 22, xE 23 19 0, xE 24 19 1, xS 5 (.alloc [(.int .u64 0), (.int .i64 0), (.int .i64 0), (.str []), (.int .u64 0), (.int .u64 0), (.int .i64 0), (.str []), (.int .u64 0), (.int .u64 0), (.int .i64 0), (.str []), (.int .u64 0), (.int .u64 0), (.int .u64 0), (.int .u64 0), (.int .u64 0), (.int .u64 0), (.int .u64 0), (.ps 5 []), (.int .u64 0), (.int .u64 0), (.int .u64 0), (.int .i64 0), (.str [])]), ⟨none, .store 25 (.t 5) (.t 23), none⟩, xT 6 24] [1, 2, 3, 4, 5, 6]) (.seq (.reg [xS 26 (.load 25 (.t 5)), xS 27 (.callp f_bundle_Find [(.t 26), (.c (.int .u64 7))] []), xT 25 27, xE 28 25 0, xE 29 25 1, xS 7 (.alloc [(.int .u64 0), (.int .u64 0), (.int .u64 0), (.int .i64 0), (.str [])]), ⟨none, .store 5 (.t 7) (.t 28), none⟩, xT 8 29] [1, 2, 3, 4, 6, 7, 8]) (.seq (.regd [xF 30 2, xS 31 (.bin .eql .int (.t 30) (xI 0)), xF 32 31, xG 33 32 true (.mv (.t 1) false), xG 34 32 true (.len false (.t 33)), xG 35 32 true (.bin .gtr .int (.t 34) (xI 10)), xS 36 (.pick (.t 32) (.t 35) (.c (.bool false))), xF 37 36, xG 38 37 true (.mv (.t 1) false), xG 39 37 true (.ia (.sl 1) (.t 38) (xI 0)), xG 40 37 true (.load 0 (.t 39)), xG 41 37 true (.bin .eql .int (.t 40) (.c (.int .u8 159))), xS 42 (.pick (.t 37) (.t 41) (.c (.bool false))), xF 43 42, xG 44 43 true (.mv (.t 1) false), xG 45 43 true (.mv (.t 1) false), xG 46 43 true (.len false (.t 45)), xG 47 43 true (.bin .sub .int (.t 46) (xI 1)), xG 48 43 true (.ia (.sl 1) (.t 44) (.t 47)), xG 49 43 true (.load 0 (.t 48)), xG 50 43 true (.bin .eql .int (.t 49) (.c (.int .u8 255))), xS 51 (.pick (.t 43) (.t 50) (.c (.bool false))), xF 52 51, xG 53 52 true (.mv (.t 4) false), xG 54 52 true (.bin .eql .int (.t 53) (xI 0)), xS 55 (.pick (.t 52) (.t 54) (.c (.bool false))), xF 56 55, xG 57 56 true (.load 25 (.t 3)), xG 58 56 true (.callp f_law11_small [] []), xG 59 56 true (.callp f_bundle_Same [(.t 57), (.t 58)] []), xS 60 (.pick (.t 56) (.t 59) (.c (.bool false))), xF 61 60, xG 62 61 true (.mv (.t 6) false), xG 63 61 true (.bin .eql .int (.t 62) (xI 0)), xS 64 (.pick (.t 61) (.t 63) (.c (.bool false))), xF 65 64, xG 66 65 true (.mv (.t 8) false), xS 67 (.pick (.t 65) (.t 66) (.c (.bool false))), xF 68 67, xG 69 68 true (.fa 1 (.t 7)), xG 70 68 true (.load 0 (.t 69)), xG 71 68 true (.bin .eql .int (.t 70) (.c (.int .u64 2))), xS 72 (.pick (.t 68) (.t 71) (.c (.bool false))), xF 73 72, xG 74 73 true (.load 25 (.t 3)), xG 75 73 true (.callp f_bundle_Over [(.t 74), (.c (.int .u64 9))] []), xS 76 (.pick (.t 73) (.t 75) (.c (.bool false))), xF 77 76, xG 78 77 true (.load 25 (.t 3)), xG 79 77 true (.callp f_bundle_Over [(.t 78), (.c (.int .u64 8))] []), xG 80 77 true (.un .not (.t 79)), xS 81 (.pick (.t 77) (.t 80) (.c (.bool false))), xT 0 81] [0] ([(1, 0)], []) []) .ret))))))
def c_law11_awake : AFunc := ⟨k_law11_awake, 82, [.t 0], [], [], []⟩
def bl_ref11_Same_0 : ACode := (.seq (.seq (.reg [xF 27 5, xS 28 (.fa 19 (.t 2)), xS 29 (.load 0 (.t 28)), xS 30 (.len false (.t 29)), xS 31 (.bin .lss .int (.t 27) (.t 30))] [2, 3, 5, 31]) (.cond (.t 31)
 .skip
 (.exit 0))) (.seq (.block 1 (.seq (.regd [xS 34 (.fa 19 (.t 2)), xS 35 (.load 0 (.t 34)), xF 36 5, xS 37 (.ia (.sl 5) (.t 35) (.t 36)), xS 38 (.load 5 (.t 37)), xS 39 (.fa 19 (.t 3)), xS 40 (.load 0 (.t 39)), xF 41 5, xS 42 (.ia (.sl 5) (.t 40) (.t 41)), xS 43 (.load 5 (.t 42)), xS 44 (.bin .neq (.agg (.cons 0 0 .int (.cons 1 0 .int (.cons 2 0 .int (.cons 3 0 .int (.cons 4 0 .str .nil)))))) (.t 38) (.t 43))] [2, 3, 5, 44] ([], []) []) (.cond (.t 44)
 (.seq (.reg [xS 4 (.mv (.c (.bool false)) false)] [4]) .ret)
 .skip))) (.reg [xT 32 5, xS 33 (.bin .add .int (.t 32) (xI 1)), xT 5 33] [2, 3, 5])))
def l_ref11_Same_0 : ACode := .loop [2, 3, 5] [] bl_ref11_Same_0
theorem L_ref11_Same_0 {T : Table} (ks : List Kt) (e : Env) (h : Heap) (Q : Ex → Env → Heap → Prop) : Xc T l_ref11_Same_0 ks e h Q = Xc T bl_ref11_Same_0 (.seq l_ref11_Same_0 :: ks) (e.keep [2, 3, 5]) h Q := Xc_loop ks _ e h Q _ _
def k_ref11_Same : ACode := (.seq (.reg [xS 2 (.box (.t 0)), xS 3 (.box (.t 1)), xS 4 (.mv (.c (.bool false)) false)] [2, 3]) (.seq (.seq (.reg [xS 6 (.fa 0 (.t 2)), xS 7 (.load 19 (.t 6)), xS 8 (.fa 0 (.t 3)), xS 9 (.load 19 (.t 8)), xS 10 (.bin .neq (.agg (.cons 0 0 .int (.cons 1 0 .int (.cons 2 4 (.agg (.cons 0 0 .int (.cons 1 0 .str (.cons 2 0 .int (.cons 3 0 .int .nil))))) (.cons 6 4 (.agg (.cons 0 0 .int (.cons 1 0 .str (.cons 2 0 .int (.cons 3 0 .int .nil))))) (.cons 10 4 (.agg (.cons 0 0 .int (.cons 1 0 .str (.cons 2 0 .int (.cons 3 0 .int .nil))))) (.cons 14 2 (.agg (.cons 0 0 .int (.cons 1 0 .int .nil))) (.cons 16 0 .int (.cons 17 0 .int (.cons 18 0 .int .nil)))))))))) (.t 7) (.t 9)), xT 11 10, xG 12 11 false (.fa 20 (.t 2)), xG 13 11 false (.load 5 (.t 12)), xG 14 11 false (.fa 20 (.t 3)), xG 15 11 false (.load 5 (.t 14)), xG 16 11 false (.bin .neq (.agg (.cons 0 0 .int (.cons 1 0 .int (.cons 2 0 .int (.cons 3 0 .int (.cons 4 0 .str .nil)))))) (.t 13) (.t 15)), xS 17 (.pick (.t 11) (.c (.bool true)) (.t 16)), xT 18 17, xG 19 18 false (.fa 19 (.t 2)), xG 20 18 false (.load 0 (.t 19)), xG 21 18 false (.len false (.t 20)), xG 22 18 false (.fa 19 (.t 3)), xG 23 18 false (.load 0 (.t 22)), xG 24 18 false (.len false (.t 23)), xG 25 18 false (.bin .neq .int (.t 21) (.t 24)), xS 26 (.pick (.t 18) (.c (.bool true)) (.t 25))] [2, 3, 26]) (.cond (.t 26)
 (.seq (.reg [xS 4 (.mv (.c (.bool false)) false)] [4]) .ret)
 .skip)) (.seq (.seq (.reg [xS 5 (.mv (xI 0) false)] [2, 3, 5]) (.block 0 l_ref11_Same_0)) (.seq (.reg [xS 4 (.mv (.c (.bool true)) false)] [4]) .ret))))
def c_ref11_Same : AFunc := ⟨k_ref11_Same, 45, [.t 4], [], [], []⟩
def k_slices_Clone_api_Block_api_Block : ACode := (.seq (.reg [xS 2 (.mv (.c (.hn 5)) false)] [0]) (.nilc [xF 3 0] (.t 3) 4 false [0]
 (.seq (.reg [xS 2 (.mv (.c (.hn 5)) false)] [2]) .ret)
 .skip
 (.seq (.reg [xS 5 (.bsl 5 [] true), xT 6 0, xS 7 (.apph 5 48 (.t 5) (.t 6)), xT 2 7] [2]) .ret)))
def c_slices_Clone_api_Block_api_Block : AFunc := ⟨k_slices_Clone_api_Block_api_Block, 8, [.t 2], [], [], []⟩
def k_bundle_Without_1 : ACode := (.seq (.reg [xS 2 (.box (.t 0)), xS 3 (.mv (.c (.bool false)) false)] [1, 2]) (.seq (.reg [xS 4 (.fa 1 (.t 2)), xS 5 (.load 0 (.t 4)), xS 6 (.load 0 (.t 1)), xS 7 (.bin .eql .int (.t 5) (.t 6)), xT 3 7] [3]) .ret))
def c_bundle_Without_1 : AFunc := ⟨k_bundle_Without_1, 8, [.t 3], [], [], []⟩
def bl_slices_DeleteFunc_api_Block_api_Block_0 : ACode := (.seq (.seq (.reg [xF 16 6, xF 17 0, xS 18 (.len false (.t 17)), xS 19 (.bin .lss .int (.t 16) (.t 18))] [0, 1, 5, 6, 19]) (.cond (.t 19)
 .skip
 (.exit 0))) (.seq (.block 1 (.seq (.reg [xF 22 0, xF 23 6, xS 24 (.ia (.sl 5) (.t 22) (.t 23)), xS 25 (.load 5 (.t 24)), xS 7 (.alloc [(.int .u64 0), (.int .u64 0), (.int .u64 0), (.int .i64 0), (.str [])]), ⟨none, .store 5 (.t 7) (.t 25), none⟩] [0, 1, 5, 6, 7]) (.seq (.reg [xF 26 1, xS 27 (.load 5 (.t 7)), xS 28 (.callv (.t 26) [(.t 27)]), xS 29 (.un .not (.t 28))] [0, 1, 5, 6, 7, 29]) (.cond (.t 29)
 (.seq (.reg [xF 30 0, xF 31 5, xS 32 (.load 5 (.t 7)), xS 33 (.ia (.sl 5) (.t 30) (.t 31)), ⟨none, .store 5 (.t 33) (.t 32), none⟩] [0, 1, 5, 6]) (.reg [xT 34 5, xS 35 (.bin .add .int (.t 34) (xI 1)), xT 5 35] [0, 1, 5, 6]))
 .skip)))) (.reg [xT 20 6, xS 21 (.bin .add .int (.t 20) (xI 1)), xT 6 21] [0, 1, 5, 6])))
def l_slices_DeleteFunc_api_Block_api_Block_0 : ACode := .loop [0, 1, 5, 6] [] bl_slices_DeleteFunc_api_Block_api_Block_0
theorem L_slices_DeleteFunc_api_Block_api_Block_0 {T : Table} (ks : List Kt) (e : Env) (h : Heap) (Q : Ex → Env → Heap → Prop) : Xc T l_slices_DeleteFunc_api_Block_api_Block_0 ks e h Q = Xc T bl_slices_DeleteFunc_api_Block_api_Block_0 (.seq l_slices_DeleteFunc_api_Block_api_Block_0 :: ks) (e.keep [0, 1, 5, 6]) h Q := Xc_loop ks _ e h Q _ _
def k_slices_DeleteFunc_api_Block_api_Block : ACode := (.seq (.reg [xS 4 (.mv (.c (.hn 5)) false)] [0, 1]) (.seq (.reg [xF 8 0, xF 9 1, xS 10 (.callh f_slices_IndexFunc_api_Block_api_Block [(.t 8), (.t 9)]), xT 5 10] [0, 1, 5]) (.seq (.seq (.reg [xF 11 5, xS 12 (.bin .eql .int (.t 11) (.c (.int .i64 (-1))))] [0, 1, 5, 12]) (.cond (.t 12)
 (.seq (.reg [xT 13 0, xT 4 13] [4]) .ret)
 .skip)) (.seq (.seq (.reg [xF 14 5, xS 15 (.bin .add .int (.t 14) (xI 1)), xT 6 15] [0, 1, 5, 6]) (.block 0 l_slices_DeleteFunc_api_Block_api_Block_0)) (.seq (.reg [xF 36 0, xF 37 5, xS 38 (.sl (.sl 5) (.t 36) (some (.t 37)) none none false), ⟨none, .clr 5 [(.int .u64 0), (.int .u64 0), (.int .u64 0), (.int .i64 0), (.str [])] (.t 38), none⟩] [0, 5]) (.seq (.reg [xT 39 0, xT 40 5, xS 41 (.sl (.sl 5) (.t 39) none (some (.t 40)) none false), xT 4 41] [4]) .ret))))))
def c_slices_DeleteFunc_api_Block_api_Block : AFunc := ⟨k_slices_DeleteFunc_api_Block_api_Block, 42, [.t 4], [], [], [(0, true)]⟩
def k_bundle_Without : ACode := (.seq (.reg [xS 2 (.box (.t 0)), xS 3 (.box (.t 1)), xS 4 (.alloc [(.int .u64 0), (.int .i64 0), (.int .i64 0), (.str []), (.int .u64 0), (.int .u64 0), (.int .i64 0), (.str []), (.int .u64 0), (.int .u64 0), (.int .i64 0), (.str []), (.int .u64 0), (.int .u64 0), (.int .u64 0), (.int .u64 0), (.int .u64 0), (.int .u64 0), (.int .u64 0), (.ps 5 []), (.int .u64 0), (.int .u64 0), (.int .u64 0), (.int .i64 0), (.str [])])] [2, 3, 4]) (.seq (.reg [xS 5 (.fa 19 (.t 2)), xS 6 (.load 0 (.t 5)), xS 7 (.callh f_slices_Clone_api_Block_api_Block [(.t 6)]), xS 8 (.mkfn f_bundle_Without_1 [(.t 3)]), xS 9 (.callh f_slices_DeleteFunc_api_Block_api_Block [(.t 7), (.t 8)]), xS 10 (.fa 19 (.t 2)), ⟨none, .store 1 (.t 10) (.t 9), none⟩] [2, 4]) (.seq (.reg [xS 11 (.load 25 (.t 2)), ⟨none, .store 25 (.t 4) (.t 11), none⟩] [4]) .ret)))
def c_bundle_Without : AFunc := ⟨k_bundle_Without, 12, [.c 4 25], [], [], []⟩
def bl_stamp_digits_0 : ACode := (.seq (.seq (.reg [xF 4 0, xS 5 (.bin .gtr .int (.t 4) (.c (.int .u64 9)))] [0, 3, 5]) (.cond (.t 5)
 .skip
 (.exit 0))) (.block 1 (.seq (.reg [xF 6 0, xS 7 (.bin .rem .int (.t 6) (.c (.int .u64 10))), xS 8 (.bin .add .int (.c (.int .u64 48)) (.t 7)), xS 9 (.conv (.i .u8) (.t 8)), xS 10 (.bsl 1 [(.t 9)] false), xS 11 (.conv .bs (.t 10)), xT 12 3, xS 13 (.bin .add .int (.t 11) (.t 12)), xT 3 13] [0, 3]) (.reg [xT 14 0, xS 15 (.bin .quo .int (.t 14) (.c (.int .u64 10))), xT 0 15] [0, 3]))))
def l_stamp_digits_0 : ACode := .loop [0, 3] [] bl_stamp_digits_0
theorem L_stamp_digits_0 {T : Table} (ks : List Kt) (e : Env) (h : Heap) (Q : Ex → Env → Heap → Prop) : Xc T l_stamp_digits_0 ks e h Q = Xc T bl_stamp_digits_0 (.seq l_stamp_digits_0 :: ks) (e.keep [0, 3]) h Q := Xc_loop ks _ e h Q _ _
def k_stamp_digits : ACode := (.seq (.reg [xS 2 (.mv (.c (.str [])) false)] [0]) (.seq (.reg [xS 3 (.mv (.c (.str [])) false)] [0, 3]) (.seq (.block 0 l_stamp_digits_0) (.seq (.reg [xT 16 0, xS 17 (.bin .add .int (.c (.int .u64 48)) (.t 16)), xS 18 (.conv (.i .u8) (.t 17)), xS 19 (.bsl 1 [(.t 18)] false), xS 20 (.conv .bs (.t 19)), xT 21 3, xS 22 (.bin .add .int (.t 20) (.t 21)), xT 2 22] [2]) .ret))))
def c_stamp_digits : AFunc := ⟨k_stamp_digits, 23, [.t 2], [], [], []⟩
def k_stamp_Key_1 : ACode := (.regd [xS 3 (.load 0 (.t 1)), xF 4 0, xS 5 (.callp f_stamp_digits [(.t 4)] []), xS 6 (.bin .add .int (.t 5) (.c (.str [32]))), xS 7 (.bin .add .int (.t 3) (.t 6)), ⟨none, .store 1 (.t 1) (.t 7), none⟩] [] ([], []) [])
def c_stamp_Key_1 : AFunc := ⟨k_stamp_Key_1, 8, [], [], [], []⟩
def k_stamp_Key : ACode := (.seq (.reg [xS 2 (.box (.t 0)), xS 3 (.box (.t 1)), xS 4 (.mv (.c (.str [])) false)] [2, 3]) (.seq (.reg [xS 5 (.alloc [(.str [])]), ⟨none, .store 1 (.t 5) (.c (.str [])), none⟩] [2, 3, 5]) (.seq (.reg [xS 7 (.mkfn f_stamp_Key_1 [(.t 5)]), xT 6 7] [2, 3, 5, 6]) (.seq (.reg [xF 8 6, xS 9 (.fa 0 (.t 2)), xS 10 (.load 0 (.t 9)), xS 11 (.conv (.i .u64) (.t 10)), xS 12 (.callv (.t 8) [(.t 11)])] [2, 3, 5, 6]) (.seq (.reg [xF 13 6, xS 14 (.fa 2 (.t 2)), xS 15 (.load 0 (.t 14)), xS 16 (.callv (.t 13) [(.t 15)])] [2, 3, 5, 6]) (.seq (.reg [xF 17 6, xS 18 (.fa 3 (.t 2)), xS 19 (.load 0 (.t 18)), xS 20 (.callv (.t 17) [(.t 19)])] [2, 3, 5, 6]) (.seq (.reg [xF 21 6, xS 22 (.fa 0 (.t 3)), xS 23 (.load 0 (.t 22)), xS 24 (.callv (.t 21) [(.t 23)])] [2, 3, 5, 6]) (.seq (.reg [xT 25 6, xS 26 (.fa 1 (.t 3)), xS 27 (.load 0 (.t 26)), xS 28 (.callv (.t 25) [(.t 27)])] [2, 5]) (.seq (.reg [xS 29 (.load 0 (.t 5)), xS 30 (.fa 1 (.t 2)), xS 31 (.load 0 (.t 30)), xS 32 (.bin .add .int (.t 29) (.t 31)), xT 4 32] [4]) .ret)))))))))
def c_stamp_Key : AFunc := ⟨k_stamp_Key, 33, [.t 4], [], [], []⟩
def bl_bundle_digits_0 : ACode := (.seq (.seq (.reg [xF 4 0, xS 5 (.bin .gtr .int (.t 4) (.c (.int .u64 9)))] [0, 3, 5]) (.cond (.t 5)
 .skip
 (.exit 0))) (.block 1 (.seq (.reg [xF 6 0, xS 7 (.bin .rem .int (.t 6) (.c (.int .u64 10))), xS 8 (.bin .add .int (.c (.int .u64 48)) (.t 7)), xS 9 (.conv (.i .u8) (.t 8)), xS 10 (.bsl 1 [(.t 9)] false), xS 11 (.conv .bs (.t 10)), xT 12 3, xS 13 (.bin .add .int (.t 11) (.t 12)), xT 3 13] [0, 3]) (.reg [xT 14 0, xS 15 (.bin .quo .int (.t 14) (.c (.int .u64 10))), xT 0 15] [0, 3]))))
def l_bundle_digits_0 : ACode := .loop [0, 3] [] bl_bundle_digits_0
theorem L_bundle_digits_0 {T : Table} (ks : List Kt) (e : Env) (h : Heap) (Q : Ex → Env → Heap → Prop) : Xc T l_bundle_digits_0 ks e h Q = Xc T bl_bundle_digits_0 (.seq l_bundle_digits_0 :: ks) (e.keep [0, 3]) h Q := Xc_loop ks _ e h Q _ _
def k_bundle_digits : ACode := (.seq (.reg [xS 2 (.mv (.c (.str [])) false)] [0]) (.seq (.reg [xS 3 (.mv (.c (.str [])) false)] [0, 3]) (.seq (.block 0 l_bundle_digits_0) (.seq (.reg [xT 16 0, xS 17 (.bin .add .int (.c (.int .u64 48)) (.t 16)), xS 18 (.conv (.i .u8) (.t 17)), xS 19 (.bsl 1 [(.t 18)] false), xS 20 (.conv .bs (.t 19)), xT 21 3, xS 22 (.bin .add .int (.t 20) (.t 21)), xT 2 22] [2]) .ret))))
def c_bundle_digits : AFunc := ⟨k_bundle_digits, 23, [.t 2], [], [], []⟩
def k_bundle_Key : ACode := (.seq (.reg [xS 1 (.box (.t 0)), xS 2 (.mv (.c (.str [])) false)] [1]) (.seq (.reg [xS 4 (.fa 0 (.t 1)), xS 5 (.fa 6 (.t 4)), xS 6 (.load 4 (.t 5)), xS 7 (.fa 0 (.t 1)), xS 8 (.fa 14 (.t 7)), xS 9 (.load 2 (.t 8)), xS 10 (.callp f_stamp_Key [(.t 6), (.t 9)] []), xT 3 10] [1, 3]) (.seq (.seq (.reg [xS 11 (.fa 0 (.t 1)), xS 12 (.load 19 (.t 11)), xS 13 (.callp f_primary_Fragment [(.t 12)] [])] [1, 3, 13]) (.cond (.t 13)
 (.regd [xF 14 3, xS 15 (.fa 0 (.t 1)), xS 16 (.fa 17 (.t 15)), xS 17 (.load 0 (.t 16)), xS 18 (.callp f_bundle_digits [(.t 17)] []), xS 19 (.bin .add .int (.c (.str [32])) (.t 18)), xS 20 (.bin .add .int (.t 19) (.c (.str [32]))), xS 21 (.fa 0 (.t 1)), xS 22 (.fa 18 (.t 21)), xS 23 (.load 0 (.t 22)), xS 24 (.callp f_bundle_digits [(.t 23)] []), xS 25 (.bin .add .int (.t 20) (.t 24)), xS 26 (.bin .add .int (.t 14) (.t 25)), xT 3 26] [3] ([], []) [])
 .skip)) (.seq (.reg [xT 27 3, xT 2 27] [2]) .ret))))
def c_bundle_Key : AFunc := ⟨k_bundle_Key, 28, [.t 2], [], [], []⟩
def k_ref07_Digits : ACode := (.seq (.reg [xS 2 (.mv (.c (.str [])) false)] [0]) (.seq (.seq (.reg [xF 3 0, xS 4 (.bin .lss .int (.t 3) (.c (.int .u64 10)))] [0, 4]) (.cond (.t 4)
 (.seq (.reg [xF 5 0, xT 6 0, xS 7 (.bin .add .int (.t 6) (.c (.int .u64 1))), xS 8 (.sl .str (.c (.str [48, 49, 50, 51, 52, 53, 54, 55, 56, 57])) (some (.t 5)) (some (.t 7)) none false), xT 2 8] [2]) .ret)
 .skip)) (.seq (.reg [xF 9 0, xS 10 (.bin .quo .int (.t 9) (.c (.int .u64 10))), xS 11 (.callp f_ref07_Digits [(.t 10)] []), xT 12 0, xS 13 (.bin .rem .int (.t 12) (.c (.int .u64 10))), xS 14 (.callp f_ref07_Digits [(.t 13)] []), xS 15 (.bin .add .int (.t 11) (.t 14)), xT 2 15] [2]) .ret)))
def c_ref07_Digits : AFunc := ⟨k_ref07_Digits, 16, [.t 2], [], [], []⟩
def k_ref08_Key : ACode := (.seq (.reg [xS 2 (.box (.t 0)), xS 3 (.box (.t 1)), xS 4 (.mv (.c (.str [])) false)] [2, 3]) (.seq (.regd [xS 5 (.fa 0 (.t 2)), xS 6 (.load 0 (.t 5)), xS 7 (.conv (.i .u64) (.t 6)), xS 8 (.callp f_ref07_Digits [(.t 7)] []), xS 9 (.bin .add .int (.t 8) (.c (.str [32]))), xS 10 (.fa 2 (.t 2)), xS 11 (.load 0 (.t 10)), xS 12 (.callp f_ref07_Digits [(.t 11)] []), xS 13 (.bin .add .int (.t 9) (.t 12)), xS 14 (.bin .add .int (.t 13) (.c (.str [32]))), xS 15 (.fa 3 (.t 2)), xS 16 (.load 0 (.t 15)), xS 17 (.callp f_ref07_Digits [(.t 16)] []), xS 18 (.bin .add .int (.t 14) (.t 17)), xS 19 (.bin .add .int (.t 18) (.c (.str [32]))), xS 20 (.fa 0 (.t 3)), xS 21 (.load 0 (.t 20)), xS 22 (.callp f_ref07_Digits [(.t 21)] []), xS 23 (.bin .add .int (.t 19) (.t 22)), xS 24 (.bin .add .int (.t 23) (.c (.str [32]))), xS 25 (.fa 1 (.t 3)), xS 26 (.load 0 (.t 25)), xS 27 (.callp f_ref07_Digits [(.t 26)] []), xS 28 (.bin .add .int (.t 24) (.t 27)), xS 29 (.bin .add .int (.t 28) (.c (.str [32]))), xS 30 (.fa 1 (.t 2)), xS 31 (.load 0 (.t 30)), xS 32 (.bin .add .int (.t 29) (.t 31)), xT 4 32] [4] ([], []) []) .ret))
def c_ref08_Key : AFunc := ⟨k_ref08_Key, 33, [.t 4], [], [], []⟩
def k_ref11_Key : ACode := (.seq (.reg [xS 1 (.box (.t 0)), xS 2 (.mv (.c (.str [])) false)] [1]) (.seq (.reg [xS 4 (.fa 0 (.t 1)), xS 5 (.fa 6 (.t 4)), xS 6 (.load 4 (.t 5)), xS 7 (.fa 0 (.t 1)), xS 8 (.fa 14 (.t 7)), xS 9 (.load 2 (.t 8)), xS 10 (.callp f_ref08_Key [(.t 6), (.t 9)] []), xT 3 10] [1, 3]) (.seq (.seq (.reg [xS 11 (.fa 0 (.t 1)), xS 12 (.fa 0 (.t 11)), xS 13 (.load 0 (.t 12)), xS 14 (.bin .rem .int (.t 13) (.c (.int .u64 2))), xS 15 (.bin .eql .int (.t 14) (.c (.int .u64 1)))] [1, 3, 15]) (.cond (.t 15)
 (.regd [xF 16 3, xS 17 (.bin .add .int (.t 16) (.c (.str [32]))), xS 18 (.fa 0 (.t 1)), xS 19 (.fa 17 (.t 18)), xS 20 (.load 0 (.t 19)), xS 21 (.callp f_ref07_Digits [(.t 20)] []), xS 22 (.bin .add .int (.t 17) (.t 21)), xS 23 (.bin .add .int (.t 22) (.c (.str [32]))), xS 24 (.fa 0 (.t 1)), xS 25 (.fa 18 (.t 24)), xS 26 (.load 0 (.t 25)), xS 27 (.callp f_ref07_Digits [(.t 26)] []), xS 28 (.bin .add .int (.t 23) (.t 27)), xT 3 28] [3] ([], []) [])
 .skip)) (.seq (.reg [xT 29 3, xT 2 29] [2]) .ret))))
def c_ref11_Key : AFunc := ⟨k_ref11_Key, 30, [.t 2], [], [], []⟩
def k_ref08_End : ACode := (.seq (.reg [xS 2 (.box (.t 0)), xS 4 (.mv (.c (.int .u64 0)) false)] [1, 2]) (.seq (.reg [xS 6 (.fa 0 (.t 2)), xS 7 (.load 0 (.t 6)), xT 8 1, xS 9 (.bin .add .int (.t 7) (.t 8)), xT 5 9] [2, 5]) (.seq (.seq (.reg [xF 10 5, xS 11 (.fa 0 (.t 2)), xS 12 (.load 0 (.t 11)), xS 13 (.bin .lss .int (.t 10) (.t 12))] [5, 13]) (.cond (.t 13)
 (.seq (.reg [xS 4 (.mv (.c (.int .u64 18446744073709551615)) false)] [4]) .ret)
 .skip)) (.seq (.reg [xT 14 5, xT 4 14] [4]) .ret))))
def c_ref08_End : AFunc := ⟨k_ref08_End, 15, [.t 4], [], [], []⟩
def bl_law11_BundleLooks_0 : ACode := (.seq (.seq (.reg [xF 43 11, xS 44 (.bin .geq .int (.t 43) (xI 0))] [3, 4, 5, 6, 7, 8, 9, 10, 11, 44]) (.cond (.t 44)
 .skip
 (.exit 0))) (.seq (.block 1 (.seq (.seq (.reg [xS 47 (.fa 19 (.t 3)), xS 48 (.load 0 (.t 47)), xF 49 11, xS 50 (.ia (.sl 5) (.t 48) (.t 49)), xS 51 (.fa 0 (.t 50)), xS 52 (.load 0 (.t 51)), xF 53 5, xS 54 (.bin .eql .int (.t 52) (.t 53))] [3, 4, 5, 6, 7, 8, 9, 10, 11, 54]) (.cond (.t 54)
 (.reg [xF 55 11, xT 9 55] [3, 4, 5, 6, 7, 8, 9, 10, 11])
 .skip)) (.seq (.reg [xS 56 (.fa 19 (.t 3)), xS 57 (.load 0 (.t 56)), xF 58 11, xS 59 (.ia (.sl 5) (.t 57) (.t 58)), xS 60 (.fa 1 (.t 59)), xS 61 (.load 0 (.t 60)), xF 62 6, xS 63 (.bin .neq .int (.t 61) (.t 62))] [3, 4, 5, 6, 7, 8, 9, 10, 11, 63]) (.cond (.t 63)
 (.reg [xS 64 (.fa 19 (.t 3)), xS 65 (.load 0 (.t 64)), xF 66 11, xS 67 (.ia (.sl 5) (.t 65) (.t 66)), xS 68 (.load 5 (.t 67)), xS 69 (.bsl 5 [(.t 68)] false), xT 70 10, xS 71 (.app 5 48 (.t 69) (.t 70)), xT 10 71] [3, 4, 5, 6, 7, 8, 9, 10, 11])
 .skip)))) (.reg [xT 45 11, xS 46 (.bin .sub .int (.t 45) (xI 1)), xT 11 46] [3, 4, 5, 6, 7, 8, 9, 10, 11])))
def l_law11_BundleLooks_0 : ACode := .loop [3, 4, 5, 6, 7, 8, 9, 10, 11] [(10, 0)] bl_law11_BundleLooks_0
theorem L_law11_BundleLooks_0 {T : Table} (ks : List Kt) (e : Env) (h : Heap) (Q : Ex → Env → Heap → Prop) : Xc T l_law11_BundleLooks_0 ks e h Q = Xc T bl_law11_BundleLooks_0 (.seq l_law11_BundleLooks_0 :: ks) (e.keep [3, 4, 5, 6, 7, 8, 9, 10, 11]) h Q := Xc_loop ks _ e h Q _ _
def k_law11_BundleLooks : ACode := (.seq (.reg [xS 1 (.box (.t 0)), xS 2 (.mv (.c (.bool false)) false)] [1]) (.seq (.regd [xS 14 (.fa 0 (.t 1)), xS 15 (.load 25 (.t 14)), xS 16 (.fa 25 (.t 1)), xS 17 (.load 0 (.t 16)), xS 18 (.fa 26 (.t 1)), xS 19 (.load 0 (.t 18)), xS 20 (.fa 27 (.t 1)), xS 21 (.load 0 (.t 20)), xS 3 (.alloc [(.int .u64 0), (.int .i64 0), (.int .i64 0), (.str []), (.int .u64 0), (.int .u64 0), (.int .i64 0), (.str []), (.int .u64 0), (.int .u64 0), (.int .i64 0), (.str []), (.int .u64 0), (.int .u64 0), (.int .u64 0), (.int .u64 0), (.int .u64 0), (.int .u64 0), (.int .u64 0), (.ps 5 []), (.int .u64 0), (.int .u64 0), (.int .u64 0), (.int .i64 0), (.str [])]), ⟨none, .store 25 (.t 3) (.t 15), none⟩, xF 4 17, xF 5 19, xT 6 21] [3, 4, 5, 6] ([], []) [(1, 0, 9), (3, 0, 13), (5, 0, 13), (7, 0, 13)]) (.seq (.seq (.reg [xS 22 (.load 25 (.t 3)), xS 23 (.callp f_law11_Light [(.t 22)] []), xS 24 (.un .not (.t 23)), xT 25 24, xG 26 25 false (.fa 0 (.t 3)), xG 27 25 false (.fa 6 (.t 26)), xG 28 25 false (.fa 0 (.t 27)), xG 29 25 false (.load 0 (.t 28)), xG 30 25 false (.bin .lss .int (.t 29) (xI 0)), xS 31 (.pick (.t 25) (.c (.bool true)) (.t 30))] [3, 4, 5, 6, 31]) (.cond (.t 31)
 (.seq (.reg [xS 32 (.callp f_law11_awake [] []), xT 2 32] [2]) .ret)
 .skip)) (.seq (.reg [xS 34 (.load 25 (.t 3)), xF 35 5, xS 36 (.callp f_bundle_Find [(.t 34), (.t 35)] []), xT 33 36, xE 37 33 0, xE 38 33 1, xS 7 (.alloc [(.int .u64 0), (.int .u64 0), (.int .u64 0), (.int .i64 0), (.str [])]), ⟨none, .store 5 (.t 7) (.t 37), none⟩, xT 8 38] [3, 4, 5, 6, 7, 8]) (.seq (.reg [xS 9 (.mv (.c (.int .i64 (-1))) false)] [3, 4, 5, 6, 7, 8, 9]) (.seq (.reg [xS 10 (.mv (.c (.ps 5 [])) false)] [3, 4, 5, 6, 7, 8, 9, 10]) (.seq (.seq (.reg [xS 39 (.fa 19 (.t 3)), xS 40 (.load 0 (.t 39)), xS 41 (.len false (.t 40)), xS 42 (.bin .sub .int (.t 41) (xI 1)), xT 11 42] [3, 4, 5, 6, 7, 8, 9, 10, 11]) (.block 0 l_law11_BundleLooks_0)) (.seq (.seq (.regd [xF 72 8, xF 73 9, xS 74 (.bin .geq .int (.t 73) (xI 0)), xS 75 (.bin .neq .bool (.t 72) (.t 74)), xF 76 75, xG 77 76 false (.mv (.t 8) false), xG 78 76 false (.mv (.t 77) false), xG 79 78 true (.load 5 (.t 7)), xG 80 78 true (.fa 19 (.t 3)), xG 81 78 true (.load 0 (.t 80)), xG 82 78 true (.mv (.t 9) false), xG 83 78 true (.ia (.sl 5) (.t 81) (.t 82)), xG 84 78 true (.load 5 (.t 83)), xG 85 78 true (.bin .neq (.agg (.cons 0 0 .int (.cons 1 0 .int (.cons 2 0 .int (.cons 3 0 .int (.cons 4 0 .str .nil)))))) (.t 79) (.t 84)), xG 86 76 false (.pick (.t 78) (.t 85) (.c (.bool false))), xS 87 (.pick (.t 76) (.c (.bool true)) (.t 86)), xF 88 87, xG 89 88 false (.mv (.t 8) false), xG 90 88 false (.un .not (.t 89)), xG 91 88 false (.mv (.t 90) false), xG 92 91 true (.load 5 (.t 7)), xG 93 91 true (.build [(.int .u64 0), (.int .u64 0), (.int .u64 0), (.int .i64 0), (.str [])] []), xG 94 91 true (.bin .neq (.agg (.cons 0 0 .int (.cons 1 0 .int (.cons 2 0 .int (.cons 3 0 .int (.cons 4 0 .str .nil)))))) (.t 92) (.t 93)), xG 95 88 false (.pick (.t 91) (.t 94) (.c (.bool false))), xS 96 (.pick (.t 88) (.c (.bool true)) (.t 95))] [3, 4, 6, 10, 96] ([(10, 0)], []) []) (.cond (.t 96)
 (.seq (.reg [xS 2 (.mv (.c (.bool false)) false)] [2]) .ret)
 .skip)) (.seq (.reg [xS 97 (.load 25 (.t 3)), xT 98 6, xS 99 (.callp f_bundle_Without [(.t 97), (.t 98)] []), xS 12 (.alloc [(.int .u64 0), (.int .i64 0), (.int .i64 0), (.str []), (.int .u64 0), (.int .u64 0), (.int .i64 0), (.str []), (.int .u64 0), (.int .u64 0), (.int .i64 0), (.str []), (.int .u64 0), (.int .u64 0), (.int .u64 0), (.int .u64 0), (.int .u64 0), (.int .u64 0), (.int .u64 0), (.ps 5 []), (.int .u64 0), (.int .u64 0), (.int .u64 0), (.int .i64 0), (.str [])]), ⟨none, .store 25 (.t 12) (.t 99), none⟩] [3, 4, 10, 12]) (.seq (.reg [xS 100 (.fa 0 (.t 3)), xS 101 (.load 19 (.t 100)), xT 102 10, xS 103 (.fa 20 (.t 3)), xS 104 (.load 5 (.t 103)), xS 105 (.build [(.int .u64 0), (.int .i64 0), (.int .i64 0), (.str []), (.int .u64 0), (.int .u64 0), (.int .i64 0), (.str []), (.int .u64 0), (.int .u64 0), (.int .i64 0), (.str []), (.int .u64 0), (.int .u64 0), (.int .u64 0), (.int .u64 0), (.int .u64 0), (.int .u64 0), (.int .u64 0), (.ps 5 []), (.int .u64 0), (.int .u64 0), (.int .u64 0), (.int .i64 0), (.str [])] [(0, 19, (.t 101)), (19, 1, (.t 102)), (20, 5, (.t 104))]), xS 13 (.alloc [(.int .u64 0), (.int .i64 0), (.int .i64 0), (.str []), (.int .u64 0), (.int .u64 0), (.int .i64 0), (.str []), (.int .u64 0), (.int .u64 0), (.int .i64 0), (.str []), (.int .u64 0), (.int .u64 0), (.int .u64 0), (.int .u64 0), (.int .u64 0), (.int .u64 0), (.int .u64 0), (.ps 5 []), (.int .u64 0), (.int .u64 0), (.int .u64 0), (.int .i64 0), (.str [])]), ⟨none, .store 25 (.t 13) (.t 105), none⟩] [3, 4, 12, 13]) (.seq (.regd [xS 106 (.callp f_law11_awake [] []), xF 107 106, xG 108 107 true (.load 25 (.t 12)), xG 109 107 true (.load 25 (.t 13)), xG 110 107 true (.callp f_ref11_Same [(.t 108), (.t 109)] []), xS 111 (.pick (.t 107) (.t 110) (.c (.bool false))), xF 112 111, xG 113 112 true (.load 25 (.t 3)), xG 114 112 true (.callp f_bundle_Key [(.t 113)] []), xG 115 112 true (.load 25 (.t 3)), xG 116 112 true (.callp f_ref11_Key [(.t 115)] []), xG 117 112 true (.bin .eql .str (.t 114) (.t 116)), xS 118 (.pick (.t 112) (.t 117) (.c (.bool false))), xF 119 118, xG 120 119 true (.load 25 (.t 3)), xG 121 119 true (.mv (.t 4) false), xG 122 119 true (.callp f_bundle_Over [(.t 120), (.t 121)] []), xG 123 119 true (.fa 0 (.t 3)), xG 124 119 true (.fa 14 (.t 123)), xG 125 119 true (.load 2 (.t 124)), xG 126 119 true (.fa 0 (.t 3)), xG 127 119 true (.fa 16 (.t 126)), xG 128 119 true (.load 0 (.t 127)), xG 129 119 true (.callp f_ref08_End [(.t 125), (.t 128)] []), xG 130 119 true (.mv (.t 4) false), xG 131 119 true (.bin .leq .int (.t 129) (.t 130)), xG 132 119 true (.bin .eql .bool (.t 122) (.t 131)), xS 133 (.pick (.t 119) (.t 132) (.c (.bool false))), xT 2 133] [2] ([], []) []) .ret)))))))))))
def c_law11_BundleLooks : AFunc := ⟨k_law11_BundleLooks, 134, [.t 2], [], [], []⟩

def tab : List (Nat × AFunc) := [(f_law11_Light, c_law11_Light),
  (f_law11_small, c_law11_small),
  (f_primary_Fragment, c_primary_Fragment),
  (f_eid_None, c_eid_None),
  (f_internal_stringslite_HasPrefix, c_internal_stringslite_HasPrefix),
  (f_strings_HasPrefix, c_strings_HasPrefix),
  (f_runes_plain, c_runes_plain),
  (f_runes_Plain, c_runes_Plain),
  (f_eid_named, c_eid_named),
  (f_eid_Right, c_eid_Right),
  (f_primary_Check, c_primary_Check),
  (f_block_Check, c_block_Check),
  (f_bundle_unlike_1, c_bundle_unlike_1),
  (f_bundle_unlike, c_bundle_unlike),
  (f_bundle_Check, c_bundle_Check),
  (f_head_Open, c_head_Open),
  (f_eid_Value, c_eid_Value),
  (f_primary_Put_1, c_primary_Put_1),
  (f_stamp_Value, c_stamp_Value),
  (f_item_counter_one, c_item_counter_one),
  (f_head_wide_1, c_head_wide_1),
  (f_head_wide, c_head_wide),
  (f_head_info, c_head_info),
  (f_be_width, c_be_width),
  (f_be_Put, c_be_Put),
  (f_head_Put, c_head_Put),
  (f_item_put, c_item_put),
  (f_unicode_utf8_word_string, c_unicode_utf8_word_string),
  (f_unicode_utf8_ValidString, c_unicode_utf8_ValidString),
  (f_item_simple, c_item_simple),
  (f_item_counter_lay, c_item_counter_lay),
  (f_item_Put, c_item_Put),
  (f_block_Seal_1, c_block_Seal_1),
  (f_crc_Width, c_crc_Width),
  (f_block_width, c_block_width),
  (f_crc_bits_1, c_crc_bits_1),
  (f_crc_bits, c_crc_bits),
  (f_crc_through, c_crc_through),
  (f_crc_GoShort, c_crc_GoShort),
  (f_crc_Short, c_crc_Short),
  (f_crc_GoLong, c_crc_GoLong),
  (f_crc_Long, c_crc_Long),
  (f_crc_Of, c_crc_Of),
  (f_block_sum, c_block_sum),
  (f_block_Seal, c_block_Seal),
  (f_primary_Put, c_primary_Put),
  (f_block_values, c_block_values),
  (f_block_Put, c_block_Put),
  (f_head_Break, c_head_Break),
  (f_bundle_Put, c_bundle_Put),
  (f_head_Is, c_head_Is),
  (f_be_Get_1, c_be_Get_1),
  (f_be_Get, c_be_Get),
  (f_head_Get, c_head_Get),
  (f_unicode_utf8_word_byte, c_unicode_utf8_word_byte),
  (f_unicode_utf8_Valid, c_unicode_utf8_Valid),
  (f_item_text, c_item_text),
  (f_item_counter_list, c_item_counter_list),
  (f_item_other, c_item_other),
  (f_item_counter_read, c_item_counter_read),
  (f_item_Get, c_item_Get),
  (f_item_At, c_item_At),
  (f_item_Uint, c_item_Uint),
  (f_primary_reader_n, c_primary_reader_n),
  (f_item_List, c_item_List),
  (f_item_Bytes, c_item_Bytes),
  (f_stamp_Of_1, c_stamp_Of_1),
  (f_stamp_Of, c_stamp_Of),
  (f_eid_pair_1, c_eid_pair_1),
  (f_eid_pair, c_eid_pair),
  (f_item_Text, c_item_Text),
  (f_eid_within, c_eid_within),
  (f_eid_Of, c_eid_Of),
  (f_primary_reader_name, c_primary_reader_name),
  (f_block_Open, c_block_Open),
  (f_primary_Get, c_primary_Get),
  (f_block_Get_1, c_block_Get_1),
  (f_block_Get, c_block_Get),
  (f_bundle_blocks, c_bundle_blocks),
  (f_bundle_Get, c_bundle_Get),
  (f_bundle_With_1, c_bundle_With_1),
  (f_slices_IndexFunc_api_Block_api_Block, c_slices_IndexFunc_api_Block_api_Block),
  (f_slices_ContainsFunc_api_Block_api_Block, c_slices_ContainsFunc_api_Block_api_Block),
  (f_bundle_With, c_bundle_With),
  (f_bundle_Find_1, c_bundle_Find_1),
  (f_bundle_Find, c_bundle_Find),
  (f_slices_Equal_api_Block_api_Block, c_slices_Equal_api_Block_api_Block),
  (f_bundle_Same, c_bundle_Same),
  (f_stamp_End, c_stamp_End),
  (f_stamp_Over, c_stamp_Over),
  (f_bundle_Over, c_bundle_Over),
  (f_law11_awake, c_law11_awake),
  (f_ref11_Same, c_ref11_Same),
  (f_slices_Clone_api_Block_api_Block, c_slices_Clone_api_Block_api_Block),
  (f_bundle_Without_1, c_bundle_Without_1),
  (f_slices_DeleteFunc_api_Block_api_Block, c_slices_DeleteFunc_api_Block_api_Block),
  (f_bundle_Without, c_bundle_Without),
  (f_stamp_digits, c_stamp_digits),
  (f_stamp_Key_1, c_stamp_Key_1),
  (f_stamp_Key, c_stamp_Key),
  (f_bundle_digits, c_bundle_digits),
  (f_bundle_Key, c_bundle_Key),
  (f_ref07_Digits, c_ref07_Digits),
  (f_ref08_Key, c_ref08_Key),
  (f_ref11_Key, c_ref11_Key),
  (f_ref08_End, c_ref08_End),
  (f_law11_BundleLooks, c_law11_BundleLooks)]
def T : Table := fun f => tab.lookup f
theorem t_law11_Light : T f_law11_Light = some c_law11_Light := rfl
theorem t_law11_small : T f_law11_small = some c_law11_small := rfl
theorem t_primary_Fragment : T f_primary_Fragment = some c_primary_Fragment := rfl
theorem t_eid_None : T f_eid_None = some c_eid_None := rfl
theorem t_internal_stringslite_HasPrefix : T f_internal_stringslite_HasPrefix = some c_internal_stringslite_HasPrefix := rfl
theorem t_strings_HasPrefix : T f_strings_HasPrefix = some c_strings_HasPrefix := rfl
theorem t_runes_plain : T f_runes_plain = some c_runes_plain := rfl
theorem t_runes_Plain : T f_runes_Plain = some c_runes_Plain := rfl
theorem t_eid_named : T f_eid_named = some c_eid_named := rfl
theorem t_eid_Right : T f_eid_Right = some c_eid_Right := rfl
theorem t_primary_Check : T f_primary_Check = some c_primary_Check := rfl
theorem t_block_Check : T f_block_Check = some c_block_Check := rfl
theorem t_bundle_unlike_1 : T f_bundle_unlike_1 = some c_bundle_unlike_1 := rfl
theorem t_bundle_unlike : T f_bundle_unlike = some c_bundle_unlike := rfl
theorem t_bundle_Check : T f_bundle_Check = some c_bundle_Check := rfl
theorem t_head_Open : T f_head_Open = some c_head_Open := rfl
theorem t_eid_Value : T f_eid_Value = some c_eid_Value := rfl
theorem t_primary_Put_1 : T f_primary_Put_1 = some c_primary_Put_1 := rfl
theorem t_stamp_Value : T f_stamp_Value = some c_stamp_Value := rfl
theorem t_item_counter_one : T f_item_counter_one = some c_item_counter_one := rfl
theorem t_head_wide_1 : T f_head_wide_1 = some c_head_wide_1 := rfl
theorem t_head_wide : T f_head_wide = some c_head_wide := rfl
theorem t_head_info : T f_head_info = some c_head_info := rfl
theorem t_be_width : T f_be_width = some c_be_width := rfl
theorem t_be_Put : T f_be_Put = some c_be_Put := rfl
theorem t_head_Put : T f_head_Put = some c_head_Put := rfl
theorem t_item_put : T f_item_put = some c_item_put := rfl
theorem t_unicode_utf8_word_string : T f_unicode_utf8_word_string = some c_unicode_utf8_word_string := rfl
theorem t_unicode_utf8_ValidString : T f_unicode_utf8_ValidString = some c_unicode_utf8_ValidString := rfl
theorem t_item_simple : T f_item_simple = some c_item_simple := rfl
theorem t_item_counter_lay : T f_item_counter_lay = some c_item_counter_lay := rfl
theorem t_item_Put : T f_item_Put = some c_item_Put := rfl
theorem t_block_Seal_1 : T f_block_Seal_1 = some c_block_Seal_1 := rfl
theorem t_crc_Width : T f_crc_Width = some c_crc_Width := rfl
theorem t_block_width : T f_block_width = some c_block_width := rfl
theorem t_crc_bits_1 : T f_crc_bits_1 = some c_crc_bits_1 := rfl
theorem t_crc_bits : T f_crc_bits = some c_crc_bits := rfl
theorem t_crc_through : T f_crc_through = some c_crc_through := rfl
theorem t_crc_GoShort : T f_crc_GoShort = some c_crc_GoShort := rfl
theorem t_crc_Short : T f_crc_Short = some c_crc_Short := rfl
theorem t_crc_GoLong : T f_crc_GoLong = some c_crc_GoLong := rfl
theorem t_crc_Long : T f_crc_Long = some c_crc_Long := rfl
theorem t_crc_Of : T f_crc_Of = some c_crc_Of := rfl
theorem t_block_sum : T f_block_sum = some c_block_sum := rfl
theorem t_block_Seal : T f_block_Seal = some c_block_Seal := rfl
theorem t_primary_Put : T f_primary_Put = some c_primary_Put := rfl
theorem t_block_values : T f_block_values = some c_block_values := rfl
theorem t_block_Put : T f_block_Put = some c_block_Put := rfl
theorem t_head_Break : T f_head_Break = some c_head_Break := rfl
theorem t_bundle_Put : T f_bundle_Put = some c_bundle_Put := rfl
theorem t_head_Is : T f_head_Is = some c_head_Is := rfl
theorem t_be_Get_1 : T f_be_Get_1 = some c_be_Get_1 := rfl
theorem t_be_Get : T f_be_Get = some c_be_Get := rfl
theorem t_head_Get : T f_head_Get = some c_head_Get := rfl
theorem t_unicode_utf8_word_byte : T f_unicode_utf8_word_byte = some c_unicode_utf8_word_byte := rfl
theorem t_unicode_utf8_Valid : T f_unicode_utf8_Valid = some c_unicode_utf8_Valid := rfl
theorem t_item_text : T f_item_text = some c_item_text := rfl
theorem t_item_counter_list : T f_item_counter_list = some c_item_counter_list := rfl
theorem t_item_other : T f_item_other = some c_item_other := rfl
theorem t_item_counter_read : T f_item_counter_read = some c_item_counter_read := rfl
theorem t_item_Get : T f_item_Get = some c_item_Get := rfl
theorem t_item_At : T f_item_At = some c_item_At := rfl
theorem t_item_Uint : T f_item_Uint = some c_item_Uint := rfl
theorem t_primary_reader_n : T f_primary_reader_n = some c_primary_reader_n := rfl
theorem t_item_List : T f_item_List = some c_item_List := rfl
theorem t_item_Bytes : T f_item_Bytes = some c_item_Bytes := rfl
theorem t_stamp_Of_1 : T f_stamp_Of_1 = some c_stamp_Of_1 := rfl
theorem t_stamp_Of : T f_stamp_Of = some c_stamp_Of := rfl
theorem t_eid_pair_1 : T f_eid_pair_1 = some c_eid_pair_1 := rfl
theorem t_eid_pair : T f_eid_pair = some c_eid_pair := rfl
theorem t_item_Text : T f_item_Text = some c_item_Text := rfl
theorem t_eid_within : T f_eid_within = some c_eid_within := rfl
theorem t_eid_Of : T f_eid_Of = some c_eid_Of := rfl
theorem t_primary_reader_name : T f_primary_reader_name = some c_primary_reader_name := rfl
theorem t_block_Open : T f_block_Open = some c_block_Open := rfl
theorem t_primary_Get : T f_primary_Get = some c_primary_Get := rfl
theorem t_block_Get_1 : T f_block_Get_1 = some c_block_Get_1 := rfl
theorem t_block_Get : T f_block_Get = some c_block_Get := rfl
theorem t_bundle_blocks : T f_bundle_blocks = some c_bundle_blocks := rfl
theorem t_bundle_Get : T f_bundle_Get = some c_bundle_Get := rfl
theorem t_bundle_With_1 : T f_bundle_With_1 = some c_bundle_With_1 := rfl
theorem t_slices_IndexFunc_api_Block_api_Block : T f_slices_IndexFunc_api_Block_api_Block = some c_slices_IndexFunc_api_Block_api_Block := rfl
theorem t_slices_ContainsFunc_api_Block_api_Block : T f_slices_ContainsFunc_api_Block_api_Block = some c_slices_ContainsFunc_api_Block_api_Block := rfl
theorem t_bundle_With : T f_bundle_With = some c_bundle_With := rfl
theorem t_bundle_Find_1 : T f_bundle_Find_1 = some c_bundle_Find_1 := rfl
theorem t_bundle_Find : T f_bundle_Find = some c_bundle_Find := rfl
theorem t_slices_Equal_api_Block_api_Block : T f_slices_Equal_api_Block_api_Block = some c_slices_Equal_api_Block_api_Block := rfl
theorem t_bundle_Same : T f_bundle_Same = some c_bundle_Same := rfl
theorem t_stamp_End : T f_stamp_End = some c_stamp_End := rfl
theorem t_stamp_Over : T f_stamp_Over = some c_stamp_Over := rfl
theorem t_bundle_Over : T f_bundle_Over = some c_bundle_Over := rfl
theorem t_law11_awake : T f_law11_awake = some c_law11_awake := rfl
theorem t_ref11_Same : T f_ref11_Same = some c_ref11_Same := rfl
theorem t_slices_Clone_api_Block_api_Block : T f_slices_Clone_api_Block_api_Block = some c_slices_Clone_api_Block_api_Block := rfl
theorem t_bundle_Without_1 : T f_bundle_Without_1 = some c_bundle_Without_1 := rfl
theorem t_slices_DeleteFunc_api_Block_api_Block : T f_slices_DeleteFunc_api_Block_api_Block = some c_slices_DeleteFunc_api_Block_api_Block := rfl
theorem t_bundle_Without : T f_bundle_Without = some c_bundle_Without := rfl
theorem t_stamp_digits : T f_stamp_digits = some c_stamp_digits := rfl
theorem t_stamp_Key_1 : T f_stamp_Key_1 = some c_stamp_Key_1 := rfl
theorem t_stamp_Key : T f_stamp_Key = some c_stamp_Key := rfl
theorem t_bundle_digits : T f_bundle_digits = some c_bundle_digits := rfl
theorem t_bundle_Key : T f_bundle_Key = some c_bundle_Key := rfl
theorem t_ref07_Digits : T f_ref07_Digits = some c_ref07_Digits := rfl
theorem t_ref08_Key : T f_ref08_Key = some c_ref08_Key := rfl
theorem t_ref11_Key : T f_ref11_Key = some c_ref11_Key := rfl
theorem t_ref08_End : T f_ref08_End = some c_ref08_End := rfl
theorem t_law11_BundleLooks : T f_law11_BundleLooks = some c_law11_BundleLooks := rfl
end Ev
