/- The code of the functions that the claim reaches, in the evaluator's form; what it is held against stands in the text of the checks. No condition. -/
import Derived.Test.YtienkohkbihdoaaDoorEv9
/-! The code of the functions, as the evaluator takes it. -/
set_option linter.all false
namespace Ev
open Go

abbrev f_law06_ItemTakes : Nat := 3
abbrev f_law09_BlockPuts : Nat := 4
abbrev f_law09_BlockGets : Nat := 5
abbrev f_law09_BlockSeals : Nat := 6
abbrev f_law09_BlockTurned : Nat := 7
abbrev f_law06_light : Nat := 11
abbrev f_law06_awake : Nat := 12
abbrev f_law06_Any : Nat := 13
abbrev f_item_Uint : Nat := 14
abbrev f_item_Bytes : Nat := 15
abbrev f_item_Text : Nat := 16
abbrev f_item_List : Nat := 17
abbrev f_item_Must : Nat := 18
abbrev f_item_At : Nat := 19
abbrev f_ref06_Right : Nat := 20
abbrev f_item_Same : Nat := 21
abbrev f_law06_deep : Nat := 22
abbrev f_law09_awake : Nat := 23
abbrev f_block_Put : Nat := 24
abbrev f_ref09_Check : Nat := 25
abbrev f_block_Check : Nat := 26
abbrev f_block_Size : Nat := 27
abbrev f_item_Whole : Nat := 28
abbrev f_block_Get : Nat := 29
abbrev f_ref06_Put : Nat := 30
abbrev f_ref09_Value : Nat := 31
abbrev f_ref06_Size : Nat := 32
abbrev f_ref09_Get : Nat := 33
abbrev f_block_Seal : Nat := 34
abbrev f_block_Open : Nat := 35
abbrev f_ref09_Seal : Nat := 36
abbrev f_item_Put : Nat := 37
abbrev f_item_Count : Nat := 50
abbrev f_ref06_right : Nat := 51
abbrev f_block_values : Nat := 52
abbrev f_item_Get : Nat := 53
abbrev f_block_Get_1 : Nat := 54
abbrev f_ref05_Put : Nat := 55
abbrev f_ref01_High : Nat := 56
abbrev f_block_Seal_1 : Nat := 57
abbrev f_block_width : Nat := 58
abbrev f_block_sum : Nat := 59
abbrev f_ref01_Bytes : Nat := 60
abbrev f_ref03_Of : Nat := 61
abbrev f_item_counter_lay : Nat := 62
abbrev f_item_Count_1 : Nat := 87
abbrev f_ref04_Parts : Nat := 88
abbrev f_ref04_Value : Nat := 89
abbrev f_item_counter_read : Nat := 90
abbrev f_crc_Width : Nat := 91
abbrev f_be_Put : Nat := 92
abbrev f_crc_Of : Nat := 93
abbrev f_ref03_Sum : Nat := 94
abbrev f_item_counter_one : Nat := 95
abbrev f_head_Put : Nat := 96
abbrev f_item_put : Nat := 97
abbrev f_unicode_utf8_ValidString : Nat := 98
abbrev f_item_simple : Nat := 99
abbrev f_ref04_Size : Nat := 112
abbrev f_head_Get : Nat := 113
abbrev f_item_text : Nat := 114
abbrev f_item_counter_list : Nat := 115
abbrev f_item_other : Nat := 116
abbrev f_be_width : Nat := 117
abbrev f_crc_Short : Nat := 118
abbrev f_crc_Long : Nat := 119
abbrev f_head_wide : Nat := 120
abbrev f_head_info : Nat := 121
abbrev f_unicode_utf8_word_string : Nat := 122
abbrev f_be_Get : Nat := 129
abbrev f_unicode_utf8_Valid : Nat := 130
abbrev f_crc_GoShort : Nat := 131
abbrev f_crc_GoLong : Nat := 132
abbrev f_head_wide_1 : Nat := 133
abbrev f_be_Get_1 : Nat := 137
abbrev f_unicode_utf8_word_byte : Nat := 138
abbrev f_crc_through : Nat := 139
abbrev f_crc_bits : Nat := 140
abbrev f_crc_bits_1 : Nat := 141
-- 56: wagtail/wagtailref01.High

def k_ref01_High : ACode := (.seq (.reg [⟨(some 4), .mv (.c (.int .i64 0)) false, none⟩] [0, 1]) (.seq (.seq (.reg [⟨(some 5), .mv (.t 0) false, none⟩,
  ⟨(some 6), .mv (.t 1) false, none⟩,
  ⟨(some 7), .bin .gtr .int (.t 5) (.t 6), none⟩] [0, 1, 7]) (.cond (.t 7)
 (.seq (.reg [⟨(some 8), .mv (.t 0) true, none⟩,
  ⟨(some 4), .mv (.t 8) true, none⟩] [4]) .ret)
 .skip)) (.seq (.reg [⟨(some 9), .mv (.t 1) true, none⟩,
  ⟨(some 4), .mv (.t 9) true, none⟩] [4]) .ret)))
def c_ref01_High : AFunc := ⟨k_ref01_High, 10, [.t 4], [], [], []⟩
-- 32: wagtail/wagtailref06.Size
def bl_ref06_Size_0 : ACode := (.seq (.seq (.reg [⟨(some 12), .mv (.t 6) false, none⟩,
  ⟨(some 13), .fa 3 (.t 1), none⟩,
  ⟨(some 14), .load 0 (.t 13), none⟩,
  ⟨(some 15), .len false (.t 14), none⟩,
  ⟨(some 16), .bin .lss .int (.t 12) (.t 15), none⟩] [1, 4, 5, 6, 16]) (.cond (.t 16)
 .skip
 (.exit 0))) (.seq (.block 1 (.seq (.reg [⟨(some 20), .fa 3 (.t 1), none⟩,
  ⟨(some 21), .load 0 (.t 20), none⟩,
  ⟨(some 22), .mv (.t 6) false, none⟩,
  ⟨(some 23), .ia (.sl 4) (.t 21) (.t 22), none⟩,
  ⟨(some 24), .load 4 (.t 23), none⟩,
  ⟨(some 25), .callp f_ref06_Size [(.t 24)] [], none⟩,
  ⟨(some 19), .mv (.t 25) true, none⟩,
  ⟨(some 26), .ext (.t 19) 0, none⟩,
  ⟨(some 27), .ext (.t 19) 1, none⟩,
  ⟨(some 7), .mv (.t 26) true, none⟩,
  ⟨(some 8), .mv (.t 27) true, none⟩] [1, 4, 5, 6, 7, 8]) (.seq (.reg [⟨(some 28), .mv (.t 4) true, none⟩,
  ⟨(some 29), .mv (.t 7) true, none⟩,
  ⟨(some 30), .bin .add .int (.t 29) (.c (.int .i64 1)), none⟩,
  ⟨(some 31), .callp f_ref01_High [(.t 28), (.t 30)] [], none⟩,
  ⟨(some 4), .mv (.t 31) true, none⟩] [1, 4, 5, 6, 8]) (.reg [⟨(some 32), .mv (.t 5) true, none⟩,
  ⟨(some 33), .mv (.t 8) true, none⟩,
  ⟨(some 34), .bin .add .int (.t 32) (.t 33), none⟩,
  ⟨(some 5), .mv (.t 34) true, none⟩] [1, 4, 5, 6])))) (.reg [⟨(some 17), .mv (.t 6) true, none⟩,
  ⟨(some 18), .bin .add .int (.t 17) (.c (.int .i64 1)), none⟩,
  ⟨(some 6), .mv (.t 18) true, none⟩] [1, 4, 5, 6])))
def l_ref06_Size_0 : ACode := .loop [1, 4, 5, 6] [] bl_ref06_Size_0
theorem L_ref06_Size_0 {T : Table} (ks : List Kt) (e : Env) (h : Heap) (Q : Ex → Env → Heap → Prop) : Xc T l_ref06_Size_0 ks e h Q = Xc T bl_ref06_Size_0 (.seq l_ref06_Size_0 :: ks) (e.keep [1, 4, 5, 6]) h Q := Xc_loop ks _ e h Q _ _
def k_ref06_Size : ACode := (.seq (.reg [⟨(some 1), .box (.t 0), none⟩,
  ⟨(some 2), .mv (.c (.int .i64 0)) false, none⟩,
  ⟨(some 3), .mv (.c (.int .i64 0)) false, none⟩] [1]) (.seq (.seq (.reg [⟨(some 9), .fa 0 (.t 1), none⟩,
  ⟨(some 10), .load 0 (.t 9), none⟩,
  ⟨(some 11), .bin .neq .int (.t 10) (.c (.int .i64 4)), none⟩] [1, 11]) (.cond (.t 11)
 (.seq (.reg [⟨(some 2), .mv (.c (.int .i64 0)) false, none⟩,
  ⟨(some 3), .mv (.c (.int .i64 1)) false, none⟩] [2, 3]) .ret)
 .skip)) (.seq (.reg [⟨(some 4), .mv (.c (.int .i64 0)) false, none⟩] [1, 4]) (.seq (.reg [⟨(some 5), .mv (.c (.int .i64 1)) false, none⟩] [1, 4, 5]) (.seq (.seq (.reg [⟨(some 6), .mv (.c (.int .i64 0)) false, none⟩] [1, 4, 5, 6]) (.block 0 l_ref06_Size_0)) (.seq (.reg [⟨(some 35), .mv (.t 4) true, none⟩,
  ⟨(some 36), .mv (.t 5) true, none⟩,
  ⟨(some 2), .mv (.t 35) true, none⟩,
  ⟨(some 3), .mv (.t 36) true, none⟩] [2, 3]) .ret))))))
def c_ref06_Size : AFunc := ⟨k_ref06_Size, 37, [.t 2, .t 3], [], [], []⟩
-- 11: wagtail/wagtaillaw06.light

def k_law06_light : ACode := (.seq (.reg [⟨(some 1), .box (.t 0), none⟩,
  ⟨(some 2), .mv (.c (.bool false)) false, none⟩] [1]) (.seq (.reg [⟨(some 6), .load 4 (.t 1), none⟩,
  ⟨(some 7), .callp f_ref06_Size [(.t 6)] [], none⟩,
  ⟨(some 5), .mv (.t 7) true, none⟩,
  ⟨(some 8), .ext (.t 5) 0, none⟩,
  ⟨(some 9), .ext (.t 5) 1, none⟩,
  ⟨(some 3), .mv (.t 8) true, none⟩,
  ⟨(some 4), .mv (.t 9) true, none⟩] [3, 4]) (.seq (.reg [⟨(some 10), .mv (.t 3) true, none⟩,
  ⟨(some 11), .bin .leq .int (.t 10) (.c (.int .i64 30)), none⟩,
  ⟨(some 12), .mv (.t 11) true, none⟩,
  ⟨(some 13), .mv (.t 4) true, (some (12, true))⟩,
  ⟨(some 14), .bin .leq .int (.t 13) (.c (.int .i64 300)), (some (12, true))⟩,
  ⟨(some 15), .pick (.t 12) (.t 14) (.c (.bool false)), none⟩,
  ⟨(some 2), .mv (.t 15) true, none⟩] [2]) .ret)))
def c_law06_light : AFunc := ⟨k_law06_light, 16, [.t 2], [], [], []⟩
-- 95: (*wagtail/item.counter).one

def k_item_counter_one : ACode := (.seq (.reg [⟨(some 4), .mv (.c (.int .i64 0)) false, none⟩] [0, 1]) (.seq (.reg [⟨(some 5), .mv (.t 0) false, none⟩,
  ⟨(some 6), .nilck (.t 5), none⟩,
  ⟨(some 7), .fa 0 (.t 6), none⟩,
  ⟨(some 8), .load 0 (.t 7), none⟩,
  ⟨(some 9), .bin .add .int (.t 8) (.c (.int .i64 1)), none⟩,
  ⟨(some 10), .nilck (.t 5), none⟩,
  ⟨(some 11), .fa 0 (.t 10), none⟩,
  ⟨none, .store 1 (.t 11) (.t 9), none⟩] [0, 1]) (.seq (.seq (.reg [⟨(some 12), .mv (.t 1) true, none⟩,
  ⟨(some 13), .bin .gtr .int (.t 12) (.c (.int .i64 16)), none⟩,
  ⟨(some 14), .mv (.t 13) true, none⟩,
  ⟨(some 15), .mv (.t 0) true, (some (14, false))⟩,
  ⟨(some 16), .nilck (.t 15), (some (14, false))⟩,
  ⟨(some 17), .fa 0 (.t 16), (some (14, false))⟩,
  ⟨(some 18), .load 0 (.t 17), (some (14, false))⟩,
  ⟨(some 19), .bin .gtr .int (.t 18) (.c (.int .i64 4096)), (some (14, false))⟩,
  ⟨(some 20), .pick (.t 14) (.c (.bool true)) (.t 19), none⟩] [20]) (.cond (.t 20)
 (.seq (.reg [⟨(some 4), .mv (.c (.int .i64 4)) false, none⟩] [4]) .ret)
 .skip)) (.seq (.reg [⟨(some 4), .mv (.c (.int .i64 0)) false, none⟩] [4]) .ret))))
def c_item_counter_one : AFunc := ⟨k_item_counter_one, 21, [.t 4], [], [], []⟩
-- 133: wagtail/head.wide$1

def k_head_wide_1 : ACode := (.seq (.reg [⟨(some 3), .mv (.c (.bool false)) false, none⟩] [0, 1]) (.seq (.reg [⟨(some 4), .load 0 (.t 1), none⟩,
  ⟨(some 5), .mv (.t 0) true, none⟩,
  ⟨(some 6), .bin .shr .int (.t 4) (.t 5), none⟩,
  ⟨(some 7), .bin .eql .int (.t 6) (.c (.int .u64 0)), none⟩,
  ⟨(some 3), .mv (.t 7) true, none⟩] [3]) .ret))
def c_head_wide_1 : AFunc := ⟨k_head_wide_1, 8, [.t 3], [], [], []⟩
-- 120: wagtail/head.wide

def k_head_wide : ACode := (.seq (.reg [⟨(some 1), .box (.t 0), none⟩,
  ⟨(some 2), .mv (.c (.int .i64 0)) false, none⟩] [1]) (.seq (.reg [⟨(some 4), .mkfn f_head_wide_1 [(.t 1)], none⟩,
  ⟨(some 3), .mv (.t 4) true, none⟩] [1, 3]) (.seq (.block 0 (.seq (.reg [⟨(some 6), .load 0 (.t 1), none⟩,
  ⟨(some 7), .bin .lss .int (.t 6) (.c (.int .u64 24)), none⟩,
  ⟨(some 5), .mv (.t 7) true, none⟩] [3, 5]) (.cond (.t 5)
 (.seq (.reg [⟨(some 2), .mv (.c (.int .i64 0)) false, none⟩] [2]) .ret)
 (.seq (.reg [⟨(some 9), .mv (.t 3) false, none⟩,
  ⟨(some 10), .callv (.t 9) [(.c (.int .i64 8))], none⟩,
  ⟨(some 8), .mv (.t 10) true, none⟩] [3, 8]) (.cond (.t 8)
 (.seq (.reg [⟨(some 2), .mv (.c (.int .i64 1)) false, none⟩] [2]) .ret)
 (.seq (.reg [⟨(some 12), .mv (.t 3) false, none⟩,
  ⟨(some 13), .callv (.t 12) [(.c (.int .i64 16))], none⟩,
  ⟨(some 11), .mv (.t 13) true, none⟩] [3, 11]) (.cond (.t 11)
 (.seq (.reg [⟨(some 2), .mv (.c (.int .i64 2)) false, none⟩] [2]) .ret)
 (.seq (.reg [⟨(some 15), .mv (.t 3) true, none⟩,
  ⟨(some 16), .callv (.t 15) [(.c (.int .i64 32))], none⟩,
  ⟨(some 14), .mv (.t 16) true, none⟩] [14]) (.cond (.t 14)
 (.seq (.reg [⟨(some 2), .mv (.c (.int .i64 4)) false, none⟩] [2]) .ret)
 .skip))))))))) (.seq (.reg [⟨(some 2), .mv (.c (.int .i64 8)) false, none⟩] [2]) .ret))))
def c_head_wide : AFunc := ⟨k_head_wide, 17, [.t 2], [], [], []⟩
-- 121: wagtail/head.info

def k_head_info : ACode := (.seq (.reg [⟨(some 2), .mv (.c (.int .i64 0)) false, none⟩] [0]) (.seq (.seq (.reg [⟨(some 3), .mv (.t 0) true, none⟩] [3]) (.block 0 (.seq (.reg [⟨(some 5), .bin .eql .int (.t 3) (.c (.int .i64 1)), none⟩,
  ⟨(some 4), .mv (.t 5) true, none⟩] [3, 4]) (.cond (.t 4)
 (.seq (.reg [⟨(some 2), .mv (.c (.int .i64 24)) false, none⟩] [2]) .ret)
 (.seq (.reg [⟨(some 7), .bin .eql .int (.t 3) (.c (.int .i64 2)), none⟩,
  ⟨(some 6), .mv (.t 7) true, none⟩] [3, 6]) (.cond (.t 6)
 (.seq (.reg [⟨(some 2), .mv (.c (.int .i64 25)) false, none⟩] [2]) .ret)
 (.seq (.reg [⟨(some 9), .bin .eql .int (.t 3) (.c (.int .i64 4)), none⟩,
  ⟨(some 8), .mv (.t 9) true, none⟩] [8]) (.cond (.t 8)
 (.seq (.reg [⟨(some 2), .mv (.c (.int .i64 26)) false, none⟩] [2]) .ret)
 .skip)))))))) (.seq (.reg [⟨(some 2), .mv (.c (.int .i64 27)) false, none⟩] [2]) .ret)))
def c_head_info : AFunc := ⟨k_head_info, 10, [.t 2], [], [], []⟩
-- 117: wagtail/be.width

def k_be_width : ACode := (.seq (.reg [⟨(some 2), .mv (.c (.int .i64 0)) false, none⟩] [0]) (.seq (.reg [⟨(some 3), .mv (.t 0) true, none⟩,
  ⟨(some 4), .mx true [(.t 3), (.c (.int .i64 0))], none⟩,
  ⟨(some 5), .mx false [(.t 4), (.c (.int .i64 8))], none⟩,
  ⟨(some 2), .mv (.t 5) true, none⟩] [2]) .ret))
def c_be_width : AFunc := ⟨k_be_width, 6, [.t 2], [], [], []⟩
-- 92: wagtail/be.Put
def bl_be_Put_0 : ACode := (.seq (.seq (.reg [⟨(some 14), .mv (.t 8) false, none⟩,
  ⟨(some 15), .bin .geq .int (.t 14) (.c (.int .i64 0)), none⟩] [2, 7, 8, 15]) (.cond (.t 15)
 .skip
 (.exit 0))) (.seq (.block 1 (.reg [⟨(some 18), .mv (.t 7) true, none⟩,
  ⟨(some 19), .mv (.t 2) false, none⟩,
  ⟨(some 20), .mv (.t 8) false, none⟩,
  ⟨(some 21), .bin .mul .int (.c (.int .i64 8)) (.t 20), none⟩,
  ⟨(some 22), .bin .shr .int (.t 19) (.t 21), none⟩,
  ⟨(some 23), .conv (.i .u8) (.t 22), none⟩,
  ⟨(some 24), .bsl 1 [(.t 23)] false, none⟩,
  ⟨(some 25), .app 1 1 (.t 18) (.t 24), none⟩,
  ⟨(some 7), .mv (.t 25) true, none⟩] [2, 7, 8])) (.reg [⟨(some 16), .mv (.t 8) true, none⟩,
  ⟨(some 17), .bin .sub .int (.t 16) (.c (.int .i64 1)), none⟩,
  ⟨(some 8), .mv (.t 17) true, none⟩] [2, 7, 8])))
def l_be_Put_0 : ACode := .loop [2, 7, 8] [(7, 0)] bl_be_Put_0
theorem L_be_Put_0 {T : Table} (ks : List Kt) (e : Env) (h : Heap) (Q : Ex → Env → Heap → Prop) : Xc T l_be_Put_0 ks e h Q = Xc T bl_be_Put_0 (.seq l_be_Put_0 :: ks) (e.keep [2, 7, 8]) h Q := Xc_loop ks _ e h Q _ _
def k_be_Put : ACode := (.seq (.reg [⟨(some 6), .mv (.c (.ps 1 [])) false, none⟩] [0, 1, 2]) (.seq (.reg [⟨(some 9), .mv (.t 0) true, none⟩,
  ⟨(some 10), .app 1 1 (.c (.ps 1 [])) (.t 9), none⟩,
  ⟨(some 7), .mv (.t 10) true, none⟩] [1, 2, 7]) (.seq (.seq (.reg [⟨(some 11), .mv (.t 1) true, none⟩,
  ⟨(some 12), .callp f_be_width [(.t 11)] [], none⟩,
  ⟨(some 13), .bin .sub .int (.t 12) (.c (.int .i64 1)), none⟩,
  ⟨(some 8), .mv (.t 13) true, none⟩] [2, 7, 8]) (.block 0 l_be_Put_0)) (.seq (.reg [⟨(some 26), .mv (.t 7) true, none⟩,
  ⟨(some 6), .mv (.t 26) true, none⟩] [6]) .ret))))
def c_be_Put : AFunc := ⟨k_be_Put, 27, [.t 6], [], [0], []⟩
-- 96: wagtail/head.Put

def k_head_Put : ACode := (.seq (.reg [⟨(some 4), .mv (.c (.ps 1 [])) false, none⟩,
  ⟨(some 5), .mv (.c (.int .i64 0)) false, none⟩] [0, 1]) (.seq (.seq (.reg [⟨(some 7), .mv (.t 0) false, none⟩,
  ⟨(some 8), .bin .lss .int (.t 7) (.c (.int .i64 0)), none⟩,
  ⟨(some 9), .mv (.t 8) true, none⟩,
  ⟨(some 10), .mv (.t 0) false, (some (9, false))⟩,
  ⟨(some 11), .bin .gtr .int (.t 10) (.c (.int .i64 7)), (some (9, false))⟩,
  ⟨(some 12), .pick (.t 9) (.c (.bool true)) (.t 11), none⟩] [0, 1, 12]) (.cond (.t 12)
 (.seq (.reg [⟨(some 4), .mv (.c (.ps 1 [])) false, none⟩,
  ⟨(some 5), .mv (.c (.int .i64 2)) false, none⟩] [4, 5]) .ret)
 .skip)) (.seq (.reg [⟨(some 13), .mv (.t 1) false, none⟩,
  ⟨(some 14), .callp f_head_wide [(.t 13)] [], none⟩,
  ⟨(some 6), .mv (.t 14) true, none⟩] [0, 1, 6]) (.seq (.seq (.reg [⟨(some 15), .mv (.t 6) false, none⟩,
  ⟨(some 16), .bin .eql .int (.t 15) (.c (.int .i64 0)), none⟩] [0, 1, 6, 16]) (.cond (.t 16)
 (.seq (.reg [⟨(some 17), .mv (.t 0) true, none⟩,
  ⟨(some 18), .bin .shl .int (.t 17) (.c (.int .u64 5)), none⟩,
  ⟨(some 19), .conv (.i .u8) (.t 18), none⟩,
  ⟨(some 20), .mv (.t 1) true, none⟩,
  ⟨(some 21), .conv (.i .u8) (.t 20), none⟩,
  ⟨(some 22), .bin .or .int (.t 19) (.t 21), none⟩,
  ⟨(some 23), .bsl 1 [(.t 22)] false, none⟩,
  ⟨(some 4), .mv (.t 23) true, none⟩,
  ⟨(some 5), .mv (.c (.int .i64 0)) false, none⟩] [4, 5]) .ret)
 .skip)) (.seq (.reg [⟨(some 24), .mv (.t 0) true, none⟩,
  ⟨(some 25), .bin .shl .int (.t 24) (.c (.int .u64 5)), none⟩,
  ⟨(some 26), .mv (.t 6) false, none⟩,
  ⟨(some 27), .callp f_head_info [(.t 26)] [], none⟩,
  ⟨(some 28), .bin .or .int (.t 25) (.t 27), none⟩,
  ⟨(some 29), .conv (.i .u8) (.t 28), none⟩,
  ⟨(some 30), .bsl 1 [(.t 29)] false, none⟩,
  ⟨(some 31), .mv (.t 6) true, none⟩,
  ⟨(some 32), .mv (.t 1) true, none⟩,
  ⟨(some 33), .callp f_be_Put [(.t 30), (.t 31), (.t 32)] [], none⟩,
  ⟨(some 4), .mv (.t 33) true, none⟩,
  ⟨(some 5), .mv (.c (.int .i64 0)) false, none⟩] [4, 5]) .ret)))))
def c_head_Put : AFunc := ⟨k_head_Put, 34, [.t 4, .t 5], [], [1], []⟩
-- 97: wagtail/item.put

def k_item_put : ACode := (.seq (.reg [⟨(some 6), .mv (.c (.ps 1 [])) false, none⟩] [0, 1, 2]) (.seq (.reg [⟨(some 10), .mv (.t 0) true, none⟩,
  ⟨(some 11), .mv (.t 1) true, none⟩,
  ⟨(some 12), .conv (.i .u64) (.t 11), none⟩,
  ⟨(some 13), .callp f_head_Put [(.t 10), (.t 12)] [], none⟩,
  ⟨(some 9), .mv (.t 13) true, none⟩,
  ⟨(some 14), .ext (.t 9) 0, none⟩,
  ⟨(some 15), .ext (.t 9) 1, none⟩,
  ⟨(some 7), .mv (.t 14) true, none⟩,
  ⟨(some 8), .mv (.t 15) true, none⟩] [2, 7]) (.seq (.reg [⟨(some 16), .mv (.t 7) true, none⟩,
  ⟨(some 17), .mv (.t 2) true, none⟩,
  ⟨(some 18), .app 1 1 (.t 16) (.t 17), none⟩,
  ⟨(some 6), .mv (.t 18) true, none⟩] [6]) .ret)))
def c_item_put : AFunc := ⟨k_item_put, 19, [.t 6], [], [0], []⟩
-- 122: unicode/utf8.word[string]

def k_unicode_utf8_word_string : ACode := (.seq (.reg [⟨(some 2), .mv (.c (.int .u64 0)) false, none⟩] [0]) (.seq (.cond (.c (.bool false))
 (.seq (.regd [⟨(some 3), .mv (.t 0) false, none⟩,
  ⟨(some 4), .idx .str 0 (.t 3) (.c (.int .i64 0)), none⟩,
  ⟨(some 5), .conv (.i .u64) (.t 4), none⟩,
  ⟨(some 6), .mv (.t 0) false, none⟩,
  ⟨(some 7), .idx .str 0 (.t 6) (.c (.int .i64 1)), none⟩,
  ⟨(some 8), .conv (.i .u64) (.t 7), none⟩,
  ⟨(some 9), .bin .shl .int (.t 8) (.c (.int .u64 8)), none⟩,
  ⟨(some 10), .bin .or .int (.t 5) (.t 9), none⟩,
  ⟨(some 11), .mv (.t 0) false, none⟩,
  ⟨(some 12), .idx .str 0 (.t 11) (.c (.int .i64 2)), none⟩,
  ⟨(some 13), .conv (.i .u64) (.t 12), none⟩,
  ⟨(some 14), .bin .shl .int (.t 13) (.c (.int .u64 16)), none⟩,
  ⟨(some 15), .bin .or .int (.t 10) (.t 14), none⟩,
  ⟨(some 16), .mv (.t 0) false, none⟩,
  ⟨(some 17), .idx .str 0 (.t 16) (.c (.int .i64 3)), none⟩,
  ⟨(some 18), .conv (.i .u64) (.t 17), none⟩,
  ⟨(some 19), .bin .shl .int (.t 18) (.c (.int .u64 24)), none⟩,
  ⟨(some 20), .bin .or .int (.t 15) (.t 19), none⟩,
  ⟨(some 2), .mv (.t 20) false, none⟩] [2] ([], []) []) .ret)
 .skip) (.seq (.regd [⟨(some 21), .mv (.t 0) false, none⟩,
  ⟨(some 22), .idx .str 0 (.t 21) (.c (.int .i64 0)), none⟩,
  ⟨(some 23), .conv (.i .u64) (.t 22), none⟩,
  ⟨(some 24), .mv (.t 0) false, none⟩,
  ⟨(some 25), .idx .str 0 (.t 24) (.c (.int .i64 1)), none⟩,
  ⟨(some 26), .conv (.i .u64) (.t 25), none⟩,
  ⟨(some 27), .bin .shl .int (.t 26) (.c (.int .u64 8)), none⟩,
  ⟨(some 28), .bin .or .int (.t 23) (.t 27), none⟩,
  ⟨(some 29), .mv (.t 0) false, none⟩,
  ⟨(some 30), .idx .str 0 (.t 29) (.c (.int .i64 2)), none⟩,
  ⟨(some 31), .conv (.i .u64) (.t 30), none⟩,
  ⟨(some 32), .bin .shl .int (.t 31) (.c (.int .u64 16)), none⟩,
  ⟨(some 33), .bin .or .int (.t 28) (.t 32), none⟩,
  ⟨(some 34), .mv (.t 0) false, none⟩,
  ⟨(some 35), .idx .str 0 (.t 34) (.c (.int .i64 3)), none⟩,
  ⟨(some 36), .conv (.i .u64) (.t 35), none⟩,
  ⟨(some 37), .bin .shl .int (.t 36) (.c (.int .u64 24)), none⟩,
  ⟨(some 38), .bin .or .int (.t 33) (.t 37), none⟩,
  ⟨(some 39), .mv (.t 0) false, none⟩,
  ⟨(some 40), .idx .str 0 (.t 39) (.c (.int .i64 4)), none⟩,
  ⟨(some 41), .conv (.i .u64) (.t 40), none⟩,
  ⟨(some 42), .bin .shl .int (.t 41) (.c (.int .u64 32)), none⟩,
  ⟨(some 43), .bin .or .int (.t 38) (.t 42), none⟩,
  ⟨(some 44), .mv (.t 0) false, none⟩,
  ⟨(some 45), .idx .str 0 (.t 44) (.c (.int .i64 5)), none⟩,
  ⟨(some 46), .conv (.i .u64) (.t 45), none⟩,
  ⟨(some 47), .bin .shl .int (.t 46) (.c (.int .u64 40)), none⟩,
  ⟨(some 48), .bin .or .int (.t 43) (.t 47), none⟩,
  ⟨(some 49), .mv (.t 0) false, none⟩,
  ⟨(some 50), .idx .str 0 (.t 49) (.c (.int .i64 6)), none⟩,
  ⟨(some 51), .conv (.i .u64) (.t 50), none⟩,
  ⟨(some 52), .bin .shl .int (.t 51) (.c (.int .u64 48)), none⟩,
  ⟨(some 53), .bin .or .int (.t 48) (.t 52), none⟩,
  ⟨(some 54), .mv (.t 0) false, none⟩,
  ⟨(some 55), .idx .str 0 (.t 54) (.c (.int .i64 7)), none⟩,
  ⟨(some 56), .conv (.i .u64) (.t 55), none⟩,
  ⟨(some 57), .bin .shl .int (.t 56) (.c (.int .u64 56)), none⟩,
  ⟨(some 58), .bin .or .int (.t 53) (.t 57), none⟩,
  ⟨(some 2), .mv (.t 58) false, none⟩] [2] ([], []) []) .ret)))
def c_unicode_utf8_word_string : AFunc := ⟨k_unicode_utf8_word_string, 59, [.t 2], [], [], []⟩
-- 98: unicode/utf8.ValidString
def bl_unicode_utf8_ValidString_0 : ACode := (.seq (.seq (.regd [⟨(some 42), .mv (.t 0) false, none⟩,
  ⟨(some 43), .len true (.t 42), none⟩,
  ⟨(some 44), .bin .gtr .int (.t 43) (.c (.int .i64 32)), none⟩,
  ⟨(some 45), .mv (.t 44) false, none⟩,
  ⟨(some 46), .mv (.t 0) false, (some (45, true))⟩,
  ⟨(some 47), .callp f_unicode_utf8_word_string [(.t 46)] [], (some (45, true))⟩,
  ⟨(some 48), .mv (.t 0) false, (some (45, true))⟩,
  ⟨(some 49), .sl .str (.t 48) (some (.c (.int .i64 8))) none none false, (some (45, true))⟩,
  ⟨(some 50), .callp f_unicode_utf8_word_string [(.t 49)] [], (some (45, true))⟩,
  ⟨(some 51), .bin .or .int (.t 47) (.t 50), (some (45, true))⟩,
  ⟨(some 52), .mv (.t 0) false, (some (45, true))⟩,
  ⟨(some 53), .sl .str (.t 52) (some (.c (.int .i64 16))) none none false, (some (45, true))⟩,
  ⟨(some 54), .callp f_unicode_utf8_word_string [(.t 53)] [], (some (45, true))⟩,
  ⟨(some 55), .mv (.t 0) false, (some (45, true))⟩,
  ⟨(some 56), .sl .str (.t 55) (some (.c (.int .i64 24))) none none false, (some (45, true))⟩,
  ⟨(some 57), .callp f_unicode_utf8_word_string [(.t 56)] [], (some (45, true))⟩,
  ⟨(some 58), .bin .or .int (.t 54) (.t 57), (some (45, true))⟩,
  ⟨(some 59), .bin .or .int (.t 51) (.t 58), (some (45, true))⟩,
  ⟨(some 60), .bin .and .int (.t 59) (.c (.int .u64 9259542123273814144)), (some (45, true))⟩,
  ⟨(some 61), .bin .eql .int (.t 60) (.c (.int .u64 0)), (some (45, true))⟩,
  ⟨(some 62), .pick (.t 45) (.t 61) (.c (.bool false)), none⟩] [0, 62] ([], []) []) (.cond (.t 62)
 .skip
 (.exit 2))) (.block 3 (.reg [⟨(some 63), .mv (.t 0) true, none⟩,
  ⟨(some 64), .sl .str (.t 63) (some (.c (.int .i64 32))) none none false, none⟩,
  ⟨(some 0), .mv (.t 64) true, none⟩] [0])))
def l_unicode_utf8_ValidString_0 : ACode := .loop [0] [] bl_unicode_utf8_ValidString_0
theorem L_unicode_utf8_ValidString_0 {T : Table} (ks : List Kt) (e : Env) (h : Heap) (Q : Ex → Env → Heap → Prop) : Xc T l_unicode_utf8_ValidString_0 ks e h Q = Xc T bl_unicode_utf8_ValidString_0 (.seq l_unicode_utf8_ValidString_0 :: ks) (e.keep [0]) h Q := Xc_loop ks _ e h Q _ _
def bl_unicode_utf8_ValidString_1 : ACode := (.seq (.seq (.reg [⟨(some 7), .mv (.t 0) false, none⟩,
  ⟨(some 8), .len true (.t 7), none⟩,
  ⟨(some 9), .bin .gtr .int (.t 8) (.c (.int .i64 0)), none⟩] [0, 9]) (.cond (.t 9)
 .skip
 (.exit 0))) (.block 1 (.seq (.reg [⟨(some 10), .mv (.t 0) false, none⟩,
  ⟨(some 11), .idx .str 0 (.t 10) (.c (.int .i64 0)), none⟩,
  ⟨(some 3), .mv (.t 11) true, none⟩] [0, 3]) (.seq (.seq (.reg [⟨(some 12), .mv (.t 3) false, none⟩,
  ⟨(some 13), .bin .lss .int (.t 12) (.c (.int .u8 128)), none⟩] [0, 3, 13]) (.cond (.t 13)
 (.seq (.reg [⟨(some 14), .mv (.t 0) true, none⟩,
  ⟨(some 15), .sl .str (.t 14) (some (.c (.int .i64 1))) none none false, none⟩,
  ⟨(some 0), .mv (.t 15) true, none⟩] [0]) (.seq (.seq (.reg [⟨(some 16), .mv (.t 0) false, none⟩,
  ⟨(some 17), .len true (.t 16), none⟩,
  ⟨(some 18), .bin .gtr .int (.t 17) (.c (.int .i64 8)), none⟩,
  ⟨(some 19), .mv (.t 18) true, none⟩,
  ⟨(some 20), .mv (.t 0) false, (some (19, true))⟩,
  ⟨(some 21), .callp f_unicode_utf8_word_string [(.t 20)] [], (some (19, true))⟩,
  ⟨(some 22), .bin .and .int (.t 21) (.c (.int .u64 9259542123273814144)), (some (19, true))⟩,
  ⟨(some 23), .bin .eql .int (.t 22) (.c (.int .u64 0)), (some (19, true))⟩,
  ⟨(some 24), .pick (.t 19) (.t 23) (.c (.bool false)), none⟩] [0, 24]) (.cond (.t 24)
 (.seq (.reg [⟨(some 25), .mv (.t 0) true, none⟩,
  ⟨(some 26), .sl .str (.t 25) (some (.c (.int .i64 8))) none none false, none⟩,
  ⟨(some 0), .mv (.t 26) true, none⟩] [0]) (.seq (.regd [⟨(some 27), .mv (.t 0) false, none⟩,
  ⟨(some 28), .len true (.t 27), none⟩,
  ⟨(some 29), .bin .gtr .int (.t 28) (.c (.int .i64 16)), none⟩,
  ⟨(some 30), .mv (.t 29) false, none⟩,
  ⟨(some 31), .mv (.t 0) false, (some (30, true))⟩,
  ⟨(some 32), .callp f_unicode_utf8_word_string [(.t 31)] [], (some (30, true))⟩,
  ⟨(some 33), .mv (.t 0) false, (some (30, true))⟩,
  ⟨(some 34), .sl .str (.t 33) (some (.c (.int .i64 8))) none none false, (some (30, true))⟩,
  ⟨(some 35), .callp f_unicode_utf8_word_string [(.t 34)] [], (some (30, true))⟩,
  ⟨(some 36), .bin .or .int (.t 32) (.t 35), (some (30, true))⟩,
  ⟨(some 37), .bin .and .int (.t 36) (.c (.int .u64 9259542123273814144)), (some (30, true))⟩,
  ⟨(some 38), .bin .eql .int (.t 37) (.c (.int .u64 0)), (some (30, true))⟩,
  ⟨(some 39), .pick (.t 30) (.t 38) (.c (.bool false)), none⟩] [0, 39] ([], []) []) (.cond (.t 39)
 (.seq (.reg [⟨(some 40), .mv (.t 0) true, none⟩,
  ⟨(some 41), .sl .str (.t 40) (some (.c (.int .i64 16))) none none false, none⟩,
  ⟨(some 0), .mv (.t 41) true, none⟩] [0]) (.block 2 l_unicode_utf8_ValidString_0))
 .skip)))
 .skip)) (.exit 1)))
 .skip)) (.seq (.reg [⟨(some 65), .mv (.t 3) true, none⟩,
  ⟨(some 66), .ia (.arr 256 1) (.g 0) (.t 65), none⟩,
  ⟨(some 67), .load 0 (.t 66), none⟩,
  ⟨(some 4), .mv (.t 67) true, none⟩] [0, 4]) (.seq (.reg [⟨(some 68), .mv (.t 4) false, none⟩,
  ⟨(some 69), .bin .and .int (.t 68) (.c (.int .u8 7)), none⟩,
  ⟨(some 70), .conv (.i .i64) (.t 69), none⟩,
  ⟨(some 5), .mv (.t 70) true, none⟩] [0, 4, 5]) (.seq (.reg [⟨(some 71), .mv (.t 4) true, none⟩,
  ⟨(some 72), .bin .shr .int (.t 71) (.c (.int .u64 4)), none⟩,
  ⟨(some 73), .ia (.arr 16 2) (.g 1) (.t 72), none⟩,
  ⟨(some 74), .load 2 (.t 73), none⟩,
  ⟨(some 6), .alloc [(.int .u8 0), (.int .u8 0)], none⟩,
  ⟨none, .store 2 (.t 6) (.t 74), none⟩] [0, 5, 6]) (.seq (.reg [⟨(some 75), .mv (.t 5) true, none⟩] [0, 6, 75]) (.block 4 (.seq (.reg [⟨(some 77), .bin .eql .int (.t 75) (.c (.int .i64 2)), none⟩,
  ⟨(some 76), .mv (.t 77) true, none⟩] [0, 6, 75, 76]) (.cond (.t 76)
 (.seq (.seq (.regd [⟨(some 78), .mv (.t 0) false, none⟩,
  ⟨(some 79), .len true (.t 78), none⟩,
  ⟨(some 80), .bin .lss .int (.t 79) (.c (.int .i64 2)), none⟩,
  ⟨(some 81), .mv (.t 80) false, none⟩,
  ⟨(some 82), .mv (.t 0) false, (some (81, false))⟩,
  ⟨(some 83), .idx .str 0 (.t 82) (.c (.int .i64 1)), (some (81, false))⟩,
  ⟨(some 84), .fa 0 (.t 6), (some (81, false))⟩,
  ⟨(some 85), .load 0 (.t 84), (some (81, false))⟩,
  ⟨(some 86), .bin .lss .int (.t 83) (.t 85), (some (81, false))⟩,
  ⟨(some 87), .pick (.t 81) (.c (.bool true)) (.t 86), none⟩,
  ⟨(some 88), .mv (.t 87) false, none⟩,
  ⟨(some 89), .fa 1 (.t 6), (some (88, false))⟩,
  ⟨(some 90), .load 0 (.t 89), (some (88, false))⟩,
  ⟨(some 91), .mv (.t 0) false, (some (88, false))⟩,
  ⟨(some 92), .idx .str 0 (.t 91) (.c (.int .i64 1)), (some (88, false))⟩,
  ⟨(some 93), .bin .lss .int (.t 90) (.t 92), (some (88, false))⟩,
  ⟨(some 94), .pick (.t 88) (.c (.bool true)) (.t 93), none⟩] [0, 94] ([], []) []) (.cond (.t 94)
 (.seq (.reg [⟨(some 2), .mv (.c (.bool false)) false, none⟩] [2]) .ret)
 .skip)) (.reg [⟨(some 95), .mv (.t 0) true, none⟩,
  ⟨(some 96), .sl .str (.t 95) (some (.c (.int .i64 2))) none none false, none⟩,
  ⟨(some 0), .mv (.t 96) true, none⟩] [0]))
 (.seq (.reg [⟨(some 98), .bin .eql .int (.t 75) (.c (.int .i64 3)), none⟩,
  ⟨(some 97), .mv (.t 98) true, none⟩] [0, 6, 75, 97]) (.cond (.t 97)
 (.seq (.seq (.regd [⟨(some 99), .mv (.t 0) false, none⟩,
  ⟨(some 100), .len true (.t 99), none⟩,
  ⟨(some 101), .bin .lss .int (.t 100) (.c (.int .i64 3)), none⟩,
  ⟨(some 102), .mv (.t 101) false, none⟩,
  ⟨(some 103), .mv (.t 0) false, (some (102, false))⟩,
  ⟨(some 104), .idx .str 0 (.t 103) (.c (.int .i64 1)), (some (102, false))⟩,
  ⟨(some 105), .fa 0 (.t 6), (some (102, false))⟩,
  ⟨(some 106), .load 0 (.t 105), (some (102, false))⟩,
  ⟨(some 107), .bin .lss .int (.t 104) (.t 106), (some (102, false))⟩,
  ⟨(some 108), .pick (.t 102) (.c (.bool true)) (.t 107), none⟩,
  ⟨(some 109), .mv (.t 108) false, none⟩,
  ⟨(some 110), .fa 1 (.t 6), (some (109, false))⟩,
  ⟨(some 111), .load 0 (.t 110), (some (109, false))⟩,
  ⟨(some 112), .mv (.t 0) false, (some (109, false))⟩,
  ⟨(some 113), .idx .str 0 (.t 112) (.c (.int .i64 1)), (some (109, false))⟩,
  ⟨(some 114), .bin .lss .int (.t 111) (.t 113), (some (109, false))⟩,
  ⟨(some 115), .pick (.t 109) (.c (.bool true)) (.t 114), none⟩,
  ⟨(some 116), .mv (.t 115) false, none⟩,
  ⟨(some 117), .mv (.t 0) false, (some (116, false))⟩,
  ⟨(some 118), .idx .str 0 (.t 117) (.c (.int .i64 2)), (some (116, false))⟩,
  ⟨(some 119), .bin .lss .int (.t 118) (.c (.int .u8 128)), (some (116, false))⟩,
  ⟨(some 120), .pick (.t 116) (.c (.bool true)) (.t 119), none⟩,
  ⟨(some 121), .mv (.t 120) false, none⟩,
  ⟨(some 122), .mv (.t 0) false, (some (121, false))⟩,
  ⟨(some 123), .idx .str 0 (.t 122) (.c (.int .i64 2)), (some (121, false))⟩,
  ⟨(some 124), .bin .lss .int (.c (.int .u8 191)) (.t 123), (some (121, false))⟩,
  ⟨(some 125), .pick (.t 121) (.c (.bool true)) (.t 124), none⟩] [0, 125] ([], []) []) (.cond (.t 125)
 (.seq (.reg [⟨(some 2), .mv (.c (.bool false)) false, none⟩] [2]) .ret)
 .skip)) (.reg [⟨(some 126), .mv (.t 0) true, none⟩,
  ⟨(some 127), .sl .str (.t 126) (some (.c (.int .i64 3))) none none false, none⟩,
  ⟨(some 0), .mv (.t 127) true, none⟩] [0]))
 (.seq (.reg [⟨(some 129), .bin .eql .int (.t 75) (.c (.int .i64 4)), none⟩,
  ⟨(some 128), .mv (.t 129) true, none⟩] [0, 6, 128]) (.cond (.t 128)
 (.seq (.seq (.regd [⟨(some 130), .mv (.t 0) false, none⟩,
  ⟨(some 131), .len true (.t 130), none⟩,
  ⟨(some 132), .bin .lss .int (.t 131) (.c (.int .i64 4)), none⟩,
  ⟨(some 133), .mv (.t 132) false, none⟩,
  ⟨(some 134), .mv (.t 0) false, (some (133, false))⟩,
  ⟨(some 135), .idx .str 0 (.t 134) (.c (.int .i64 1)), (some (133, false))⟩,
  ⟨(some 136), .fa 0 (.t 6), (some (133, false))⟩,
  ⟨(some 137), .load 0 (.t 136), (some (133, false))⟩,
  ⟨(some 138), .bin .lss .int (.t 135) (.t 137), (some (133, false))⟩,
  ⟨(some 139), .pick (.t 133) (.c (.bool true)) (.t 138), none⟩,
  ⟨(some 140), .mv (.t 139) false, none⟩,
  ⟨(some 141), .fa 1 (.t 6), (some (140, false))⟩,
  ⟨(some 142), .load 0 (.t 141), (some (140, false))⟩,
  ⟨(some 143), .mv (.t 0) false, (some (140, false))⟩,
  ⟨(some 144), .idx .str 0 (.t 143) (.c (.int .i64 1)), (some (140, false))⟩,
  ⟨(some 145), .bin .lss .int (.t 142) (.t 144), (some (140, false))⟩,
  ⟨(some 146), .pick (.t 140) (.c (.bool true)) (.t 145), none⟩,
  ⟨(some 147), .mv (.t 146) false, none⟩,
  ⟨(some 148), .mv (.t 0) false, (some (147, false))⟩,
  ⟨(some 149), .idx .str 0 (.t 148) (.c (.int .i64 2)), (some (147, false))⟩,
  ⟨(some 150), .bin .lss .int (.t 149) (.c (.int .u8 128)), (some (147, false))⟩,
  ⟨(some 151), .pick (.t 147) (.c (.bool true)) (.t 150), none⟩,
  ⟨(some 152), .mv (.t 151) false, none⟩,
  ⟨(some 153), .mv (.t 0) false, (some (152, false))⟩,
  ⟨(some 154), .idx .str 0 (.t 153) (.c (.int .i64 2)), (some (152, false))⟩,
  ⟨(some 155), .bin .lss .int (.c (.int .u8 191)) (.t 154), (some (152, false))⟩,
  ⟨(some 156), .pick (.t 152) (.c (.bool true)) (.t 155), none⟩,
  ⟨(some 157), .mv (.t 156) false, none⟩,
  ⟨(some 158), .mv (.t 0) false, (some (157, false))⟩,
  ⟨(some 159), .idx .str 0 (.t 158) (.c (.int .i64 3)), (some (157, false))⟩,
  ⟨(some 160), .bin .lss .int (.t 159) (.c (.int .u8 128)), (some (157, false))⟩,
  ⟨(some 161), .pick (.t 157) (.c (.bool true)) (.t 160), none⟩,
  ⟨(some 162), .mv (.t 161) false, none⟩,
  ⟨(some 163), .mv (.t 0) false, (some (162, false))⟩,
  ⟨(some 164), .idx .str 0 (.t 163) (.c (.int .i64 3)), (some (162, false))⟩,
  ⟨(some 165), .bin .lss .int (.c (.int .u8 191)) (.t 164), (some (162, false))⟩,
  ⟨(some 166), .pick (.t 162) (.c (.bool true)) (.t 165), none⟩] [0, 166] ([], []) []) (.cond (.t 166)
 (.seq (.reg [⟨(some 2), .mv (.c (.bool false)) false, none⟩] [2]) .ret)
 .skip)) (.reg [⟨(some 167), .mv (.t 0) true, none⟩,
  ⟨(some 168), .sl .str (.t 167) (some (.c (.int .i64 4))) none none false, none⟩,
  ⟨(some 0), .mv (.t 168) true, none⟩] [0]))
 (.seq (.reg [⟨(some 2), .mv (.c (.bool false)) false, none⟩] [2]) .ret))))))))))))))))
def l_unicode_utf8_ValidString_1 : ACode := .loop [0] [] bl_unicode_utf8_ValidString_1
theorem L_unicode_utf8_ValidString_1 {T : Table} (ks : List Kt) (e : Env) (h : Heap) (Q : Ex → Env → Heap → Prop) : Xc T l_unicode_utf8_ValidString_1 ks e h Q = Xc T bl_unicode_utf8_ValidString_1 (.seq l_unicode_utf8_ValidString_1 :: ks) (e.keep [0]) h Q := Xc_loop ks _ e h Q _ _
def k_unicode_utf8_ValidString : ACode := (.seq (.reg [⟨(some 2), .mv (.c (.bool false)) false, none⟩] [0]) (.seq (.block 0 l_unicode_utf8_ValidString_1) (.seq (.reg [⟨(some 2), .mv (.c (.bool true)) false, none⟩] [2]) .ret)))
def c_unicode_utf8_ValidString : AFunc := ⟨k_unicode_utf8_ValidString, 169, [.t 2], [], [], []⟩
-- 99: wagtail/item.simple

def k_item_simple : ACode := (.seq (.reg [⟨(some 2), .mv (.c (.ps 1 [])) false, none⟩] [0]) (.seq (.reg [⟨(some 6), .mv (.t 0) true, none⟩,
  ⟨(some 7), .callp f_head_Put [(.c (.int .i64 7)), (.t 6)] [], none⟩,
  ⟨(some 5), .mv (.t 7) true, none⟩,
  ⟨(some 8), .ext (.t 5) 0, none⟩,
  ⟨(some 9), .ext (.t 5) 1, none⟩,
  ⟨(some 3), .mv (.t 8) true, none⟩,
  ⟨(some 4), .mv (.t 9) true, none⟩] [3]) (.seq (.reg [⟨(some 10), .mv (.t 3) true, none⟩,
  ⟨(some 2), .mv (.t 10) true, none⟩] [2]) .ret)))
def c_item_simple : AFunc := ⟨k_item_simple, 11, [.t 2], [], [0], []⟩
-- 62: (*wagtail/item.counter).lay
def bl_item_counter_lay_0 : ACode := (.seq (.reg [⟨(some 77), .bin .lss .int (.t 76) (.t 75), none⟩] [0, 2, 16, 74, 75, 76, 77]) (.seq (.cond (.t 77)
 .skip
 (.exit 1)) (.seq (.block 2 (.seq (.reg [⟨(some 78), .ia (.sl 1) (.t 74) (.t 76), none⟩,
  ⟨(some 79), .load 0 (.t 78), none⟩,
  ⟨(some 18), .mv (.t 79) true, none⟩] [0, 2, 16, 18, 74, 75, 76]) (.seq (.reg [⟨(some 81), .mv (.t 0) false, none⟩,
  ⟨(some 82), .mv (.t 18) true, none⟩,
  ⟨(some 83), .mv (.t 2) false, none⟩,
  ⟨(some 84), .bin .add .int (.t 83) (.c (.int .i64 1)), none⟩,
  ⟨(some 85), .callh f_item_counter_lay [(.t 81), (.t 82), (.t 84)], none⟩,
  ⟨(some 80), .mv (.t 85) true, none⟩,
  ⟨(some 86), .ext (.t 80) 0, none⟩,
  ⟨(some 87), .ext (.t 80) 1, none⟩,
  ⟨(some 19), .mv (.t 86) true, none⟩,
  ⟨(some 20), .mv (.t 87) true, none⟩] [0, 2, 16, 19, 20, 74, 75, 76]) (.seq (.seq (.reg [⟨(some 88), .mv (.t 20) false, none⟩,
  ⟨(some 89), .bin .neq .int (.t 88) (.c (.int .i64 0)), none⟩] [0, 2, 16, 19, 20, 74, 75, 76, 89]) (.cond (.t 89)
 (.seq (.reg [⟨(some 90), .mv (.t 20) true, none⟩,
  ⟨(some 6), .mv (.c (.ps 1 [])) false, none⟩,
  ⟨(some 7), .mv (.t 90) true, none⟩] [6, 7]) .ret)
 .skip)) (.reg [⟨(some 91), .mv (.t 16) true, none⟩,
  ⟨(some 92), .mv (.t 19) true, none⟩,
  ⟨(some 93), .app 1 1 (.t 91) (.t 92), none⟩,
  ⟨(some 16), .mv (.t 93) true, none⟩] [0, 2, 16, 74, 75, 76]))))) (.reg [⟨(some 94), .bin .add .int (.t 76) (.c (.int .i64 1)), none⟩,
  ⟨(some 76), .mv (.t 94) true, none⟩] [0, 2, 16, 74, 75, 76]))))
def l_item_counter_lay_0 : ACode := .loop [0, 2, 16, 74, 75, 76] [(16, 0)] bl_item_counter_lay_0
theorem L_item_counter_lay_0 {T : Table} (ks : List Kt) (e : Env) (h : Heap) (Q : Ex → Env → Heap → Prop) : Xc T l_item_counter_lay_0 ks e h Q = Xc T bl_item_counter_lay_0 (.seq l_item_counter_lay_0 :: ks) (e.keep [0, 2, 16, 74, 75, 76]) h Q := Xc_loop ks _ e h Q _ _
def k_item_counter_lay : ACode := (.seq (.reg [⟨(some 6), .mv (.c (.ps 1 [])) false, none⟩,
  ⟨(some 7), .mv (.c (.int .i64 0)) false, none⟩] [0, 1, 2]) (.seq (.seq (.reg [⟨(some 21), .mv (.t 0) false, none⟩,
  ⟨(some 22), .mv (.t 2) false, none⟩,
  ⟨(some 23), .callh f_item_counter_one [(.t 21), (.t 22)], none⟩,
  ⟨(some 8), .mv (.t 23) true, none⟩] [0, 1, 2, 8]) (.seq (.reg [⟨(some 24), .mv (.t 8) false, none⟩,
  ⟨(some 25), .bin .neq .int (.t 24) (.c (.int .i64 0)), none⟩] [0, 1, 2, 8, 25]) (.cond (.t 25)
 (.seq (.reg [⟨(some 26), .mv (.t 8) true, none⟩,
  ⟨(some 6), .mv (.c (.ps 1 [])) false, none⟩,
  ⟨(some 7), .mv (.t 26) true, none⟩] [6, 7]) .ret)
 .skip))) (.seq (.seq (.reg [⟨(some 27), .mv (.t 1) true, none⟩] [0, 2, 27]) (.block 0 (.seq (.reg [⟨(some 28), .ta 22 (.int .u64 0) true (.t 27), none⟩,
  ⟨(some 29), .ext (.t 28) 1, none⟩,
  ⟨(some 30), .ext (.t 28) 0, none⟩] [0, 2, 27, 29, 30]) (.cond (.t 29)
 (.seq (.reg [⟨(some 9), .mv (.t 30) true, none⟩] [9]) (.seq (.reg [⟨(some 31), .mv (.t 9) true, none⟩,
  ⟨(some 32), .callp f_head_Put [(.c (.int .i64 0)), (.t 31)] [], none⟩,
  ⟨(some 33), .ext (.t 32) 0, none⟩,
  ⟨(some 34), .ext (.t 32) 1, none⟩,
  ⟨(some 6), .mv (.t 33) true, none⟩,
  ⟨(some 7), .mv (.t 34) true, none⟩] [6, 7]) .ret))
 (.seq (.reg [⟨(some 35), .ta 90 (.int .u64 0) true (.t 27), none⟩,
  ⟨(some 36), .ext (.t 35) 1, none⟩,
  ⟨(some 37), .ext (.t 35) 0, none⟩] [0, 2, 27, 36, 37]) (.cond (.t 36)
 (.seq (.reg [⟨(some 10), .mv (.t 37) true, none⟩] [10]) (.seq (.reg [⟨(some 38), .mv (.t 10) true, none⟩,
  ⟨(some 39), .callp f_head_Put [(.c (.int .i64 1)), (.t 38)] [], none⟩,
  ⟨(some 40), .ext (.t 39) 0, none⟩,
  ⟨(some 41), .ext (.t 39) 1, none⟩,
  ⟨(some 6), .mv (.t 40) true, none⟩,
  ⟨(some 7), .mv (.t 41) true, none⟩] [6, 7]) .ret))
 (.seq (.reg [⟨(some 42), .ta 31 (.ps 1 []) true (.t 27), none⟩,
  ⟨(some 43), .ext (.t 42) 1, none⟩,
  ⟨(some 44), .ext (.t 42) 0, none⟩] [0, 2, 27, 43, 44]) (.cond (.t 43)
 (.seq (.reg [⟨(some 11), .mv (.t 44) true, none⟩] [11]) (.seq (.reg [⟨(some 45), .mv (.t 11) false, none⟩,
  ⟨(some 46), .len false (.t 45), none⟩,
  ⟨(some 47), .mv (.t 11) true, none⟩,
  ⟨(some 48), .conv .bs (.t 47), none⟩,
  ⟨(some 49), .callp f_item_put [(.c (.int .i64 2)), (.t 46), (.t 48)] [], none⟩,
  ⟨(some 6), .mv (.t 49) true, none⟩,
  ⟨(some 7), .mv (.c (.int .i64 0)) false, none⟩] [6, 7]) .ret))
 (.seq (.reg [⟨(some 50), .ta 9 (.str []) true (.t 27), none⟩,
  ⟨(some 51), .ext (.t 50) 1, none⟩,
  ⟨(some 52), .ext (.t 50) 0, none⟩] [0, 2, 27, 51, 52]) (.cond (.t 51)
 (.seq (.reg [⟨(some 12), .mv (.t 52) true, none⟩] [12]) (.seq (.seq (.reg [⟨(some 53), .mv (.t 12) false, none⟩,
  ⟨(some 54), .callp f_unicode_utf8_ValidString [(.t 53)] [], none⟩,
  ⟨(some 55), .un .not (.t 54), none⟩] [12, 55]) (.cond (.t 55)
 (.seq (.reg [⟨(some 6), .mv (.c (.ps 1 [])) false, none⟩,
  ⟨(some 7), .mv (.c (.int .i64 18)) false, none⟩] [6, 7]) .ret)
 .skip)) (.seq (.reg [⟨(some 56), .mv (.t 12) false, none⟩,
  ⟨(some 57), .len true (.t 56), none⟩,
  ⟨(some 58), .mv (.t 12) true, none⟩,
  ⟨(some 59), .callp f_item_put [(.c (.int .i64 3)), (.t 57), (.t 58)] [], none⟩,
  ⟨(some 6), .mv (.t 59) true, none⟩,
  ⟨(some 7), .mv (.c (.int .i64 0)) false, none⟩] [6, 7]) .ret)))
 (.seq (.reg [⟨(some 60), .ta 4 (.bool false) true (.t 27), none⟩,
  ⟨(some 61), .ext (.t 60) 1, none⟩,
  ⟨(some 62), .ext (.t 60) 0, none⟩] [0, 2, 27, 61, 62]) (.cond (.t 61)
 (.seq (.reg [⟨(some 13), .mv (.t 62) true, none⟩] [13]) (.seq (.seq (.reg [⟨(some 63), .mv (.t 13) true, none⟩] [63]) (.cond (.t 63)
 (.seq (.reg [⟨(some 64), .callp f_item_simple [(.c (.int .u64 21))] [], none⟩,
  ⟨(some 6), .mv (.t 64) true, none⟩,
  ⟨(some 7), .mv (.c (.int .i64 0)) false, none⟩] [6, 7]) .ret)
 .skip)) (.seq (.reg [⟨(some 65), .callp f_item_simple [(.c (.int .u64 20))] [], none⟩,
  ⟨(some 6), .mv (.t 65) true, none⟩,
  ⟨(some 7), .mv (.c (.int .i64 0)) false, none⟩] [6, 7]) .ret)))
 (.seq (.reg [⟨(some 66), .bin .eql .ifc (.t 27) (.c .nili), none⟩] [0, 2, 27, 66]) (.cond (.t 66)
 (.seq (.reg [⟨(some 14), .mv (.t 27) true, none⟩] []) (.seq (.reg [⟨(some 67), .callp f_item_simple [(.c (.int .u64 22))] [], none⟩,
  ⟨(some 6), .mv (.t 67) true, none⟩,
  ⟨(some 7), .mv (.c (.int .i64 0)) false, none⟩] [6, 7]) .ret))
 (.seq (.reg [⟨(some 68), .ta 36 (.ps 1 []) true (.t 27), none⟩,
  ⟨(some 69), .ext (.t 68) 1, none⟩,
  ⟨(some 70), .ext (.t 68) 0, none⟩] [0, 2, 69, 70]) (.cond (.t 69)
 (.seq (.reg [⟨(some 15), .mv (.t 70) true, none⟩] [0, 2, 15]) (.seq (.reg [⟨(some 71), .mv (.t 15) false, none⟩,
  ⟨(some 72), .len false (.t 71), none⟩,
  ⟨(some 73), .callp f_item_put [(.c (.int .i64 4)), (.t 72), (.c (.str []))] [], none⟩,
  ⟨(some 16), .mv (.t 73) true, none⟩] [0, 2, 15, 16]) (.seq (.seq (.reg [⟨(some 74), .mv (.t 15) true, none⟩,
  ⟨(some 75), .len false (.t 74), none⟩,
  ⟨(some 76), .mv (.c (.int .i64 0)) false, none⟩] [0, 2, 16, 74, 75, 76]) (.block 1 l_item_counter_lay_0)) (.seq (.reg [⟨(some 95), .mv (.t 16) true, none⟩,
  ⟨(some 6), .mv (.t 95) true, none⟩,
  ⟨(some 7), .mv (.c (.int .i64 0)) false, none⟩] [6, 7]) .ret))))
 .skip)))))))))))))))) (.seq (.reg [⟨(some 6), .mv (.c (.ps 1 [])) false, none⟩,
  ⟨(some 7), .mv (.c (.int .i64 18)) false, none⟩] [6, 7]) .ret))))
def c_item_counter_lay : AFunc := ⟨k_item_counter_lay, 96, [.t 6, .t 7], [], [1], []⟩
-- 37: wagtail/item.Put

def k_item_Put : ACode := (.seq (.reg [⟨(some 2), .mv (.c (.ps 1 [])) false, none⟩,
  ⟨(some 3), .mv (.c (.int .i64 0)) false, none⟩] [0]) (.seq (.reg [⟨(some 4), .alloc [(.int .i64 0)], none⟩,
  ⟨(some 5), .mv (.t 0) true, none⟩,
  ⟨(some 6), .callh f_item_counter_lay [(.t 4), (.t 5), (.c (.int .i64 0))], none⟩,
  ⟨(some 7), .ext (.t 6) 0, none⟩,
  ⟨(some 8), .ext (.t 6) 1, none⟩,
  ⟨(some 2), .mv (.t 7) true, none⟩,
  ⟨(some 3), .mv (.t 8) true, none⟩] [2, 3]) .ret))
def c_item_Put : AFunc := ⟨k_item_Put, 9, [.t 2, .t 3], [], [1], []⟩
-- 137: wagtail/be.Get$1

def k_be_Get_1 : ACode := (.seq (.reg [⟨(some 3), .mv (.c (.int .u64 0)) false, none⟩] [0, 1]) (.seq (.seq (.reg [⟨(some 4), .mv (.t 0) false, none⟩,
  ⟨(some 5), .bin .lss .int (.t 4) (.c (.int .i64 0)), none⟩,
  ⟨(some 6), .mv (.t 5) true, none⟩,
  ⟨(some 7), .mv (.t 0) false, (some (6, false))⟩,
  ⟨(some 8), .load 0 (.t 1), (some (6, false))⟩,
  ⟨(some 9), .len false (.t 8), (some (6, false))⟩,
  ⟨(some 10), .bin .geq .int (.t 7) (.t 9), (some (6, false))⟩,
  ⟨(some 11), .pick (.t 6) (.c (.bool true)) (.t 10), none⟩] [0, 1, 11]) (.cond (.t 11)
 (.seq (.reg [⟨(some 3), .mv (.c (.int .u64 0)) false, none⟩] [3]) .ret)
 .skip)) (.seq (.reg [⟨(some 12), .load 0 (.t 1), none⟩,
  ⟨(some 13), .mv (.t 0) true, none⟩,
  ⟨(some 14), .ia (.sl 1) (.t 12) (.t 13), none⟩,
  ⟨(some 15), .load 0 (.t 14), none⟩,
  ⟨(some 16), .conv (.i .u64) (.t 15), none⟩,
  ⟨(some 3), .mv (.t 16) true, none⟩] [3]) .ret)))
def c_be_Get_1 : AFunc := ⟨k_be_Get_1, 17, [.t 3], [], [], []⟩
-- 129: wagtail/be.Get
def bl_be_Get_0 : ACode := (.seq (.reg [⟨(some 22), .bin .lss .int (.t 21) (.t 20), none⟩] [1, 7, 8, 20, 21, 22]) (.seq (.cond (.t 22)
 .skip
 (.exit 0)) (.seq (.block 1 (.seq (.reg [⟨(some 23), .mv (.t 21) false, none⟩,
  ⟨(some 9), .mv (.t 23) true, none⟩] [1, 7, 8, 9, 20, 21]) (.reg [⟨(some 24), .mv (.t 7) true, none⟩,
  ⟨(some 25), .bin .shl .int (.t 24) (.c (.int .u64 8)), none⟩,
  ⟨(some 26), .mv (.t 8) false, none⟩,
  ⟨(some 27), .mv (.t 1) false, none⟩,
  ⟨(some 28), .mv (.t 9) true, none⟩,
  ⟨(some 29), .bin .add .int (.t 27) (.t 28), none⟩,
  ⟨(some 30), .callv (.t 26) [(.t 29)], none⟩,
  ⟨(some 31), .bin .or .int (.t 25) (.t 30), none⟩,
  ⟨(some 7), .mv (.t 31) true, none⟩] [1, 7, 8, 20, 21]))) (.reg [⟨(some 32), .bin .add .int (.t 21) (.c (.int .i64 1)), none⟩,
  ⟨(some 21), .mv (.t 32) true, none⟩] [1, 7, 8, 20, 21]))))
def l_be_Get_0 : ACode := .loop [1, 7, 8, 20, 21] [] bl_be_Get_0
theorem L_be_Get_0 {T : Table} (ks : List Kt) (e : Env) (h : Heap) (Q : Ex → Env → Heap → Prop) : Xc T l_be_Get_0 ks e h Q = Xc T bl_be_Get_0 (.seq l_be_Get_0 :: ks) (e.keep [1, 7, 8, 20, 21]) h Q := Xc_loop ks _ e h Q _ _
def k_be_Get : ACode := (.seq (.reg [⟨(some 3), .box (.t 0), none⟩,
  ⟨(some 6), .mv (.c (.int .u64 0)) false, none⟩] [1, 2, 3]) (.seq (.reg [⟨(some 7), .mv (.c (.int .u64 0)) false, none⟩] [1, 2, 3, 7]) (.seq (.reg [⟨(some 10), .mkfn f_be_Get_1 [(.t 3)], none⟩,
  ⟨(some 8), .mv (.t 10) true, none⟩] [1, 2, 3, 7, 8]) (.seq (.seq (.reg [⟨(some 11), .mv (.t 1) false, none⟩,
  ⟨(some 12), .load 0 (.t 3), none⟩,
  ⟨(some 13), .len false (.t 12), none⟩,
  ⟨(some 14), .bin .gtr .int (.t 11) (.t 13), none⟩] [1, 2, 3, 7, 8, 14]) (.cond (.t 14)
 (.reg [⟨(some 15), .load 0 (.t 3), none⟩,
  ⟨(some 16), .len false (.t 15), none⟩,
  ⟨(some 1), .mv (.t 16) true, none⟩] [1, 2, 7, 8])
 .skip)) (.seq (.reg [⟨(some 17), .mv (.t 1) true, none⟩,
  ⟨(some 18), .mx true [(.t 17), (.c (.int .i64 (-8)))], none⟩,
  ⟨(some 1), .mv (.t 18) true, none⟩] [1, 2, 7, 8]) (.seq (.seq (.reg [⟨(some 19), .mv (.t 2) true, none⟩,
  ⟨(some 20), .callp f_be_width [(.t 19)] [], none⟩,
  ⟨(some 21), .mv (.c (.int .i64 0)) false, none⟩] [1, 7, 8, 20, 21]) (.block 0 l_be_Get_0)) (.seq (.reg [⟨(some 33), .mv (.t 7) true, none⟩,
  ⟨(some 6), .mv (.t 33) true, none⟩] [6]) .ret)))))))
def c_be_Get : AFunc := ⟨k_be_Get, 34, [.t 6], [], [], []⟩
-- 113: wagtail/head.Get

def k_head_Get : ACode := (.seq (.reg [⟨(some 2), .mv (.c (.int .i64 0)) false, none⟩,
  ⟨(some 3), .mv (.c (.int .u64 0)) false, none⟩,
  ⟨(some 4), .mv (.c (.int .i64 0)) false, none⟩,
  ⟨(some 5), .mv (.c (.int .i64 0)) false, none⟩] [0]) (.seq (.seq (.reg [⟨(some 10), .mv (.t 0) false, none⟩,
  ⟨(some 11), .len false (.t 10), none⟩,
  ⟨(some 12), .bin .eql .int (.t 11) (.c (.int .i64 0)), none⟩] [0, 12]) (.cond (.t 12)
 (.seq (.reg [⟨(some 2), .mv (.c (.int .i64 0)) false, none⟩,
  ⟨(some 3), .mv (.c (.int .u64 0)) false, none⟩,
  ⟨(some 4), .mv (.c (.int .i64 0)) false, none⟩,
  ⟨(some 5), .mv (.c (.int .i64 5)) false, none⟩] [2, 3, 4, 5]) .ret)
 .skip)) (.seq (.regd [⟨(some 13), .mv (.t 0) false, none⟩,
  ⟨(some 14), .ia (.sl 1) (.t 13) (.c (.int .i64 0)), none⟩,
  ⟨(some 15), .load 0 (.t 14), none⟩,
  ⟨(some 16), .bin .shr .int (.t 15) (.c (.int .u64 5)), none⟩,
  ⟨(some 17), .conv (.i .i64) (.t 16), none⟩,
  ⟨(some 18), .mv (.t 0) false, none⟩,
  ⟨(some 19), .ia (.sl 1) (.t 18) (.c (.int .i64 0)), none⟩,
  ⟨(some 20), .load 0 (.t 19), none⟩,
  ⟨(some 21), .bin .and .int (.t 20) (.c (.int .u8 31)), none⟩,
  ⟨(some 22), .conv (.i .i64) (.t 21), none⟩,
  ⟨(some 6), .mv (.t 17) false, none⟩,
  ⟨(some 7), .mv (.t 22) false, none⟩] [0, 6, 7] ([], []) []) (.seq (.seq (.reg [⟨(some 23), .mv (.t 7) false, none⟩,
  ⟨(some 24), .bin .lss .int (.t 23) (.c (.int .i64 24)), none⟩] [0, 6, 7, 24]) (.cond (.t 24)
 (.seq (.reg [⟨(some 25), .mv (.t 6) true, none⟩,
  ⟨(some 26), .mv (.t 7) true, none⟩,
  ⟨(some 27), .conv (.i .u64) (.t 26), none⟩,
  ⟨(some 2), .mv (.t 25) true, none⟩,
  ⟨(some 3), .mv (.t 27) true, none⟩,
  ⟨(some 4), .mv (.c (.int .i64 1)) false, none⟩,
  ⟨(some 5), .mv (.c (.int .i64 0)) false, none⟩] [2, 3, 4, 5]) .ret)
 .skip)) (.seq (.seq (.reg [⟨(some 28), .mv (.t 7) false, none⟩,
  ⟨(some 29), .bin .gtr .int (.t 28) (.c (.int .i64 27)), none⟩] [0, 6, 7, 29]) (.cond (.t 29)
 (.seq (.reg [⟨(some 2), .mv (.c (.int .i64 0)) false, none⟩,
  ⟨(some 3), .mv (.c (.int .u64 0)) false, none⟩,
  ⟨(some 4), .mv (.c (.int .i64 0)) false, none⟩,
  ⟨(some 5), .mv (.c (.int .i64 6)) false, none⟩] [2, 3, 4, 5]) .ret)
 .skip)) (.seq (.reg [⟨(some 30), .mv (.t 7) true, none⟩,
  ⟨(some 31), .bin .sub .int (.t 30) (.c (.int .i64 24)), none⟩,
  ⟨(some 32), .bin .shl .int (.c (.int .i64 1)) (.t 31), none⟩,
  ⟨(some 8), .mv (.t 32) true, none⟩] [0, 6, 8]) (.seq (.seq (.reg [⟨(some 33), .mv (.t 0) false, none⟩,
  ⟨(some 34), .len false (.t 33), none⟩,
  ⟨(some 35), .mv (.t 8) false, none⟩,
  ⟨(some 36), .bin .add .int (.c (.int .i64 1)) (.t 35), none⟩,
  ⟨(some 37), .bin .lss .int (.t 34) (.t 36), none⟩] [0, 6, 8, 37]) (.cond (.t 37)
 (.seq (.reg [⟨(some 2), .mv (.c (.int .i64 0)) false, none⟩,
  ⟨(some 3), .mv (.c (.int .u64 0)) false, none⟩,
  ⟨(some 4), .mv (.c (.int .i64 0)) false, none⟩,
  ⟨(some 5), .mv (.c (.int .i64 5)) false, none⟩] [2, 3, 4, 5]) .ret)
 .skip)) (.seq (.reg [⟨(some 38), .mv (.t 0) true, none⟩,
  ⟨(some 39), .mv (.t 8) false, none⟩,
  ⟨(some 40), .callp f_be_Get [(.t 38), (.c (.int .i64 1)), (.t 39)] [(0, false)], none⟩,
  ⟨(some 9), .mv (.t 40) true, none⟩] [6, 8, 9]) (.seq (.seq (.reg [⟨(some 41), .mv (.t 9) false, none⟩,
  ⟨(some 42), .callp f_head_wide [(.t 41)] [], none⟩,
  ⟨(some 43), .mv (.t 8) false, none⟩,
  ⟨(some 44), .bin .neq .int (.t 42) (.t 43), none⟩] [6, 8, 9, 44]) (.cond (.t 44)
 (.seq (.reg [⟨(some 2), .mv (.c (.int .i64 0)) false, none⟩,
  ⟨(some 3), .mv (.c (.int .u64 0)) false, none⟩,
  ⟨(some 4), .mv (.c (.int .i64 0)) false, none⟩,
  ⟨(some 5), .mv (.c (.int .i64 6)) false, none⟩] [2, 3, 4, 5]) .ret)
 .skip)) (.seq (.reg [⟨(some 45), .mv (.t 6) true, none⟩,
  ⟨(some 46), .mv (.t 9) true, none⟩,
  ⟨(some 47), .mv (.t 8) true, none⟩,
  ⟨(some 48), .bin .add .int (.c (.int .i64 1)) (.t 47), none⟩,
  ⟨(some 2), .mv (.t 45) true, none⟩,
  ⟨(some 3), .mv (.t 46) true, none⟩,
  ⟨(some 4), .mv (.t 48) true, none⟩,
  ⟨(some 5), .mv (.c (.int .i64 0)) false, none⟩] [2, 3, 4, 5]) .ret))))))))))
def c_head_Get : AFunc := ⟨k_head_Get, 49, [.t 2, .t 3, .t 4, .t 5], [], [], []⟩
-- 138: unicode/utf8.word[[]byte]

def k_unicode_utf8_word_byte : ACode := (.seq (.reg [⟨(some 2), .mv (.c (.int .u64 0)) false, none⟩] [0]) (.seq (.cond (.c (.bool false))
 (.seq (.regd [⟨(some 3), .mv (.t 0) false, none⟩,
  ⟨(some 4), .ia (.sl 1) (.t 3) (.c (.int .i64 0)), none⟩,
  ⟨(some 5), .load 0 (.t 4), none⟩,
  ⟨(some 6), .conv (.i .u64) (.t 5), none⟩,
  ⟨(some 7), .mv (.t 0) false, none⟩,
  ⟨(some 8), .ia (.sl 1) (.t 7) (.c (.int .i64 1)), none⟩,
  ⟨(some 9), .load 0 (.t 8), none⟩,
  ⟨(some 10), .conv (.i .u64) (.t 9), none⟩,
  ⟨(some 11), .bin .shl .int (.t 10) (.c (.int .u64 8)), none⟩,
  ⟨(some 12), .bin .or .int (.t 6) (.t 11), none⟩,
  ⟨(some 13), .mv (.t 0) false, none⟩,
  ⟨(some 14), .ia (.sl 1) (.t 13) (.c (.int .i64 2)), none⟩,
  ⟨(some 15), .load 0 (.t 14), none⟩,
  ⟨(some 16), .conv (.i .u64) (.t 15), none⟩,
  ⟨(some 17), .bin .shl .int (.t 16) (.c (.int .u64 16)), none⟩,
  ⟨(some 18), .bin .or .int (.t 12) (.t 17), none⟩,
  ⟨(some 19), .mv (.t 0) false, none⟩,
  ⟨(some 20), .ia (.sl 1) (.t 19) (.c (.int .i64 3)), none⟩,
  ⟨(some 21), .load 0 (.t 20), none⟩,
  ⟨(some 22), .conv (.i .u64) (.t 21), none⟩,
  ⟨(some 23), .bin .shl .int (.t 22) (.c (.int .u64 24)), none⟩,
  ⟨(some 24), .bin .or .int (.t 18) (.t 23), none⟩,
  ⟨(some 2), .mv (.t 24) false, none⟩] [2] ([], []) []) .ret)
 .skip) (.seq (.regd [⟨(some 25), .mv (.t 0) false, none⟩,
  ⟨(some 26), .ia (.sl 1) (.t 25) (.c (.int .i64 0)), none⟩,
  ⟨(some 27), .load 0 (.t 26), none⟩,
  ⟨(some 28), .conv (.i .u64) (.t 27), none⟩,
  ⟨(some 29), .mv (.t 0) false, none⟩,
  ⟨(some 30), .ia (.sl 1) (.t 29) (.c (.int .i64 1)), none⟩,
  ⟨(some 31), .load 0 (.t 30), none⟩,
  ⟨(some 32), .conv (.i .u64) (.t 31), none⟩,
  ⟨(some 33), .bin .shl .int (.t 32) (.c (.int .u64 8)), none⟩,
  ⟨(some 34), .bin .or .int (.t 28) (.t 33), none⟩,
  ⟨(some 35), .mv (.t 0) false, none⟩,
  ⟨(some 36), .ia (.sl 1) (.t 35) (.c (.int .i64 2)), none⟩,
  ⟨(some 37), .load 0 (.t 36), none⟩,
  ⟨(some 38), .conv (.i .u64) (.t 37), none⟩,
  ⟨(some 39), .bin .shl .int (.t 38) (.c (.int .u64 16)), none⟩,
  ⟨(some 40), .bin .or .int (.t 34) (.t 39), none⟩,
  ⟨(some 41), .mv (.t 0) false, none⟩,
  ⟨(some 42), .ia (.sl 1) (.t 41) (.c (.int .i64 3)), none⟩,
  ⟨(some 43), .load 0 (.t 42), none⟩,
  ⟨(some 44), .conv (.i .u64) (.t 43), none⟩,
  ⟨(some 45), .bin .shl .int (.t 44) (.c (.int .u64 24)), none⟩,
  ⟨(some 46), .bin .or .int (.t 40) (.t 45), none⟩,
  ⟨(some 47), .mv (.t 0) false, none⟩,
  ⟨(some 48), .ia (.sl 1) (.t 47) (.c (.int .i64 4)), none⟩,
  ⟨(some 49), .load 0 (.t 48), none⟩,
  ⟨(some 50), .conv (.i .u64) (.t 49), none⟩,
  ⟨(some 51), .bin .shl .int (.t 50) (.c (.int .u64 32)), none⟩,
  ⟨(some 52), .bin .or .int (.t 46) (.t 51), none⟩,
  ⟨(some 53), .mv (.t 0) false, none⟩,
  ⟨(some 54), .ia (.sl 1) (.t 53) (.c (.int .i64 5)), none⟩,
  ⟨(some 55), .load 0 (.t 54), none⟩,
  ⟨(some 56), .conv (.i .u64) (.t 55), none⟩,
  ⟨(some 57), .bin .shl .int (.t 56) (.c (.int .u64 40)), none⟩,
  ⟨(some 58), .bin .or .int (.t 52) (.t 57), none⟩,
  ⟨(some 59), .mv (.t 0) false, none⟩,
  ⟨(some 60), .ia (.sl 1) (.t 59) (.c (.int .i64 6)), none⟩,
  ⟨(some 61), .load 0 (.t 60), none⟩,
  ⟨(some 62), .conv (.i .u64) (.t 61), none⟩,
  ⟨(some 63), .bin .shl .int (.t 62) (.c (.int .u64 48)), none⟩,
  ⟨(some 64), .bin .or .int (.t 58) (.t 63), none⟩,
  ⟨(some 65), .mv (.t 0) false, none⟩,
  ⟨(some 66), .ia (.sl 1) (.t 65) (.c (.int .i64 7)), none⟩,
  ⟨(some 67), .load 0 (.t 66), none⟩,
  ⟨(some 68), .conv (.i .u64) (.t 67), none⟩,
  ⟨(some 69), .bin .shl .int (.t 68) (.c (.int .u64 56)), none⟩,
  ⟨(some 70), .bin .or .int (.t 64) (.t 69), none⟩,
  ⟨(some 2), .mv (.t 70) false, none⟩] [2] ([], []) []) .ret)))
def c_unicode_utf8_word_byte : AFunc := ⟨k_unicode_utf8_word_byte, 71, [.t 2], [], [], []⟩
-- 130: unicode/utf8.Valid
def bl_unicode_utf8_Valid_0 : ACode := (.seq (.seq (.regd [⟨(some 49), .mv (.t 0) false, none⟩,
  ⟨(some 50), .len false (.t 49), none⟩,
  ⟨(some 51), .bin .gtr .int (.t 50) (.c (.int .i64 32)), none⟩,
  ⟨(some 52), .mv (.t 51) false, none⟩,
  ⟨(some 53), .mv (.t 0) false, (some (52, true))⟩,
  ⟨(some 54), .callp f_unicode_utf8_word_byte [(.t 53)] [(0, false)], (some (52, true))⟩,
  ⟨(some 55), .mv (.t 0) false, (some (52, true))⟩,
  ⟨(some 56), .sl (.sl 1) (.t 55) (some (.c (.int .i64 8))) none none false, (some (52, true))⟩,
  ⟨(some 57), .callp f_unicode_utf8_word_byte [(.t 56)] [(0, false)], (some (52, true))⟩,
  ⟨(some 58), .bin .or .int (.t 54) (.t 57), (some (52, true))⟩,
  ⟨(some 59), .mv (.t 0) false, (some (52, true))⟩,
  ⟨(some 60), .sl (.sl 1) (.t 59) (some (.c (.int .i64 16))) none none false, (some (52, true))⟩,
  ⟨(some 61), .callp f_unicode_utf8_word_byte [(.t 60)] [(0, false)], (some (52, true))⟩,
  ⟨(some 62), .mv (.t 0) false, (some (52, true))⟩,
  ⟨(some 63), .sl (.sl 1) (.t 62) (some (.c (.int .i64 24))) none none false, (some (52, true))⟩,
  ⟨(some 64), .callp f_unicode_utf8_word_byte [(.t 63)] [(0, false)], (some (52, true))⟩,
  ⟨(some 65), .bin .or .int (.t 61) (.t 64), (some (52, true))⟩,
  ⟨(some 66), .bin .or .int (.t 58) (.t 65), (some (52, true))⟩,
  ⟨(some 67), .bin .and .int (.t 66) (.c (.int .u64 9259542123273814144)), (some (52, true))⟩,
  ⟨(some 68), .bin .eql .int (.t 67) (.c (.int .u64 0)), (some (52, true))⟩,
  ⟨(some 69), .pick (.t 52) (.t 68) (.c (.bool false)), none⟩] [0, 69] ([], []) []) (.cond (.t 69)
 .skip
 (.exit 2))) (.block 3 (.reg [⟨(some 70), .mv (.t 0) true, none⟩,
  ⟨(some 71), .sl (.sl 1) (.t 70) (some (.c (.int .i64 32))) none none false, none⟩,
  ⟨(some 0), .mv (.t 71) true, none⟩] [0])))
def l_unicode_utf8_Valid_0 : ACode := .loop [0] [] bl_unicode_utf8_Valid_0
theorem L_unicode_utf8_Valid_0 {T : Table} (ks : List Kt) (e : Env) (h : Heap) (Q : Ex → Env → Heap → Prop) : Xc T l_unicode_utf8_Valid_0 ks e h Q = Xc T bl_unicode_utf8_Valid_0 (.seq l_unicode_utf8_Valid_0 :: ks) (e.keep [0]) h Q := Xc_loop ks _ e h Q _ _
def bl_unicode_utf8_Valid_1 : ACode := (.seq (.seq (.reg [⟨(some 13), .mv (.t 0) false, none⟩,
  ⟨(some 14), .len false (.t 13), none⟩,
  ⟨(some 15), .bin .gtr .int (.t 14) (.c (.int .i64 0)), none⟩] [0, 15]) (.cond (.t 15)
 .skip
 (.exit 0))) (.block 1 (.seq (.reg [⟨(some 16), .mv (.t 0) false, none⟩,
  ⟨(some 17), .ia (.sl 1) (.t 16) (.c (.int .i64 0)), none⟩,
  ⟨(some 18), .load 0 (.t 17), none⟩,
  ⟨(some 3), .mv (.t 18) true, none⟩] [0, 3]) (.seq (.seq (.reg [⟨(some 19), .mv (.t 3) false, none⟩,
  ⟨(some 20), .bin .lss .int (.t 19) (.c (.int .u8 128)), none⟩] [0, 3, 20]) (.cond (.t 20)
 (.seq (.reg [⟨(some 21), .mv (.t 0) true, none⟩,
  ⟨(some 22), .sl (.sl 1) (.t 21) (some (.c (.int .i64 1))) none none false, none⟩,
  ⟨(some 0), .mv (.t 22) true, none⟩] [0]) (.seq (.seq (.reg [⟨(some 23), .mv (.t 0) false, none⟩,
  ⟨(some 24), .len false (.t 23), none⟩,
  ⟨(some 25), .bin .gtr .int (.t 24) (.c (.int .i64 8)), none⟩,
  ⟨(some 26), .mv (.t 25) true, none⟩,
  ⟨(some 27), .mv (.t 0) false, (some (26, true))⟩,
  ⟨(some 28), .callp f_unicode_utf8_word_byte [(.t 27)] [(0, false)], (some (26, true))⟩,
  ⟨(some 29), .bin .and .int (.t 28) (.c (.int .u64 9259542123273814144)), (some (26, true))⟩,
  ⟨(some 30), .bin .eql .int (.t 29) (.c (.int .u64 0)), (some (26, true))⟩,
  ⟨(some 31), .pick (.t 26) (.t 30) (.c (.bool false)), none⟩] [0, 31]) (.cond (.t 31)
 (.seq (.reg [⟨(some 32), .mv (.t 0) true, none⟩,
  ⟨(some 33), .sl (.sl 1) (.t 32) (some (.c (.int .i64 8))) none none false, none⟩,
  ⟨(some 0), .mv (.t 33) true, none⟩] [0]) (.seq (.regd [⟨(some 34), .mv (.t 0) false, none⟩,
  ⟨(some 35), .len false (.t 34), none⟩,
  ⟨(some 36), .bin .gtr .int (.t 35) (.c (.int .i64 16)), none⟩,
  ⟨(some 37), .mv (.t 36) false, none⟩,
  ⟨(some 38), .mv (.t 0) false, (some (37, true))⟩,
  ⟨(some 39), .callp f_unicode_utf8_word_byte [(.t 38)] [(0, false)], (some (37, true))⟩,
  ⟨(some 40), .mv (.t 0) false, (some (37, true))⟩,
  ⟨(some 41), .sl (.sl 1) (.t 40) (some (.c (.int .i64 8))) none none false, (some (37, true))⟩,
  ⟨(some 42), .callp f_unicode_utf8_word_byte [(.t 41)] [(0, false)], (some (37, true))⟩,
  ⟨(some 43), .bin .or .int (.t 39) (.t 42), (some (37, true))⟩,
  ⟨(some 44), .bin .and .int (.t 43) (.c (.int .u64 9259542123273814144)), (some (37, true))⟩,
  ⟨(some 45), .bin .eql .int (.t 44) (.c (.int .u64 0)), (some (37, true))⟩,
  ⟨(some 46), .pick (.t 37) (.t 45) (.c (.bool false)), none⟩] [0, 46] ([], []) []) (.cond (.t 46)
 (.seq (.reg [⟨(some 47), .mv (.t 0) true, none⟩,
  ⟨(some 48), .sl (.sl 1) (.t 47) (some (.c (.int .i64 16))) none none false, none⟩,
  ⟨(some 0), .mv (.t 48) true, none⟩] [0]) (.block 2 l_unicode_utf8_Valid_0))
 .skip)))
 .skip)) (.exit 1)))
 .skip)) (.seq (.reg [⟨(some 72), .mv (.t 3) true, none⟩,
  ⟨(some 73), .ia (.arr 256 1) (.g 0) (.t 72), none⟩,
  ⟨(some 74), .load 0 (.t 73), none⟩,
  ⟨(some 4), .mv (.t 74) true, none⟩] [0, 4]) (.seq (.reg [⟨(some 75), .mv (.t 4) false, none⟩,
  ⟨(some 76), .bin .and .int (.t 75) (.c (.int .u8 7)), none⟩,
  ⟨(some 77), .conv (.i .i64) (.t 76), none⟩,
  ⟨(some 5), .mv (.t 77) true, none⟩] [0, 4, 5]) (.seq (.reg [⟨(some 78), .mv (.t 4) true, none⟩,
  ⟨(some 79), .bin .shr .int (.t 78) (.c (.int .u64 4)), none⟩,
  ⟨(some 80), .ia (.arr 16 2) (.g 1) (.t 79), none⟩,
  ⟨(some 81), .load 2 (.t 80), none⟩,
  ⟨(some 6), .alloc [(.int .u8 0), (.int .u8 0)], none⟩,
  ⟨none, .store 2 (.t 6) (.t 81), none⟩] [0, 5, 6]) (.seq (.reg [⟨(some 82), .mv (.t 5) true, none⟩] [0, 6, 82]) (.block 4 (.seq (.reg [⟨(some 84), .bin .eql .int (.t 82) (.c (.int .i64 2)), none⟩,
  ⟨(some 83), .mv (.t 84) true, none⟩] [0, 6, 82, 83]) (.cond (.t 83)
 (.seq (.seq (.regd [⟨(some 85), .mv (.t 0) false, none⟩,
  ⟨(some 86), .len false (.t 85), none⟩,
  ⟨(some 87), .bin .lss .int (.t 86) (.c (.int .i64 2)), none⟩,
  ⟨(some 88), .mv (.t 87) false, none⟩,
  ⟨(some 89), .mv (.t 0) false, (some (88, false))⟩,
  ⟨(some 90), .ia (.sl 1) (.t 89) (.c (.int .i64 1)), (some (88, false))⟩,
  ⟨(some 91), .load 0 (.t 90), (some (88, false))⟩,
  ⟨(some 92), .fa 0 (.t 6), (some (88, false))⟩,
  ⟨(some 93), .load 0 (.t 92), (some (88, false))⟩,
  ⟨(some 94), .bin .lss .int (.t 91) (.t 93), (some (88, false))⟩,
  ⟨(some 95), .pick (.t 88) (.c (.bool true)) (.t 94), none⟩,
  ⟨(some 96), .mv (.t 95) false, none⟩,
  ⟨(some 97), .fa 1 (.t 6), (some (96, false))⟩,
  ⟨(some 98), .load 0 (.t 97), (some (96, false))⟩,
  ⟨(some 99), .mv (.t 0) false, (some (96, false))⟩,
  ⟨(some 100), .ia (.sl 1) (.t 99) (.c (.int .i64 1)), (some (96, false))⟩,
  ⟨(some 101), .load 0 (.t 100), (some (96, false))⟩,
  ⟨(some 102), .bin .lss .int (.t 98) (.t 101), (some (96, false))⟩,
  ⟨(some 103), .pick (.t 96) (.c (.bool true)) (.t 102), none⟩] [0, 103] ([], []) []) (.cond (.t 103)
 (.seq (.reg [⟨(some 2), .mv (.c (.bool false)) false, none⟩] [2]) .ret)
 .skip)) (.reg [⟨(some 104), .mv (.t 0) true, none⟩,
  ⟨(some 105), .sl (.sl 1) (.t 104) (some (.c (.int .i64 2))) none none false, none⟩,
  ⟨(some 0), .mv (.t 105) true, none⟩] [0]))
 (.seq (.reg [⟨(some 107), .bin .eql .int (.t 82) (.c (.int .i64 3)), none⟩,
  ⟨(some 106), .mv (.t 107) true, none⟩] [0, 6, 82, 106]) (.cond (.t 106)
 (.seq (.seq (.regd [⟨(some 108), .mv (.t 0) false, none⟩,
  ⟨(some 109), .len false (.t 108), none⟩,
  ⟨(some 110), .bin .lss .int (.t 109) (.c (.int .i64 3)), none⟩,
  ⟨(some 111), .mv (.t 110) false, none⟩,
  ⟨(some 112), .mv (.t 0) false, (some (111, false))⟩,
  ⟨(some 113), .ia (.sl 1) (.t 112) (.c (.int .i64 1)), (some (111, false))⟩,
  ⟨(some 114), .load 0 (.t 113), (some (111, false))⟩,
  ⟨(some 115), .fa 0 (.t 6), (some (111, false))⟩,
  ⟨(some 116), .load 0 (.t 115), (some (111, false))⟩,
  ⟨(some 117), .bin .lss .int (.t 114) (.t 116), (some (111, false))⟩,
  ⟨(some 118), .pick (.t 111) (.c (.bool true)) (.t 117), none⟩,
  ⟨(some 119), .mv (.t 118) false, none⟩,
  ⟨(some 120), .fa 1 (.t 6), (some (119, false))⟩,
  ⟨(some 121), .load 0 (.t 120), (some (119, false))⟩,
  ⟨(some 122), .mv (.t 0) false, (some (119, false))⟩,
  ⟨(some 123), .ia (.sl 1) (.t 122) (.c (.int .i64 1)), (some (119, false))⟩,
  ⟨(some 124), .load 0 (.t 123), (some (119, false))⟩,
  ⟨(some 125), .bin .lss .int (.t 121) (.t 124), (some (119, false))⟩,
  ⟨(some 126), .pick (.t 119) (.c (.bool true)) (.t 125), none⟩,
  ⟨(some 127), .mv (.t 126) false, none⟩,
  ⟨(some 128), .mv (.t 0) false, (some (127, false))⟩,
  ⟨(some 129), .ia (.sl 1) (.t 128) (.c (.int .i64 2)), (some (127, false))⟩,
  ⟨(some 130), .load 0 (.t 129), (some (127, false))⟩,
  ⟨(some 131), .bin .lss .int (.t 130) (.c (.int .u8 128)), (some (127, false))⟩,
  ⟨(some 132), .pick (.t 127) (.c (.bool true)) (.t 131), none⟩,
  ⟨(some 133), .mv (.t 132) false, none⟩,
  ⟨(some 134), .mv (.t 0) false, (some (133, false))⟩,
  ⟨(some 135), .ia (.sl 1) (.t 134) (.c (.int .i64 2)), (some (133, false))⟩,
  ⟨(some 136), .load 0 (.t 135), (some (133, false))⟩,
  ⟨(some 137), .bin .lss .int (.c (.int .u8 191)) (.t 136), (some (133, false))⟩,
  ⟨(some 138), .pick (.t 133) (.c (.bool true)) (.t 137), none⟩] [0, 138] ([], []) []) (.cond (.t 138)
 (.seq (.reg [⟨(some 2), .mv (.c (.bool false)) false, none⟩] [2]) .ret)
 .skip)) (.reg [⟨(some 139), .mv (.t 0) true, none⟩,
  ⟨(some 140), .sl (.sl 1) (.t 139) (some (.c (.int .i64 3))) none none false, none⟩,
  ⟨(some 0), .mv (.t 140) true, none⟩] [0]))
 (.seq (.reg [⟨(some 142), .bin .eql .int (.t 82) (.c (.int .i64 4)), none⟩,
  ⟨(some 141), .mv (.t 142) true, none⟩] [0, 6, 141]) (.cond (.t 141)
 (.seq (.seq (.regd [⟨(some 143), .mv (.t 0) false, none⟩,
  ⟨(some 144), .len false (.t 143), none⟩,
  ⟨(some 145), .bin .lss .int (.t 144) (.c (.int .i64 4)), none⟩,
  ⟨(some 146), .mv (.t 145) false, none⟩,
  ⟨(some 147), .mv (.t 0) false, (some (146, false))⟩,
  ⟨(some 148), .ia (.sl 1) (.t 147) (.c (.int .i64 1)), (some (146, false))⟩,
  ⟨(some 149), .load 0 (.t 148), (some (146, false))⟩,
  ⟨(some 150), .fa 0 (.t 6), (some (146, false))⟩,
  ⟨(some 151), .load 0 (.t 150), (some (146, false))⟩,
  ⟨(some 152), .bin .lss .int (.t 149) (.t 151), (some (146, false))⟩,
  ⟨(some 153), .pick (.t 146) (.c (.bool true)) (.t 152), none⟩,
  ⟨(some 154), .mv (.t 153) false, none⟩,
  ⟨(some 155), .fa 1 (.t 6), (some (154, false))⟩,
  ⟨(some 156), .load 0 (.t 155), (some (154, false))⟩,
  ⟨(some 157), .mv (.t 0) false, (some (154, false))⟩,
  ⟨(some 158), .ia (.sl 1) (.t 157) (.c (.int .i64 1)), (some (154, false))⟩,
  ⟨(some 159), .load 0 (.t 158), (some (154, false))⟩,
  ⟨(some 160), .bin .lss .int (.t 156) (.t 159), (some (154, false))⟩,
  ⟨(some 161), .pick (.t 154) (.c (.bool true)) (.t 160), none⟩,
  ⟨(some 162), .mv (.t 161) false, none⟩,
  ⟨(some 163), .mv (.t 0) false, (some (162, false))⟩,
  ⟨(some 164), .ia (.sl 1) (.t 163) (.c (.int .i64 2)), (some (162, false))⟩,
  ⟨(some 165), .load 0 (.t 164), (some (162, false))⟩,
  ⟨(some 166), .bin .lss .int (.t 165) (.c (.int .u8 128)), (some (162, false))⟩,
  ⟨(some 167), .pick (.t 162) (.c (.bool true)) (.t 166), none⟩,
  ⟨(some 168), .mv (.t 167) false, none⟩,
  ⟨(some 169), .mv (.t 0) false, (some (168, false))⟩,
  ⟨(some 170), .ia (.sl 1) (.t 169) (.c (.int .i64 2)), (some (168, false))⟩,
  ⟨(some 171), .load 0 (.t 170), (some (168, false))⟩,
  ⟨(some 172), .bin .lss .int (.c (.int .u8 191)) (.t 171), (some (168, false))⟩,
  ⟨(some 173), .pick (.t 168) (.c (.bool true)) (.t 172), none⟩,
  ⟨(some 174), .mv (.t 173) false, none⟩,
  ⟨(some 175), .mv (.t 0) false, (some (174, false))⟩,
  ⟨(some 176), .ia (.sl 1) (.t 175) (.c (.int .i64 3)), (some (174, false))⟩,
  ⟨(some 177), .load 0 (.t 176), (some (174, false))⟩,
  ⟨(some 178), .bin .lss .int (.t 177) (.c (.int .u8 128)), (some (174, false))⟩,
  ⟨(some 179), .pick (.t 174) (.c (.bool true)) (.t 178), none⟩,
  ⟨(some 180), .mv (.t 179) false, none⟩,
  ⟨(some 181), .mv (.t 0) false, (some (180, false))⟩,
  ⟨(some 182), .ia (.sl 1) (.t 181) (.c (.int .i64 3)), (some (180, false))⟩,
  ⟨(some 183), .load 0 (.t 182), (some (180, false))⟩,
  ⟨(some 184), .bin .lss .int (.c (.int .u8 191)) (.t 183), (some (180, false))⟩,
  ⟨(some 185), .pick (.t 180) (.c (.bool true)) (.t 184), none⟩] [0, 185] ([], []) []) (.cond (.t 185)
 (.seq (.reg [⟨(some 2), .mv (.c (.bool false)) false, none⟩] [2]) .ret)
 .skip)) (.reg [⟨(some 186), .mv (.t 0) true, none⟩,
  ⟨(some 187), .sl (.sl 1) (.t 186) (some (.c (.int .i64 4))) none none false, none⟩,
  ⟨(some 0), .mv (.t 187) true, none⟩] [0]))
 (.seq (.reg [⟨(some 2), .mv (.c (.bool false)) false, none⟩] [2]) .ret))))))))))))))))
def l_unicode_utf8_Valid_1 : ACode := .loop [0] [] bl_unicode_utf8_Valid_1
theorem L_unicode_utf8_Valid_1 {T : Table} (ks : List Kt) (e : Env) (h : Heap) (Q : Ex → Env → Heap → Prop) : Xc T l_unicode_utf8_Valid_1 ks e h Q = Xc T bl_unicode_utf8_Valid_1 (.seq l_unicode_utf8_Valid_1 :: ks) (e.keep [0]) h Q := Xc_loop ks _ e h Q _ _
def k_unicode_utf8_Valid : ACode := (.seq (.reg [⟨(some 2), .mv (.c (.bool false)) false, none⟩] [0]) (.seq (.reg [⟨(some 7), .mv (.t 0) false, none⟩,
  ⟨(some 8), .mv (.t 0) false, none⟩,
  ⟨(some 9), .len false (.t 8), none⟩,
  ⟨(some 10), .mv (.t 0) true, none⟩,
  ⟨(some 11), .len false (.t 10), none⟩,
  ⟨(some 12), .sl (.sl 1) (.t 7) none (some (.t 9)) (some (.t 11)) false, none⟩,
  ⟨(some 0), .mv (.t 12) true, none⟩] [0]) (.seq (.block 0 l_unicode_utf8_Valid_1) (.seq (.reg [⟨(some 2), .mv (.c (.bool true)) false, none⟩] [2]) .ret))))
def c_unicode_utf8_Valid : AFunc := ⟨k_unicode_utf8_Valid, 188, [.t 2], [], [], []⟩
-- 114: wagtail/item.text

def k_item_text : ACode := (.seq (.reg [⟨(some 4), .mv (.c .nili) false, none⟩,
  ⟨(some 5), .mv (.c (.int .i64 0)) false, none⟩] [0, 1]) (.seq (.seq (.reg [⟨(some 6), .mv (.t 0) true, none⟩,
  ⟨(some 7), .bin .eql .int (.t 6) (.c (.int .i64 2)), none⟩] [1, 7]) (.cond (.t 7)
 (.seq (.reg [⟨(some 8), .bsl 1 [] false, none⟩,
  ⟨(some 9), .mv (.t 1) true, none⟩,
  ⟨(some 10), .app 1 1 (.t 8) (.t 9), none⟩,
  ⟨(some 11), .mkif 31 (.t 10), none⟩,
  ⟨(some 4), .mv (.t 11) true, none⟩,
  ⟨(some 5), .mv (.c (.int .i64 0)) false, none⟩] [4, 5]) .ret)
 .skip)) (.seq (.seq (.reg [⟨(some 12), .mv (.t 1) false, none⟩,
  ⟨(some 13), .callp f_unicode_utf8_Valid [(.t 12)] [(0, false)], none⟩,
  ⟨(some 14), .un .not (.t 13), none⟩] [1, 14]) (.cond (.t 14)
 (.seq (.reg [⟨(some 4), .mv (.c .nili) false, none⟩,
  ⟨(some 5), .mv (.c (.int .i64 6)) false, none⟩] [4, 5]) .ret)
 .skip)) (.seq (.reg [⟨(some 15), .mv (.t 1) true, none⟩,
  ⟨(some 16), .conv .bs (.t 15), none⟩,
  ⟨(some 17), .mkif 9 (.t 16), none⟩,
  ⟨(some 4), .mv (.t 17) true, none⟩,
  ⟨(some 5), .mv (.c (.int .i64 0)) false, none⟩] [4, 5]) .ret))))
def c_item_text : AFunc := ⟨k_item_text, 18, [.t 4, .t 5], [], [], []⟩
-- 115: (*wagtail/item.counter).list
def bl_item_counter_list_0 : ACode := (.seq (.reg [⟨(some 19), .bin .lss .int (.t 18) (.t 17), none⟩] [0, 1, 3, 11, 12, 17, 18, 19]) (.seq (.cond (.t 19)
 .skip
 (.exit 0)) (.seq (.block 1 (.seq (.reg [⟨(some 21), .mv (.t 0) false, none⟩,
  ⟨(some 22), .mv (.t 1) false, none⟩,
  ⟨(some 23), .mv (.t 12) false, none⟩,
  ⟨(some 24), .sl (.sl 1) (.t 22) (some (.t 23)) none none false, none⟩,
  ⟨(some 25), .mv (.t 3) false, none⟩,
  ⟨(some 26), .bin .add .int (.t 25) (.c (.int .i64 1)), none⟩,
  ⟨(some 27), .callh f_item_counter_read [(.t 21), (.t 24), (.t 26)], none⟩,
  ⟨(some 20), .mv (.t 27) true, none⟩,
  ⟨(some 28), .ext (.t 20) 0, none⟩,
  ⟨(some 29), .ext (.t 20) 1, none⟩,
  ⟨(some 30), .ext (.t 20) 2, none⟩,
  ⟨(some 13), .mv (.t 28) true, none⟩,
  ⟨(some 14), .mv (.t 29) true, none⟩,
  ⟨(some 15), .mv (.t 30) true, none⟩] [0, 1, 3, 11, 12, 13, 14, 15, 17, 18]) (.seq (.seq (.reg [⟨(some 31), .mv (.t 15) false, none⟩,
  ⟨(some 32), .bin .neq .int (.t 31) (.c (.int .i64 0)), none⟩] [0, 1, 3, 11, 12, 13, 14, 15, 17, 18, 32]) (.cond (.t 32)
 (.seq (.reg [⟨(some 33), .mv (.t 15) true, none⟩,
  ⟨(some 8), .mv (.c .nili) false, none⟩,
  ⟨(some 9), .mv (.c (.int .i64 0)) false, none⟩,
  ⟨(some 10), .mv (.t 33) true, none⟩] [8, 9, 10]) .ret)
 .skip)) (.seq (.reg [⟨(some 34), .mv (.t 11) true, none⟩,
  ⟨(some 35), .mv (.t 13) true, none⟩,
  ⟨(some 36), .bsl 1 [(.t 35)] false, none⟩,
  ⟨(some 37), .app 1 16 (.t 34) (.t 36), none⟩,
  ⟨(some 11), .mv (.t 37) true, none⟩] [0, 1, 3, 11, 12, 14, 17, 18]) (.reg [⟨(some 38), .mv (.t 12) true, none⟩,
  ⟨(some 39), .mv (.t 14) true, none⟩,
  ⟨(some 40), .bin .add .int (.t 38) (.t 39), none⟩,
  ⟨(some 12), .mv (.t 40) true, none⟩] [0, 1, 3, 11, 12, 17, 18]))))) (.reg [⟨(some 41), .bin .add .int (.t 18) (.c (.int .u64 1)), none⟩,
  ⟨(some 18), .mv (.t 41) true, none⟩] [0, 1, 3, 11, 12, 17, 18]))))
def l_item_counter_list_0 : ACode := .loop [0, 1, 3, 11, 12, 17, 18] [(11, 0)] bl_item_counter_list_0
theorem L_item_counter_list_0 {T : Table} (ks : List Kt) (e : Env) (h : Heap) (Q : Ex → Env → Heap → Prop) : Xc T l_item_counter_list_0 ks e h Q = Xc T bl_item_counter_list_0 (.seq l_item_counter_list_0 :: ks) (e.keep [0, 1, 3, 11, 12, 17, 18]) h Q := Xc_loop ks _ e h Q _ _
def k_item_counter_list : ACode := (.seq (.reg [⟨(some 8), .mv (.c .nili) false, none⟩,
  ⟨(some 9), .mv (.c (.int .i64 0)) false, none⟩,
  ⟨(some 10), .mv (.c (.int .i64 0)) false, none⟩] [0, 1, 2, 3]) (.seq (.reg [⟨(some 16), .bsl 1 [] false, none⟩,
  ⟨(some 11), .mv (.t 16) true, none⟩] [0, 1, 2, 3, 11]) (.seq (.reg [⟨(some 12), .mv (.c (.int .i64 0)) false, none⟩] [0, 1, 2, 3, 11, 12]) (.seq (.seq (.reg [⟨(some 17), .mv (.t 2) true, none⟩,
  ⟨(some 18), .mv (.c (.int .u64 0)) false, none⟩] [0, 1, 3, 11, 12, 17, 18]) (.block 0 l_item_counter_list_0)) (.seq (.reg [⟨(some 42), .mv (.t 11) true, none⟩,
  ⟨(some 43), .mkif 36 (.t 42), none⟩,
  ⟨(some 44), .mv (.t 12) true, none⟩,
  ⟨(some 8), .mv (.t 43) true, none⟩,
  ⟨(some 9), .mv (.t 44) true, none⟩,
  ⟨(some 10), .mv (.c (.int .i64 0)) false, none⟩] [8, 9, 10]) .ret)))))
def c_item_counter_list : AFunc := ⟨k_item_counter_list, 45, [.t 8, .t 9, .t 10], [], [], []⟩
-- 116: wagtail/item.other

def k_item_other : ACode := (.seq (.reg [⟨(some 2), .mv (.c .nili) false, none⟩,
  ⟨(some 3), .mv (.c (.int .i64 0)) false, none⟩] [0]) (.seq (.seq (.reg [⟨(some 4), .mv (.t 0) false, none⟩] [0, 4]) (.block 0 (.seq (.seq (.reg [⟨(some 6), .bin .eql .int (.t 4) (.c (.int .u64 20)), none⟩,
  ⟨(some 5), .mv (.t 6) true, none⟩] [0, 4, 5]) (.cond (.t 5)
 .skip
 (.reg [⟨(some 7), .bin .eql .int (.t 4) (.c (.int .u64 21)), none⟩,
  ⟨(some 5), .mv (.t 7) true, none⟩] [0, 4, 5]))) (.cond (.t 5)
 (.seq (.reg [⟨(some 8), .mv (.t 0) true, none⟩,
  ⟨(some 9), .bin .eql .int (.t 8) (.c (.int .u64 21)), none⟩,
  ⟨(some 10), .mkif 4 (.t 9), none⟩,
  ⟨(some 2), .mv (.t 10) true, none⟩,
  ⟨(some 3), .mv (.c (.int .i64 0)) false, none⟩] [2, 3]) .ret)
 (.seq (.reg [⟨(some 12), .bin .eql .int (.t 4) (.c (.int .u64 22)), none⟩,
  ⟨(some 11), .mv (.t 12) true, none⟩] [11]) (.cond (.t 11)
 (.seq (.reg [⟨(some 2), .mv (.c .nili) false, none⟩,
  ⟨(some 3), .mv (.c (.int .i64 0)) false, none⟩] [2, 3]) .ret)
 .skip)))))) (.seq (.reg [⟨(some 2), .mv (.c .nili) false, none⟩,
  ⟨(some 3), .mv (.c (.int .i64 18)) false, none⟩] [2, 3]) .ret)))
def c_item_other : AFunc := ⟨k_item_other, 13, [.t 2, .t 3], [], [], []⟩
-- 90: (*wagtail/item.counter).read

def k_item_counter_read : ACode := (.seq (.reg [⟨(some 6), .mv (.c .nili) false, none⟩,
  ⟨(some 7), .mv (.c (.int .i64 0)) false, none⟩,
  ⟨(some 8), .mv (.c (.int .i64 0)) false, none⟩] [0, 1, 2]) (.seq (.seq (.reg [⟨(some 16), .mv (.t 0) false, none⟩,
  ⟨(some 17), .mv (.t 2) false, none⟩,
  ⟨(some 18), .callh f_item_counter_one [(.t 16), (.t 17)], none⟩,
  ⟨(some 9), .mv (.t 18) true, none⟩] [0, 1, 2, 9]) (.seq (.reg [⟨(some 19), .mv (.t 9) false, none⟩,
  ⟨(some 20), .bin .neq .int (.t 19) (.c (.int .i64 0)), none⟩] [0, 1, 2, 9, 20]) (.cond (.t 20)
 (.seq (.reg [⟨(some 21), .mv (.t 9) true, none⟩,
  ⟨(some 6), .mv (.c .nili) false, none⟩,
  ⟨(some 7), .mv (.c (.int .i64 0)) false, none⟩,
  ⟨(some 8), .mv (.t 21) true, none⟩] [6, 7, 8]) .ret)
 .skip))) (.seq (.reg [⟨(some 23), .mv (.t 1) false, none⟩,
  ⟨(some 24), .callp f_head_Get [(.t 23)] [(0, false)], none⟩,
  ⟨(some 22), .mv (.t 24) true, none⟩,
  ⟨(some 25), .ext (.t 22) 0, none⟩,
  ⟨(some 26), .ext (.t 22) 1, none⟩,
  ⟨(some 27), .ext (.t 22) 2, none⟩,
  ⟨(some 28), .ext (.t 22) 3, none⟩,
  ⟨(some 10), .mv (.t 25) true, none⟩,
  ⟨(some 11), .mv (.t 26) true, none⟩,
  ⟨(some 12), .mv (.t 27) true, none⟩,
  ⟨(some 13), .mv (.t 28) true, none⟩] [0, 1, 2, 10, 11, 12, 13]) (.seq (.seq (.reg [⟨(some 29), .mv (.t 13) false, none⟩,
  ⟨(some 30), .bin .neq .int (.t 29) (.c (.int .i64 0)), none⟩] [0, 1, 2, 10, 11, 12, 13, 30]) (.cond (.t 30)
 (.seq (.reg [⟨(some 31), .mv (.t 13) true, none⟩,
  ⟨(some 6), .mv (.c .nili) false, none⟩,
  ⟨(some 7), .mv (.c (.int .i64 0)) false, none⟩,
  ⟨(some 8), .mv (.t 31) true, none⟩] [6, 7, 8]) .ret)
 .skip)) (.seq (.reg [⟨(some 14), .mv (.c .nili) false, none⟩] [0, 1, 2, 10, 11, 12, 13, 14]) (.seq (.reg [⟨(some 15), .mv (.c (.int .i64 0)) false, none⟩] [0, 1, 2, 10, 11, 12, 13, 14, 15]) (.seq (.seq (.reg [⟨(some 32), .mv (.t 10) false, none⟩] [0, 1, 2, 10, 11, 12, 13, 14, 15, 32]) (.block 0 (.seq (.reg [⟨(some 34), .bin .eql .int (.t 32) (.c (.int .i64 0)), none⟩,
  ⟨(some 33), .mv (.t 34) true, none⟩] [0, 1, 2, 10, 11, 12, 13, 14, 15, 32, 33]) (.cond (.t 33)
 (.reg [⟨(some 35), .mv (.t 11) true, none⟩,
  ⟨(some 36), .mkif 22 (.t 35), none⟩,
  ⟨(some 14), .mv (.t 36) true, none⟩] [12, 13, 14, 15])
 (.seq (.reg [⟨(some 38), .bin .eql .int (.t 32) (.c (.int .i64 1)), none⟩,
  ⟨(some 37), .mv (.t 38) true, none⟩] [0, 1, 2, 10, 11, 12, 13, 14, 15, 32, 37]) (.cond (.t 37)
 (.reg [⟨(some 39), .mv (.t 11) true, none⟩,
  ⟨(some 40), .mkif 90 (.t 39), none⟩,
  ⟨(some 14), .mv (.t 40) true, none⟩] [12, 13, 14, 15])
 (.seq (.seq (.reg [⟨(some 42), .bin .eql .int (.t 32) (.c (.int .i64 2)), none⟩,
  ⟨(some 41), .mv (.t 42) true, none⟩] [0, 1, 2, 10, 11, 12, 14, 15, 32, 41]) (.cond (.t 41)
 .skip
 (.reg [⟨(some 43), .bin .eql .int (.t 32) (.c (.int .i64 3)), none⟩,
  ⟨(some 41), .mv (.t 43) true, none⟩] [0, 1, 2, 10, 11, 12, 14, 15, 32, 41]))) (.cond (.t 41)
 (.seq (.seq (.reg [⟨(some 44), .mv (.t 11) false, none⟩,
  ⟨(some 45), .mv (.t 1) false, none⟩,
  ⟨(some 46), .len false (.t 45), none⟩,
  ⟨(some 47), .mv (.t 12) false, none⟩,
  ⟨(some 48), .bin .sub .int (.t 46) (.t 47), none⟩,
  ⟨(some 49), .conv (.i .u64) (.t 48), none⟩,
  ⟨(some 50), .bin .gtr .int (.t 44) (.t 49), none⟩] [1, 10, 11, 12, 50]) (.cond (.t 50)
 (.seq (.reg [⟨(some 6), .mv (.c .nili) false, none⟩,
  ⟨(some 7), .mv (.c (.int .i64 0)) false, none⟩,
  ⟨(some 8), .mv (.c (.int .i64 5)) false, none⟩] [6, 7, 8]) .ret)
 .skip)) (.seq (.reg [⟨(some 51), .mv (.t 11) true, none⟩,
  ⟨(some 52), .conv (.i .i64) (.t 51), none⟩,
  ⟨(some 15), .mv (.t 52) true, none⟩] [1, 10, 12, 15]) (.reg [⟨(some 54), .mv (.t 10) true, none⟩,
  ⟨(some 55), .mv (.t 1) true, none⟩,
  ⟨(some 56), .mv (.t 12) false, none⟩,
  ⟨(some 57), .mv (.t 12) false, none⟩,
  ⟨(some 58), .mv (.t 15) false, none⟩,
  ⟨(some 59), .bin .add .int (.t 57) (.t 58), none⟩,
  ⟨(some 60), .sl (.sl 1) (.t 55) (some (.t 56)) (some (.t 59)) none false, none⟩,
  ⟨(some 61), .callp f_item_text [(.t 54), (.t 60)] [], none⟩,
  ⟨(some 53), .mv (.t 61) true, none⟩,
  ⟨(some 62), .ext (.t 53) 0, none⟩,
  ⟨(some 63), .ext (.t 53) 1, none⟩,
  ⟨(some 14), .mv (.t 62) true, none⟩,
  ⟨(some 13), .mv (.t 63) true, none⟩] [12, 13, 14, 15])))
 (.seq (.reg [⟨(some 65), .bin .eql .int (.t 32) (.c (.int .i64 4)), none⟩,
  ⟨(some 64), .mv (.t 65) true, none⟩] [0, 1, 2, 11, 12, 14, 15, 32, 64]) (.cond (.t 64)
 (.reg [⟨(some 67), .mv (.t 0) true, none⟩,
  ⟨(some 68), .mv (.t 1) true, none⟩,
  ⟨(some 69), .mv (.t 12) false, none⟩,
  ⟨(some 70), .sl (.sl 1) (.t 68) (some (.t 69)) none none false, none⟩,
  ⟨(some 71), .mv (.t 11) true, none⟩,
  ⟨(some 72), .mv (.t 2) true, none⟩,
  ⟨(some 73), .callh f_item_counter_list [(.t 67), (.t 70), (.t 71), (.t 72)], none⟩,
  ⟨(some 66), .mv (.t 73) true, none⟩,
  ⟨(some 74), .ext (.t 66) 0, none⟩,
  ⟨(some 75), .ext (.t 66) 1, none⟩,
  ⟨(some 76), .ext (.t 66) 2, none⟩,
  ⟨(some 14), .mv (.t 74) true, none⟩,
  ⟨(some 15), .mv (.t 75) true, none⟩,
  ⟨(some 13), .mv (.t 76) true, none⟩] [12, 13, 14, 15])
 (.seq (.reg [⟨(some 78), .bin .eql .int (.t 32) (.c (.int .i64 7)), none⟩,
  ⟨(some 77), .mv (.t 78) true, none⟩] [11, 12, 14, 15, 77]) (.cond (.t 77)
 (.reg [⟨(some 80), .mv (.t 11) true, none⟩,
  ⟨(some 81), .callp f_item_other [(.t 80)] [], none⟩,
  ⟨(some 79), .mv (.t 81) true, none⟩,
  ⟨(some 82), .ext (.t 79) 0, none⟩,
  ⟨(some 83), .ext (.t 79) 1, none⟩,
  ⟨(some 14), .mv (.t 82) true, none⟩,
  ⟨(some 13), .mv (.t 83) true, none⟩] [12, 13, 14, 15])
 (.reg [⟨(some 13), .mv (.c (.int .i64 18)) false, none⟩] [12, 13, 14, 15]))))))))))))) (.seq (.seq (.reg [⟨(some 84), .mv (.t 13) false, none⟩,
  ⟨(some 85), .bin .neq .int (.t 84) (.c (.int .i64 0)), none⟩] [12, 13, 14, 15, 85]) (.cond (.t 85)
 (.seq (.reg [⟨(some 86), .mv (.t 13) true, none⟩,
  ⟨(some 6), .mv (.c .nili) false, none⟩,
  ⟨(some 7), .mv (.c (.int .i64 0)) false, none⟩,
  ⟨(some 8), .mv (.t 86) true, none⟩] [6, 7, 8]) .ret)
 .skip)) (.seq (.reg [⟨(some 87), .mv (.t 14) true, none⟩,
  ⟨(some 88), .mv (.t 12) true, none⟩,
  ⟨(some 89), .mv (.t 15) true, none⟩,
  ⟨(some 90), .bin .add .int (.t 88) (.t 89), none⟩,
  ⟨(some 6), .mv (.t 87) true, none⟩,
  ⟨(some 7), .mv (.t 90) true, none⟩,
  ⟨(some 8), .mv (.c (.int .i64 0)) false, none⟩] [6, 7, 8]) .ret)))))))))
def c_item_counter_read : AFunc := ⟨k_item_counter_read, 91, [.t 6, .t 7, .t 8], [], [], []⟩
-- 53: wagtail/item.Get

def k_item_Get : ACode := (.seq (.reg [⟨(some 2), .mv (.c .nili) false, none⟩,
  ⟨(some 3), .mv (.c (.int .i64 0)) false, none⟩,
  ⟨(some 4), .mv (.c (.int .i64 0)) false, none⟩] [0]) (.seq (.reg [⟨(some 5), .alloc [(.int .i64 0)], none⟩,
  ⟨(some 6), .mv (.t 0) true, none⟩,
  ⟨(some 7), .callh f_item_counter_read [(.t 5), (.t 6), (.c (.int .i64 0))], none⟩,
  ⟨(some 8), .ext (.t 7) 0, none⟩,
  ⟨(some 9), .ext (.t 7) 1, none⟩,
  ⟨(some 10), .ext (.t 7) 2, none⟩,
  ⟨(some 2), .mv (.t 8) true, none⟩,
  ⟨(some 3), .mv (.t 9) true, none⟩,
  ⟨(some 4), .mv (.t 10) true, none⟩] [2, 3, 4]) .ret))
def c_item_Get : AFunc := ⟨k_item_Get, 11, [.t 2, .t 3, .t 4], [], [], []⟩
-- 28: wagtail/item.Whole

def k_item_Whole : ACode := (.seq (.reg [⟨(some 2), .mv (.c .nili) false, none⟩,
  ⟨(some 3), .mv (.c (.int .i64 0)) false, none⟩] [0]) (.seq (.reg [⟨(some 8), .mv (.t 0) false, none⟩,
  ⟨(some 9), .callp f_item_Get [(.t 8)] [], none⟩,
  ⟨(some 7), .mv (.t 9) true, none⟩,
  ⟨(some 10), .ext (.t 7) 0, none⟩,
  ⟨(some 11), .ext (.t 7) 1, none⟩,
  ⟨(some 12), .ext (.t 7) 2, none⟩,
  ⟨(some 4), .mv (.t 10) true, none⟩,
  ⟨(some 5), .mv (.t 11) true, none⟩,
  ⟨(some 6), .mv (.t 12) true, none⟩] [0, 4, 5, 6]) (.seq (.block 0 (.seq (.reg [⟨(some 14), .mv (.t 6) false, none⟩,
  ⟨(some 15), .bin .neq .int (.t 14) (.c (.int .i64 0)), none⟩,
  ⟨(some 13), .mv (.t 15) true, none⟩] [0, 4, 5, 6, 13]) (.cond (.t 13)
 (.seq (.reg [⟨(some 16), .mv (.t 6) true, none⟩,
  ⟨(some 2), .mv (.c .nili) false, none⟩,
  ⟨(some 3), .mv (.t 16) true, none⟩] [2, 3]) .ret)
 (.seq (.reg [⟨(some 18), .mv (.t 5) true, none⟩,
  ⟨(some 19), .mv (.t 0) true, none⟩,
  ⟨(some 20), .len false (.t 19), none⟩,
  ⟨(some 21), .bin .neq .int (.t 18) (.t 20), none⟩,
  ⟨(some 17), .mv (.t 21) true, none⟩] [4, 17]) (.cond (.t 17)
 (.seq (.reg [⟨(some 2), .mv (.c .nili) false, none⟩,
  ⟨(some 3), .mv (.c (.int .i64 6)) false, none⟩] [2, 3]) .ret)
 .skip))))) (.seq (.reg [⟨(some 22), .mv (.t 4) true, none⟩,
  ⟨(some 2), .mv (.t 22) true, none⟩,
  ⟨(some 3), .mv (.c (.int .i64 0)) false, none⟩] [2, 3]) .ret))))
def c_item_Whole : AFunc := ⟨k_item_Whole, 23, [.t 2, .t 3], [], [], []⟩
-- 19: wagtail/item.At

def k_item_At : ACode := (.seq (.reg [⟨(some 4), .mv (.c .nili) false, none⟩] [0, 1]) (.seq (.seq (.reg [⟨(some 8), .mv (.t 0) true, none⟩,
  ⟨(some 9), .ta 36 (.ps 1 []) true (.t 8), none⟩,
  ⟨(some 7), .mv (.t 9) true, none⟩,
  ⟨(some 10), .ext (.t 7) 0, none⟩,
  ⟨(some 11), .ext (.t 7) 1, none⟩,
  ⟨(some 5), .mv (.t 10) true, none⟩,
  ⟨(some 6), .mv (.t 11) true, none⟩] [1, 5, 6]) (.seq (.reg [⟨(some 12), .mv (.t 6) true, none⟩,
  ⟨(some 13), .mv (.t 12) true, none⟩,
  ⟨(some 14), .mv (.t 1) false, (some (13, true))⟩,
  ⟨(some 15), .bin .geq .int (.t 14) (.c (.int .i64 0)), (some (13, true))⟩,
  ⟨(some 16), .pick (.t 13) (.t 15) (.c (.bool false)), none⟩,
  ⟨(some 17), .mv (.t 16) true, none⟩,
  ⟨(some 18), .mv (.t 1) false, (some (17, true))⟩,
  ⟨(some 19), .mv (.t 5) false, (some (17, true))⟩,
  ⟨(some 20), .len false (.t 19), (some (17, true))⟩,
  ⟨(some 21), .bin .lss .int (.t 18) (.t 20), (some (17, true))⟩,
  ⟨(some 22), .pick (.t 17) (.t 21) (.c (.bool false)), none⟩] [1, 5, 22]) (.cond (.t 22)
 (.seq (.reg [⟨(some 23), .mv (.t 5) true, none⟩,
  ⟨(some 24), .mv (.t 1) true, none⟩,
  ⟨(some 25), .ia (.sl 1) (.t 23) (.t 24), none⟩,
  ⟨(some 26), .load 0 (.t 25), none⟩,
  ⟨(some 4), .mv (.t 26) true, none⟩] [4]) .ret)
 .skip))) (.seq (.reg [⟨(some 4), .mv (.c .nili) false, none⟩] [4]) .ret)))
def c_item_At : AFunc := ⟨k_item_At, 27, [.t 4], [], [], []⟩
-- 16: wagtail/item.Text

def k_item_Text : ACode := (.seq (.reg [⟨(some 2), .mv (.c (.str [])) false, none⟩,
  ⟨(some 3), .mv (.c (.bool false)) false, none⟩] [0]) (.seq (.reg [⟨(some 7), .mv (.t 0) true, none⟩,
  ⟨(some 8), .ta 9 (.str []) true (.t 7), none⟩,
  ⟨(some 6), .mv (.t 8) true, none⟩,
  ⟨(some 9), .ext (.t 6) 0, none⟩,
  ⟨(some 10), .ext (.t 6) 1, none⟩,
  ⟨(some 4), .mv (.t 9) true, none⟩,
  ⟨(some 5), .mv (.t 10) true, none⟩] [4, 5]) (.seq (.reg [⟨(some 11), .mv (.t 4) true, none⟩,
  ⟨(some 12), .mv (.t 5) true, none⟩,
  ⟨(some 2), .mv (.t 11) true, none⟩,
  ⟨(some 3), .mv (.t 12) true, none⟩] [2, 3]) .ret)))
def c_item_Text : AFunc := ⟨k_item_Text, 13, [.t 2, .t 3], [], [], []⟩
-- 18: wagtail/item.Must

def k_item_Must : ACode := (.seq (.reg [⟨(some 4), .mv (.c (.int .u64 0)) false, none⟩] [0, 1]) (.seq (.reg [⟨(some 8), .mv (.t 0) true, none⟩,
  ⟨(some 9), .mv (.t 1) true, none⟩,
  ⟨(some 10), .callp f_item_At [(.t 8), (.t 9)] [], none⟩,
  ⟨(some 5), .mv (.t 10) true, none⟩] [5]) (.seq (.seq (.reg [⟨(some 12), .mv (.t 5) false, none⟩,
  ⟨(some 13), .ta 22 (.int .u64 0) true (.t 12), none⟩,
  ⟨(some 11), .mv (.t 13) true, none⟩,
  ⟨(some 14), .ext (.t 11) 0, none⟩,
  ⟨(some 15), .ext (.t 11) 1, none⟩,
  ⟨(some 6), .mv (.t 14) true, none⟩,
  ⟨(some 7), .mv (.t 15) true, none⟩] [5, 7]) (.seq (.reg [⟨(some 16), .mv (.t 7) true, none⟩,
  ⟨(some 17), .un .not (.t 16), none⟩] [5, 17]) (.cond (.t 17)
 (.seq (.reg [⟨(some 4), .mv (.c (.int .u64 0)) false, none⟩] [4]) .ret)
 .skip))) (.seq (.reg [⟨(some 18), .mv (.t 5) true, none⟩,
  ⟨(some 19), .ta 22 (.int .u64 0) false (.t 18), none⟩,
  ⟨(some 4), .mv (.t 19) true, none⟩] [4]) .ret))))
def c_item_Must : AFunc := ⟨k_item_Must, 20, [.t 4], [], [], []⟩
-- 87: wagtail/item.Count$1

def k_item_Count_1 : ACode := (.regd [⟨(some 3), .load 0 (.t 1), none⟩,
  ⟨(some 4), .mv (.t 0) false, none⟩,
  ⟨(some 5), .callp f_item_Count [(.t 4)] [], none⟩,
  ⟨(some 6), .mx true [(.t 5), (.c (.int .i64 1))], none⟩,
  ⟨(some 7), .bin .add .int (.t 3) (.t 6), none⟩,
  ⟨none, .store 1 (.t 1) (.t 7), none⟩] [] ([], []) [])
def c_item_Count_1 : AFunc := ⟨k_item_Count_1, 8, [], [], [], []⟩
-- 50: wagtail/item.Count
def bl_item_Count_0 : ACode := (.seq (.reg [⟨(some 19), .bin .lss .int (.t 18) (.t 17), none⟩] [3, 4, 16, 17, 18, 19]) (.seq (.cond (.t 19)
 .skip
 (.exit 0)) (.seq (.block 1 (.seq (.reg [⟨(some 20), .ia (.sl 1) (.t 16) (.t 18), none⟩,
  ⟨(some 21), .load 0 (.t 20), none⟩,
  ⟨(some 8), .mv (.t 21) true, none⟩] [3, 4, 8, 16, 17, 18]) (.reg [⟨(some 22), .mv (.t 4) false, none⟩,
  ⟨(some 23), .mv (.t 8) true, none⟩,
  ⟨(some 24), .callv (.t 22) [(.t 23)], none⟩] [3, 4, 16, 17, 18]))) (.reg [⟨(some 25), .bin .add .int (.t 18) (.c (.int .i64 1)), none⟩,
  ⟨(some 18), .mv (.t 25) true, none⟩] [3, 4, 16, 17, 18]))))
def l_item_Count_0 : ACode := .loop [3, 4, 16, 17, 18] [] bl_item_Count_0
theorem L_item_Count_0 {T : Table} (ks : List Kt) (e : Env) (h : Heap) (Q : Ex → Env → Heap → Prop) : Xc T l_item_Count_0 ks e h Q = Xc T bl_item_Count_0 (.seq l_item_Count_0 :: ks) (e.keep [3, 4, 16, 17, 18]) h Q := Xc_loop ks _ e h Q _ _
def k_item_Count : ACode := (.seq (.reg [⟨(some 2), .mv (.c (.int .i64 0)) false, none⟩] [0]) (.seq (.reg [⟨(some 3), .alloc [(.int .i64 0)], none⟩,
  ⟨none, .store 1 (.t 3) (.c (.int .i64 1)), none⟩] [0, 3]) (.seq (.reg [⟨(some 9), .mkfn f_item_Count_1 [(.t 3)], none⟩,
  ⟨(some 4), .mv (.t 9) true, none⟩] [0, 3, 4]) (.seq (.seq (.reg [⟨(some 11), .mv (.t 0) true, none⟩,
  ⟨(some 12), .ta 36 (.ps 1 []) true (.t 11), none⟩,
  ⟨(some 10), .mv (.t 12) true, none⟩,
  ⟨(some 13), .ext (.t 10) 0, none⟩,
  ⟨(some 14), .ext (.t 10) 1, none⟩,
  ⟨(some 5), .mv (.t 13) true, none⟩,
  ⟨(some 6), .mv (.t 14) true, none⟩] [3, 4, 5, 6]) (.seq (.reg [⟨(some 15), .mv (.t 6) true, none⟩] [3, 4, 5, 15]) (.cond (.t 15)
 (.seq (.reg [⟨(some 16), .mv (.t 5) true, none⟩,
  ⟨(some 17), .len false (.t 16), none⟩,
  ⟨(some 18), .mv (.c (.int .i64 0)) false, none⟩] [3, 4, 16, 17, 18]) (.block 0 l_item_Count_0))
 .skip))) (.seq (.reg [⟨(some 26), .load 0 (.t 3), none⟩,
  ⟨(some 2), .mv (.t 26) true, none⟩] [2]) .ret)))))
def c_item_Count : AFunc := ⟨k_item_Count, 27, [.t 2], [], [], []⟩
-- 12: wagtail/wagtaillaw06.awake

def k_law06_awake : ACode := (.seq (.reg [⟨(some 0), .mv (.c (.bool false)) false, none⟩] []) (.seq (.reg [⟨(some 8), .mkif 22 (.c (.int .u64 1)), none⟩,
  ⟨(some 9), .mkif 9 (.c (.str [104])), none⟩,
  ⟨(some 10), .bsl 1 [(.t 8), (.t 9)] false, none⟩,
  ⟨(some 11), .mkif 36 (.t 10), none⟩,
  ⟨(some 12), .callp f_item_Put [(.t 11)] [], none⟩,
  ⟨(some 7), .mv (.t 12) true, none⟩,
  ⟨(some 13), .ext (.t 7) 0, none⟩,
  ⟨(some 14), .ext (.t 7) 1, none⟩,
  ⟨(some 1), .mv (.t 13) true, none⟩,
  ⟨(some 2), .mv (.t 14) true, none⟩] [1, 2]) (.seq (.reg [⟨(some 16), .bsl 1 [(.c (.int .u8 130)), (.c (.int .u8 1)), (.c (.int .u8 97)), (.c (.int .u8 104))] false, none⟩,
  ⟨(some 17), .callp f_item_Whole [(.t 16)] [], none⟩,
  ⟨(some 15), .mv (.t 17) true, none⟩,
  ⟨(some 18), .ext (.t 15) 0, none⟩,
  ⟨(some 19), .ext (.t 15) 1, none⟩,
  ⟨(some 3), .mv (.t 18) true, none⟩,
  ⟨(some 4), .mv (.t 19) true, none⟩] [1, 2, 3, 4]) (.seq (.reg [⟨(some 21), .mv (.t 3) false, none⟩,
  ⟨(some 22), .callp f_item_At [(.t 21), (.c (.int .i64 1))] [], none⟩,
  ⟨(some 23), .callp f_item_Text [(.t 22)] [], none⟩,
  ⟨(some 20), .mv (.t 23) true, none⟩,
  ⟨(some 24), .ext (.t 20) 0, none⟩,
  ⟨(some 25), .ext (.t 20) 1, none⟩,
  ⟨(some 5), .mv (.t 24) true, none⟩,
  ⟨(some 6), .mv (.t 25) true, none⟩] [1, 2, 3, 4, 5, 6]) (.seq (.reg [⟨(some 26), .mv (.t 1) true, none⟩,
  ⟨(some 27), .conv .bs (.t 26), none⟩,
  ⟨(some 28), .bin .eql .str (.t 27) (.c (.str [130, 1, 97, 104])), none⟩,
  ⟨(some 29), .mv (.t 28) true, none⟩,
  ⟨(some 30), .mv (.t 2) true, (some (29, true))⟩,
  ⟨(some 31), .bin .eql .int (.t 30) (.c (.int .i64 0)), (some (29, true))⟩,
  ⟨(some 32), .pick (.t 29) (.t 31) (.c (.bool false)), none⟩,
  ⟨(some 33), .mv (.t 32) true, none⟩,
  ⟨(some 34), .mv (.t 4) true, (some (33, true))⟩,
  ⟨(some 35), .bin .eql .int (.t 34) (.c (.int .i64 0)), (some (33, true))⟩,
  ⟨(some 36), .pick (.t 33) (.t 35) (.c (.bool false)), none⟩,
  ⟨(some 37), .mv (.t 36) true, none⟩,
  ⟨(some 38), .mv (.t 3) false, (some (37, true))⟩,
  ⟨(some 39), .callp f_item_Must [(.t 38), (.c (.int .i64 0))] [], (some (37, true))⟩,
  ⟨(some 40), .bin .eql .int (.t 39) (.c (.int .u64 1)), (some (37, true))⟩,
  ⟨(some 41), .pick (.t 37) (.t 40) (.c (.bool false)), none⟩,
  ⟨(some 42), .mv (.t 41) true, none⟩,
  ⟨(some 43), .mv (.t 5) true, (some (42, true))⟩,
  ⟨(some 44), .bin .eql .str (.t 43) (.c (.str [104])), (some (42, true))⟩,
  ⟨(some 45), .pick (.t 42) (.t 44) (.c (.bool false)), none⟩,
  ⟨(some 46), .mv (.t 45) true, none⟩,
  ⟨(some 47), .mv (.t 6) true, (some (46, true))⟩,
  ⟨(some 48), .pick (.t 46) (.t 47) (.c (.bool false)), none⟩,
  ⟨(some 49), .mv (.t 48) true, none⟩,
  ⟨(some 50), .mv (.t 3) true, (some (49, true))⟩,
  ⟨(some 51), .callp f_item_Count [(.t 50)] [], (some (49, true))⟩,
  ⟨(some 52), .bin .eql .int (.t 51) (.c (.int .i64 3)), (some (49, true))⟩,
  ⟨(some 53), .pick (.t 49) (.t 52) (.c (.bool false)), none⟩,
  ⟨(some 0), .mv (.t 53) true, none⟩] [0]) .ret)))))
def c_law06_awake : AFunc := ⟨k_law06_awake, 54, [.t 0], [], [], []⟩
-- 13: wagtail/wagtaillaw06.Any
def bl_law06_Any_0 : ACode := (.seq (.seq (.reg [⟨(some 31), .mv (.t 4) false, none⟩,
  ⟨(some 32), .fa 3 (.t 1), none⟩,
  ⟨(some 33), .load 0 (.t 32), none⟩,
  ⟨(some 34), .len false (.t 33), none⟩,
  ⟨(some 35), .bin .lss .int (.t 31) (.t 34), none⟩] [1, 3, 4, 35]) (.cond (.t 35)
 .skip
 (.exit 1))) (.seq (.block 2 (.reg [⟨(some 38), .mv (.t 3) true, none⟩,
  ⟨(some 39), .fa 3 (.t 1), none⟩,
  ⟨(some 40), .load 0 (.t 39), none⟩,
  ⟨(some 41), .mv (.t 4) false, none⟩,
  ⟨(some 42), .ia (.sl 4) (.t 40) (.t 41), none⟩,
  ⟨(some 43), .load 4 (.t 42), none⟩,
  ⟨(some 44), .callp f_law06_Any [(.t 43)] [], none⟩,
  ⟨(some 45), .bsl 1 [(.t 44)] false, none⟩,
  ⟨(some 46), .app 1 16 (.t 38) (.t 45), none⟩,
  ⟨(some 3), .mv (.t 46) true, none⟩] [1, 3, 4])) (.reg [⟨(some 36), .mv (.t 4) true, none⟩,
  ⟨(some 37), .bin .add .int (.t 36) (.c (.int .i64 1)), none⟩,
  ⟨(some 4), .mv (.t 37) true, none⟩] [1, 3, 4])))
def l_law06_Any_0 : ACode := .loop [1, 3, 4] [(3, 0)] bl_law06_Any_0
theorem L_law06_Any_0 {T : Table} (ks : List Kt) (e : Env) (h : Heap) (Q : Ex → Env → Heap → Prop) : Xc T l_law06_Any_0 ks e h Q = Xc T bl_law06_Any_0 (.seq l_law06_Any_0 :: ks) (e.keep [1, 3, 4]) h Q := Xc_loop ks _ e h Q _ _
def k_law06_Any : ACode := (.seq (.reg [⟨(some 1), .box (.t 0), none⟩,
  ⟨(some 2), .mv (.c .nili) false, none⟩] [1]) (.seq (.seq (.reg [⟨(some 5), .fa 0 (.t 1), none⟩,
  ⟨(some 6), .load 0 (.t 5), none⟩] [1, 6]) (.block 0 (.seq (.reg [⟨(some 8), .bin .eql .int (.t 6) (.c (.int .i64 0)), none⟩,
  ⟨(some 7), .mv (.t 8) true, none⟩] [1, 6, 7]) (.cond (.t 7)
 (.seq (.reg [⟨(some 9), .fa 1 (.t 1), none⟩,
  ⟨(some 10), .load 0 (.t 9), none⟩,
  ⟨(some 11), .mkif 22 (.t 10), none⟩,
  ⟨(some 2), .mv (.t 11) true, none⟩] [2]) .ret)
 (.seq (.reg [⟨(some 13), .bin .eql .int (.t 6) (.c (.int .i64 1)), none⟩,
  ⟨(some 12), .mv (.t 13) true, none⟩] [1, 6, 12]) (.cond (.t 12)
 (.seq (.reg [⟨(some 14), .fa 1 (.t 1), none⟩,
  ⟨(some 15), .load 0 (.t 14), none⟩,
  ⟨(some 16), .mkif 90 (.t 15), none⟩,
  ⟨(some 2), .mv (.t 16) true, none⟩] [2]) .ret)
 (.seq (.reg [⟨(some 18), .bin .eql .int (.t 6) (.c (.int .i64 2)), none⟩,
  ⟨(some 17), .mv (.t 18) true, none⟩] [1, 6, 17]) (.cond (.t 17)
 (.seq (.reg [⟨(some 19), .fa 2 (.t 1), none⟩,
  ⟨(some 20), .load 0 (.t 19), none⟩,
  ⟨(some 21), .conv .sb (.t 20), none⟩,
  ⟨(some 22), .mkif 31 (.t 21), none⟩,
  ⟨(some 2), .mv (.t 22) true, none⟩] [2]) .ret)
 (.seq (.reg [⟨(some 24), .bin .eql .int (.t 6) (.c (.int .i64 3)), none⟩,
  ⟨(some 23), .mv (.t 24) true, none⟩] [1, 6, 23]) (.cond (.t 23)
 (.seq (.reg [⟨(some 25), .fa 2 (.t 1), none⟩,
  ⟨(some 26), .load 0 (.t 25), none⟩,
  ⟨(some 27), .mkif 9 (.t 26), none⟩,
  ⟨(some 2), .mv (.t 27) true, none⟩] [2]) .ret)
 (.seq (.reg [⟨(some 29), .bin .eql .int (.t 6) (.c (.int .i64 4)), none⟩,
  ⟨(some 28), .mv (.t 29) true, none⟩] [1, 6, 28]) (.cond (.t 28)
 (.seq (.reg [⟨(some 30), .bsl 1 [] false, none⟩,
  ⟨(some 3), .mv (.t 30) true, none⟩] [1, 3]) (.seq (.seq (.reg [⟨(some 4), .mv (.c (.int .i64 0)) false, none⟩] [1, 3, 4]) (.block 1 l_law06_Any_0)) (.seq (.reg [⟨(some 47), .mv (.t 3) true, none⟩,
  ⟨(some 48), .mkif 36 (.t 47), none⟩,
  ⟨(some 2), .mv (.t 48) true, none⟩] [2]) .ret)))
 (.seq (.reg [⟨(some 50), .bin .eql .int (.t 6) (.c (.int .i64 5)), none⟩,
  ⟨(some 49), .mv (.t 50) true, none⟩] [6, 49]) (.cond (.t 49)
 (.seq (.reg [⟨(some 51), .mkif 4 (.c (.bool false)), none⟩,
  ⟨(some 2), .mv (.t 51) true, none⟩] [2]) .ret)
 (.seq (.reg [⟨(some 53), .bin .eql .int (.t 6) (.c (.int .i64 6)), none⟩,
  ⟨(some 52), .mv (.t 53) true, none⟩] [52]) (.cond (.t 52)
 (.seq (.reg [⟨(some 54), .mkif 4 (.c (.bool true)), none⟩,
  ⟨(some 2), .mv (.t 54) true, none⟩] [2]) .ret)
 .skip)))))))))))))))) (.seq (.reg [⟨(some 2), .mv (.c .nili) false, none⟩] [2]) .ret)))
def c_law06_Any : AFunc := ⟨k_law06_Any, 55, [.t 2], [], [], []⟩
-- 14: wagtail/item.Uint

def k_item_Uint : ACode := (.seq (.reg [⟨(some 2), .mv (.c (.int .u64 0)) false, none⟩,
  ⟨(some 3), .mv (.c (.bool false)) false, none⟩] [0]) (.seq (.reg [⟨(some 7), .mv (.t 0) true, none⟩,
  ⟨(some 8), .ta 22 (.int .u64 0) true (.t 7), none⟩,
  ⟨(some 6), .mv (.t 8) true, none⟩,
  ⟨(some 9), .ext (.t 6) 0, none⟩,
  ⟨(some 10), .ext (.t 6) 1, none⟩,
  ⟨(some 4), .mv (.t 9) true, none⟩,
  ⟨(some 5), .mv (.t 10) true, none⟩] [4, 5]) (.seq (.reg [⟨(some 11), .mv (.t 4) true, none⟩,
  ⟨(some 12), .mv (.t 5) true, none⟩,
  ⟨(some 2), .mv (.t 11) true, none⟩,
  ⟨(some 3), .mv (.t 12) true, none⟩] [2, 3]) .ret)))
def c_item_Uint : AFunc := ⟨k_item_Uint, 13, [.t 2, .t 3], [], [], []⟩
-- 15: wagtail/item.Bytes

def k_item_Bytes : ACode := (.seq (.reg [⟨(some 2), .mv (.c (.ps 1 [])) false, none⟩,
  ⟨(some 3), .mv (.c (.bool false)) false, none⟩] [0]) (.seq (.reg [⟨(some 7), .mv (.t 0) true, none⟩,
  ⟨(some 8), .ta 31 (.ps 1 []) true (.t 7), none⟩,
  ⟨(some 6), .mv (.t 8) true, none⟩,
  ⟨(some 9), .ext (.t 6) 0, none⟩,
  ⟨(some 10), .ext (.t 6) 1, none⟩,
  ⟨(some 4), .mv (.t 9) true, none⟩,
  ⟨(some 5), .mv (.t 10) true, none⟩] [4, 5]) (.seq (.reg [⟨(some 11), .mv (.t 4) true, none⟩,
  ⟨(some 12), .app 1 1 (.c (.ps 1 [])) (.t 11), none⟩,
  ⟨(some 13), .mv (.t 5) true, none⟩,
  ⟨(some 2), .mv (.t 12) true, none⟩,
  ⟨(some 3), .mv (.t 13) true, none⟩] [2, 3]) .ret)))
def c_item_Bytes : AFunc := ⟨k_item_Bytes, 14, [.t 2, .t 3], [], [1], []⟩
-- 17: wagtail/item.List

def k_item_List : ACode := (.seq (.reg [⟨(some 2), .mv (.c (.ps 1 [])) false, none⟩,
  ⟨(some 3), .mv (.c (.bool false)) false, none⟩] [0]) (.seq (.reg [⟨(some 7), .mv (.t 0) true, none⟩,
  ⟨(some 8), .ta 36 (.ps 1 []) true (.t 7), none⟩,
  ⟨(some 6), .mv (.t 8) true, none⟩,
  ⟨(some 9), .ext (.t 6) 0, none⟩,
  ⟨(some 10), .ext (.t 6) 1, none⟩,
  ⟨(some 4), .mv (.t 9) true, none⟩,
  ⟨(some 5), .mv (.t 10) true, none⟩] [4, 5]) (.seq (.reg [⟨(some 11), .mv (.t 4) true, none⟩,
  ⟨(some 12), .app 1 16 (.c (.ps 1 [])) (.t 11), none⟩,
  ⟨(some 13), .mv (.t 5) true, none⟩,
  ⟨(some 2), .mv (.t 12) true, none⟩,
  ⟨(some 3), .mv (.t 13) true, none⟩] [2, 3]) .ret)))
def c_item_List : AFunc := ⟨k_item_List, 14, [.t 2, .t 3], [], [1], []⟩
-- 112: wagtail/wagtailref04.Size
def bl_ref04_Size_0 : ACode := (.seq (.seq (.reg [⟨(some 46), .mv (.t 7) false, none⟩,
  ⟨(some 47), .mv (.t 4) false, none⟩,
  ⟨(some 48), .bin .lss .int (.t 46) (.t 47), none⟩] [0, 4, 5, 6, 7, 48]) (.cond (.t 48)
 .skip
 (.exit 0))) (.seq (.block 1 (.seq (.reg [⟨(some 51), .mv (.t 0) false, none⟩,
  ⟨(some 52), .mv (.t 7) false, none⟩,
  ⟨(some 53), .idx .str 0 (.t 51) (.t 52), none⟩,
  ⟨(some 54), .conv (.i .i64) (.t 53), none⟩,
  ⟨(some 8), .mv (.t 54) true, none⟩] [0, 4, 5, 6, 7, 8]) (.seq (.seq (.reg [⟨(some 55), .mv (.t 8) false, none⟩,
  ⟨(some 56), .bin .lss .int (.t 55) (.c (.int .i64 128)), none⟩,
  ⟨(some 57), .mv (.t 56) true, none⟩,
  ⟨(some 58), .mv (.t 8) false, (some (57, false))⟩,
  ⟨(some 59), .bin .geq .int (.t 58) (.c (.int .i64 192)), (some (57, false))⟩,
  ⟨(some 60), .pick (.t 57) (.c (.bool true)) (.t 59), none⟩] [0, 4, 5, 6, 7, 8, 60]) (.cond (.t 60)
 (.seq (.reg [⟨(some 2), .mv (.c (.int .i64 0)) false, none⟩] [2]) .ret)
 .skip)) (.reg [⟨(some 61), .mv (.t 6) true, none⟩,
  ⟨(some 62), .bin .mul .int (.c (.int .i64 64)) (.t 61), none⟩,
  ⟨(some 63), .mv (.t 8) true, none⟩,
  ⟨(some 64), .bin .add .int (.t 62) (.t 63), none⟩,
  ⟨(some 65), .bin .sub .int (.t 64) (.c (.int .i64 128)), none⟩,
  ⟨(some 6), .mv (.t 65) true, none⟩] [0, 4, 5, 6, 7])))) (.reg [⟨(some 49), .mv (.t 7) true, none⟩,
  ⟨(some 50), .bin .add .int (.t 49) (.c (.int .i64 1)), none⟩,
  ⟨(some 7), .mv (.t 50) true, none⟩] [0, 4, 5, 6, 7])))
def l_ref04_Size_0 : ACode := .loop [0, 4, 5, 6, 7] [] bl_ref04_Size_0
theorem L_ref04_Size_0 {T : Table} (ks : List Kt) (e : Env) (h : Heap) (Q : Ex → Env → Heap → Prop) : Xc T l_ref04_Size_0 ks e h Q = Xc T bl_ref04_Size_0 (.seq l_ref04_Size_0 :: ks) (e.keep [0, 4, 5, 6, 7]) h Q := Xc_loop ks _ e h Q _ _
def k_ref04_Size : ACode := (.seq (.reg [⟨(some 2), .mv (.c (.int .i64 0)) false, none⟩] [0]) (.seq (.reg [⟨(some 9), .mv (.t 0) false, none⟩,
  ⟨(some 10), .idx .str 0 (.t 9) (.c (.int .i64 0)), none⟩,
  ⟨(some 11), .conv (.i .i64) (.t 10), none⟩,
  ⟨(some 3), .mv (.t 11) true, none⟩] [0, 3]) (.seq (.reg [⟨(some 4), .mv (.c (.int .i64 0)) false, none⟩] [0, 3, 4]) (.seq (.reg [⟨(some 5), .mv (.c (.int .i64 0)) false, none⟩] [0, 3, 4, 5]) (.seq (.reg [⟨(some 6), .mv (.c (.int .i64 0)) false, none⟩] [0, 3, 4, 5, 6]) (.seq (.seq (.reg [⟨(some 12), .mv (.t 3) false, none⟩,
  ⟨(some 13), .bin .lss .int (.t 12) (.c (.int .i64 128)), none⟩] [0, 3, 4, 5, 6, 13]) (.cond (.t 13)
 (.seq (.reg [⟨(some 2), .mv (.c (.int .i64 1)) false, none⟩] [2]) .ret)
 .skip)) (.seq (.seq (.reg [⟨(some 14), .mv (.t 3) false, none⟩,
  ⟨(some 15), .bin .geq .int (.t 14) (.c (.int .i64 192)), none⟩,
  ⟨(some 16), .mv (.t 15) true, none⟩,
  ⟨(some 17), .mv (.t 3) false, (some (16, true))⟩,
  ⟨(some 18), .bin .lss .int (.t 17) (.c (.int .i64 224)), (some (16, true))⟩,
  ⟨(some 19), .pick (.t 16) (.t 18) (.c (.bool false)), none⟩] [0, 3, 4, 5, 6, 19]) (.cond (.t 19)
 (.seq (.reg [⟨(some 4), .mv (.c (.int .i64 2)) false, none⟩] [0, 3, 4]) (.seq (.reg [⟨(some 5), .mv (.c (.int .i64 128)) false, none⟩] [0, 3, 4, 5]) (.reg [⟨(some 20), .mv (.t 3) true, none⟩,
  ⟨(some 21), .bin .sub .int (.t 20) (.c (.int .i64 192)), none⟩,
  ⟨(some 6), .mv (.t 21) true, none⟩] [0, 4, 5, 6])))
 (.seq (.reg [⟨(some 22), .mv (.t 3) false, none⟩,
  ⟨(some 23), .bin .geq .int (.t 22) (.c (.int .i64 224)), none⟩,
  ⟨(some 24), .mv (.t 23) true, none⟩,
  ⟨(some 25), .mv (.t 3) false, (some (24, true))⟩,
  ⟨(some 26), .bin .lss .int (.t 25) (.c (.int .i64 240)), (some (24, true))⟩,
  ⟨(some 27), .pick (.t 24) (.t 26) (.c (.bool false)), none⟩] [0, 3, 4, 5, 6, 27]) (.cond (.t 27)
 (.seq (.reg [⟨(some 4), .mv (.c (.int .i64 3)) false, none⟩] [0, 3, 4]) (.seq (.reg [⟨(some 5), .mv (.c (.int .i64 2048)) false, none⟩] [0, 3, 4, 5]) (.reg [⟨(some 28), .mv (.t 3) true, none⟩,
  ⟨(some 29), .bin .sub .int (.t 28) (.c (.int .i64 224)), none⟩,
  ⟨(some 6), .mv (.t 29) true, none⟩] [0, 4, 5, 6])))
 (.seq (.reg [⟨(some 30), .mv (.t 3) false, none⟩,
  ⟨(some 31), .bin .geq .int (.t 30) (.c (.int .i64 240)), none⟩,
  ⟨(some 32), .mv (.t 31) true, none⟩,
  ⟨(some 33), .mv (.t 3) false, (some (32, true))⟩,
  ⟨(some 34), .bin .lss .int (.t 33) (.c (.int .i64 248)), (some (32, true))⟩,
  ⟨(some 35), .pick (.t 32) (.t 34) (.c (.bool false)), none⟩] [0, 3, 4, 5, 6, 35]) (.cond (.t 35)
 (.seq (.reg [⟨(some 4), .mv (.c (.int .i64 4)) false, none⟩] [0, 3, 4]) (.seq (.reg [⟨(some 5), .mv (.c (.int .i64 65536)) false, none⟩] [0, 3, 4, 5]) (.reg [⟨(some 36), .mv (.t 3) true, none⟩,
  ⟨(some 37), .bin .sub .int (.t 36) (.c (.int .i64 240)), none⟩,
  ⟨(some 6), .mv (.t 37) true, none⟩] [0, 4, 5, 6])))
 .skip)))))) (.seq (.seq (.reg [⟨(some 38), .mv (.t 4) false, none⟩,
  ⟨(some 39), .bin .eql .int (.t 38) (.c (.int .i64 0)), none⟩,
  ⟨(some 40), .mv (.t 39) true, none⟩,
  ⟨(some 41), .mv (.t 0) false, (some (40, false))⟩,
  ⟨(some 42), .len true (.t 41), (some (40, false))⟩,
  ⟨(some 43), .mv (.t 4) false, (some (40, false))⟩,
  ⟨(some 44), .bin .lss .int (.t 42) (.t 43), (some (40, false))⟩,
  ⟨(some 45), .pick (.t 40) (.c (.bool true)) (.t 44), none⟩] [0, 4, 5, 6, 45]) (.cond (.t 45)
 (.seq (.reg [⟨(some 2), .mv (.c (.int .i64 0)) false, none⟩] [2]) .ret)
 .skip)) (.seq (.seq (.reg [⟨(some 7), .mv (.c (.int .i64 1)) false, none⟩] [0, 4, 5, 6, 7]) (.block 0 l_ref04_Size_0)) (.seq (.seq (.reg [⟨(some 66), .mv (.t 6) false, none⟩,
  ⟨(some 67), .mv (.t 5) true, none⟩,
  ⟨(some 68), .bin .lss .int (.t 66) (.t 67), none⟩,
  ⟨(some 69), .mv (.t 68) true, none⟩,
  ⟨(some 70), .mv (.t 6) false, (some (69, false))⟩,
  ⟨(some 71), .bin .gtr .int (.t 70) (.c (.int .i64 1114111)), (some (69, false))⟩,
  ⟨(some 72), .pick (.t 69) (.c (.bool true)) (.t 71), none⟩,
  ⟨(some 73), .mv (.t 72) true, none⟩,
  ⟨(some 74), .mv (.t 6) false, (some (73, false))⟩,
  ⟨(some 75), .bin .geq .int (.t 74) (.c (.int .i64 55296)), (some (73, false))⟩,
  ⟨(some 76), .mv (.t 75) true, (some (73, false))⟩,
  ⟨(some 77), .mv (.t 6) true, (some (76, true))⟩,
  ⟨(some 78), .bin .lss .int (.t 77) (.c (.int .i64 57344)), (some (76, true))⟩,
  ⟨(some 79), .pick (.t 76) (.t 78) (.c (.bool false)), (some (73, false))⟩,
  ⟨(some 80), .pick (.t 73) (.c (.bool true)) (.t 79), none⟩] [4, 80]) (.cond (.t 80)
 (.seq (.reg [⟨(some 2), .mv (.c (.int .i64 0)) false, none⟩] [2]) .ret)
 .skip)) (.seq (.reg [⟨(some 81), .mv (.t 4) true, none⟩,
  ⟨(some 2), .mv (.t 81) true, none⟩] [2]) .ret)))))))))))
def c_ref04_Size : AFunc := ⟨k_ref04_Size, 82, [.t 2], [], [], []⟩
-- 88: wagtail/wagtailref04.Parts
def bl_ref04_Parts_0 : ACode := (.seq (.seq (.reg [⟨(some 6), .mv (.t 4) false, none⟩,
  ⟨(some 7), .mv (.t 0) false, none⟩,
  ⟨(some 8), .len true (.t 7), none⟩,
  ⟨(some 9), .bin .lss .int (.t 6) (.t 8), none⟩] [0, 3, 4, 9]) (.cond (.t 9)
 .skip
 (.exit 0))) (.block 1 (.seq (.reg [⟨(some 10), .mv (.t 0) false, none⟩,
  ⟨(some 11), .mv (.t 4) false, none⟩,
  ⟨(some 12), .sl .str (.t 10) (some (.t 11)) none none false, none⟩,
  ⟨(some 13), .callp f_ref04_Size [(.t 12)] [], none⟩,
  ⟨(some 5), .mv (.t 13) true, none⟩] [0, 3, 4, 5]) (.seq (.seq (.reg [⟨(some 14), .mv (.t 5) false, none⟩,
  ⟨(some 15), .bin .eql .int (.t 14) (.c (.int .i64 0)), none⟩] [0, 3, 4, 5, 15]) (.cond (.t 15)
 (.reg [⟨(some 5), .mv (.c (.int .i64 1)) false, none⟩] [0, 3, 4, 5])
 .skip)) (.seq (.reg [⟨(some 16), .mv (.t 3) true, none⟩,
  ⟨(some 17), .mv (.t 0) false, none⟩,
  ⟨(some 18), .mv (.t 4) false, none⟩,
  ⟨(some 19), .mv (.t 4) false, none⟩,
  ⟨(some 20), .mv (.t 5) false, none⟩,
  ⟨(some 21), .bin .add .int (.t 19) (.t 20), none⟩,
  ⟨(some 22), .sl .str (.t 17) (some (.t 18)) (some (.t 21)) none false, none⟩,
  ⟨(some 23), .bsl 1 [(.t 22)] false, none⟩,
  ⟨(some 24), .app 1 16 (.t 16) (.t 23), none⟩,
  ⟨(some 3), .mv (.t 24) true, none⟩] [0, 3, 4, 5]) (.reg [⟨(some 25), .mv (.t 4) true, none⟩,
  ⟨(some 26), .mv (.t 5) true, none⟩,
  ⟨(some 27), .bin .add .int (.t 25) (.t 26), none⟩,
  ⟨(some 4), .mv (.t 27) true, none⟩] [0, 3, 4]))))))
def l_ref04_Parts_0 : ACode := .loop [0, 3, 4] [(3, 0)] bl_ref04_Parts_0
theorem L_ref04_Parts_0 {T : Table} (ks : List Kt) (e : Env) (h : Heap) (Q : Ex → Env → Heap → Prop) : Xc T l_ref04_Parts_0 ks e h Q = Xc T bl_ref04_Parts_0 (.seq l_ref04_Parts_0 :: ks) (e.keep [0, 3, 4]) h Q := Xc_loop ks _ e h Q _ _
def k_ref04_Parts : ACode := (.seq (.reg [⟨(some 2), .mv (.c (.ps 1 [])) false, none⟩] [0]) (.seq (.reg [⟨(some 3), .mv (.c (.ps 1 [])) false, none⟩] [0, 3]) (.seq (.seq (.reg [⟨(some 4), .mv (.c (.int .i64 0)) false, none⟩] [0, 3, 4]) (.block 0 l_ref04_Parts_0)) (.seq (.reg [⟨(some 28), .mv (.t 3) true, none⟩,
  ⟨(some 2), .mv (.t 28) true, none⟩] [2]) .ret))))
def c_ref04_Parts : AFunc := ⟨k_ref04_Parts, 29, [.t 2], [], [0], []⟩
-- 89: wagtail/wagtailref04.Value

def k_ref04_Value : ACode := (.seq (.reg [⟨(some 2), .mv (.c (.int .i64 0)) false, none⟩] [0]) (.seq (.reg [⟨(some 4), .mv (.t 0) false, none⟩,
  ⟨(some 5), .idx .str 0 (.t 4) (.c (.int .i64 0)), none⟩,
  ⟨(some 6), .conv (.i .i64) (.t 5), none⟩,
  ⟨(some 3), .mv (.t 6) true, none⟩] [0, 3]) (.seq (.seq (.reg [⟨(some 7), .mv (.t 0) false, none⟩,
  ⟨(some 8), .callp f_ref04_Size [(.t 7)] [], none⟩] [0, 3, 8]) (.block 0 (.seq (.reg [⟨(some 10), .bin .eql .int (.t 8) (.c (.int .i64 1)), none⟩,
  ⟨(some 9), .mv (.t 10) true, none⟩] [0, 3, 8, 9]) (.cond (.t 9)
 (.seq (.reg [⟨(some 11), .mv (.t 3) true, none⟩,
  ⟨(some 2), .mv (.t 11) true, none⟩] [2]) .ret)
 (.seq (.reg [⟨(some 13), .bin .eql .int (.t 8) (.c (.int .i64 2)), none⟩,
  ⟨(some 12), .mv (.t 13) true, none⟩] [0, 3, 8, 12]) (.cond (.t 12)
 (.seq (.reg [⟨(some 14), .mv (.t 3) true, none⟩,
  ⟨(some 15), .bin .sub .int (.t 14) (.c (.int .i64 192)), none⟩,
  ⟨(some 16), .bin .mul .int (.c (.int .i64 64)) (.t 15), none⟩,
  ⟨(some 17), .mv (.t 0) true, none⟩,
  ⟨(some 18), .idx .str 0 (.t 17) (.c (.int .i64 1)), none⟩,
  ⟨(some 19), .conv (.i .i64) (.t 18), none⟩,
  ⟨(some 20), .bin .add .int (.t 16) (.t 19), none⟩,
  ⟨(some 21), .bin .sub .int (.t 20) (.c (.int .i64 128)), none⟩,
  ⟨(some 2), .mv (.t 21) true, none⟩] [2]) .ret)
 (.seq (.reg [⟨(some 23), .bin .eql .int (.t 8) (.c (.int .i64 3)), none⟩,
  ⟨(some 22), .mv (.t 23) true, none⟩] [0, 3, 8, 22]) (.cond (.t 22)
 (.seq (.regd [⟨(some 24), .mv (.t 3) false, none⟩,
  ⟨(some 25), .bin .sub .int (.t 24) (.c (.int .i64 224)), none⟩,
  ⟨(some 26), .bin .mul .int (.c (.int .i64 4096)) (.t 25), none⟩,
  ⟨(some 27), .mv (.t 0) false, none⟩,
  ⟨(some 28), .idx .str 0 (.t 27) (.c (.int .i64 1)), none⟩,
  ⟨(some 29), .conv (.i .i64) (.t 28), none⟩,
  ⟨(some 30), .bin .sub .int (.t 29) (.c (.int .i64 128)), none⟩,
  ⟨(some 31), .bin .mul .int (.c (.int .i64 64)) (.t 30), none⟩,
  ⟨(some 32), .bin .add .int (.t 26) (.t 31), none⟩,
  ⟨(some 33), .mv (.t 0) false, none⟩,
  ⟨(some 34), .idx .str 0 (.t 33) (.c (.int .i64 2)), none⟩,
  ⟨(some 35), .conv (.i .i64) (.t 34), none⟩,
  ⟨(some 36), .bin .add .int (.t 32) (.t 35), none⟩,
  ⟨(some 37), .bin .sub .int (.t 36) (.c (.int .i64 128)), none⟩,
  ⟨(some 2), .mv (.t 37) false, none⟩] [2] ([], []) []) .ret)
 (.seq (.reg [⟨(some 39), .bin .eql .int (.t 8) (.c (.int .i64 4)), none⟩,
  ⟨(some 38), .mv (.t 39) true, none⟩] [0, 3, 38]) (.cond (.t 38)
 (.seq (.regd [⟨(some 40), .mv (.t 3) false, none⟩,
  ⟨(some 41), .bin .sub .int (.t 40) (.c (.int .i64 240)), none⟩,
  ⟨(some 42), .bin .mul .int (.c (.int .i64 262144)) (.t 41), none⟩,
  ⟨(some 43), .mv (.t 0) false, none⟩,
  ⟨(some 44), .idx .str 0 (.t 43) (.c (.int .i64 1)), none⟩,
  ⟨(some 45), .conv (.i .i64) (.t 44), none⟩,
  ⟨(some 46), .bin .sub .int (.t 45) (.c (.int .i64 128)), none⟩,
  ⟨(some 47), .bin .mul .int (.c (.int .i64 4096)) (.t 46), none⟩,
  ⟨(some 48), .bin .add .int (.t 42) (.t 47), none⟩,
  ⟨(some 49), .mv (.t 0) false, none⟩,
  ⟨(some 50), .idx .str 0 (.t 49) (.c (.int .i64 2)), none⟩,
  ⟨(some 51), .conv (.i .i64) (.t 50), none⟩,
  ⟨(some 52), .bin .sub .int (.t 51) (.c (.int .i64 128)), none⟩,
  ⟨(some 53), .bin .mul .int (.c (.int .i64 64)) (.t 52), none⟩,
  ⟨(some 54), .bin .add .int (.t 48) (.t 53), none⟩,
  ⟨(some 55), .mv (.t 0) false, none⟩,
  ⟨(some 56), .idx .str 0 (.t 55) (.c (.int .i64 3)), none⟩,
  ⟨(some 57), .conv (.i .i64) (.t 56), none⟩,
  ⟨(some 58), .bin .add .int (.t 54) (.t 57), none⟩,
  ⟨(some 59), .bin .sub .int (.t 58) (.c (.int .i64 128)), none⟩,
  ⟨(some 2), .mv (.t 59) false, none⟩] [2] ([], []) []) .ret)
 .skip)))))))))) (.seq (.reg [⟨(some 2), .mv (.c (.int .i64 (-1))) false, none⟩] [2]) .ret))))
def c_ref04_Value : AFunc := ⟨k_ref04_Value, 60, [.t 2], [], [], []⟩
-- 51: wagtail/wagtailref06.right
def bl_ref06_right_0 : ACode := (.seq (.seq (.reg [⟨(some 7), .mv (.t 4) false, none⟩,
  ⟨(some 8), .mv (.t 3) false, none⟩,
  ⟨(some 9), .len false (.t 8), none⟩,
  ⟨(some 10), .bin .lss .int (.t 7) (.t 9), none⟩] [3, 4, 10]) (.cond (.t 10)
 .skip
 (.exit 0))) (.seq (.block 1 (.seq (.reg [⟨(some 13), .mv (.t 3) false, none⟩,
  ⟨(some 14), .mv (.t 4) false, none⟩,
  ⟨(some 15), .ia (.sl 1) (.t 13) (.t 14), none⟩,
  ⟨(some 16), .load 0 (.t 15), none⟩,
  ⟨(some 17), .callp f_ref04_Value [(.t 16)] [], none⟩,
  ⟨(some 18), .bin .lss .int (.t 17) (.c (.int .i64 0)), none⟩] [3, 4, 18]) (.cond (.t 18)
 (.seq (.reg [⟨(some 2), .mv (.c (.bool false)) false, none⟩] [2]) .ret)
 .skip))) (.reg [⟨(some 11), .mv (.t 4) true, none⟩,
  ⟨(some 12), .bin .add .int (.t 11) (.c (.int .i64 1)), none⟩,
  ⟨(some 4), .mv (.t 12) true, none⟩] [3, 4])))
def l_ref06_right_0 : ACode := .loop [3, 4] [(3, 0)] bl_ref06_right_0
theorem L_ref06_right_0 {T : Table} (ks : List Kt) (e : Env) (h : Heap) (Q : Ex → Env → Heap → Prop) : Xc T l_ref06_right_0 ks e h Q = Xc T bl_ref06_right_0 (.seq l_ref06_right_0 :: ks) (e.keep [3, 4]) h Q := Xc_loop ks _ e h Q _ _
def k_ref06_right : ACode := (.seq (.reg [⟨(some 2), .mv (.c (.bool false)) false, none⟩] [0]) (.seq (.reg [⟨(some 5), .mv (.t 0) true, none⟩,
  ⟨(some 6), .callp f_ref04_Parts [(.t 5)] [], none⟩,
  ⟨(some 3), .mv (.t 6) true, none⟩] [3]) (.seq (.seq (.reg [⟨(some 4), .mv (.c (.int .i64 0)) false, none⟩] [3, 4]) (.block 0 l_ref06_right_0)) (.seq (.reg [⟨(some 2), .mv (.c (.bool true)) false, none⟩] [2]) .ret))))
def c_ref06_right : AFunc := ⟨k_ref06_right, 19, [.t 2], [], [], []⟩
-- 20: wagtail/wagtailref06.Right
def bl_ref06_Right_0 : ACode := (.seq (.seq (.reg [⟨(some 23), .mv (.t 3) false, none⟩,
  ⟨(some 24), .fa 3 (.t 1), none⟩,
  ⟨(some 25), .load 0 (.t 24), none⟩,
  ⟨(some 26), .len false (.t 25), none⟩,
  ⟨(some 27), .bin .lss .int (.t 23) (.t 26), none⟩,
  ⟨(some 28), .mv (.t 27) true, none⟩,
  ⟨(some 29), .fa 0 (.t 1), (some (28, true))⟩,
  ⟨(some 30), .load 0 (.t 29), (some (28, true))⟩,
  ⟨(some 31), .bin .eql .int (.t 30) (.c (.int .i64 4)), (some (28, true))⟩,
  ⟨(some 32), .pick (.t 28) (.t 31) (.c (.bool false)), none⟩] [1, 3, 32]) (.cond (.t 32)
 .skip
 (.exit 0))) (.seq (.block 1 (.seq (.reg [⟨(some 35), .fa 3 (.t 1), none⟩,
  ⟨(some 36), .load 0 (.t 35), none⟩,
  ⟨(some 37), .mv (.t 3) false, none⟩,
  ⟨(some 38), .ia (.sl 4) (.t 36) (.t 37), none⟩,
  ⟨(some 39), .load 4 (.t 38), none⟩,
  ⟨(some 40), .callp f_ref06_Right [(.t 39)] [], none⟩,
  ⟨(some 41), .un .not (.t 40), none⟩] [1, 3, 41]) (.cond (.t 41)
 (.seq (.reg [⟨(some 2), .mv (.c (.bool false)) false, none⟩] [2]) .ret)
 .skip))) (.reg [⟨(some 33), .mv (.t 3) true, none⟩,
  ⟨(some 34), .bin .add .int (.t 33) (.c (.int .i64 1)), none⟩,
  ⟨(some 3), .mv (.t 34) true, none⟩] [1, 3])))
def l_ref06_Right_0 : ACode := .loop [1, 3] [] bl_ref06_Right_0
theorem L_ref06_Right_0 {T : Table} (ks : List Kt) (e : Env) (h : Heap) (Q : Ex → Env → Heap → Prop) : Xc T l_ref06_Right_0 ks e h Q = Xc T bl_ref06_Right_0 (.seq l_ref06_Right_0 :: ks) (e.keep [1, 3]) h Q := Xc_loop ks _ e h Q _ _
def k_ref06_Right : ACode := (.seq (.reg [⟨(some 1), .box (.t 0), none⟩,
  ⟨(some 2), .mv (.c (.bool false)) false, none⟩] [1]) (.seq (.seq (.reg [⟨(some 4), .fa 0 (.t 1), none⟩,
  ⟨(some 5), .load 0 (.t 4), none⟩,
  ⟨(some 6), .bin .lss .int (.t 5) (.c (.int .i64 0)), none⟩,
  ⟨(some 7), .mv (.t 6) true, none⟩,
  ⟨(some 8), .fa 0 (.t 1), (some (7, false))⟩,
  ⟨(some 9), .load 0 (.t 8), (some (7, false))⟩,
  ⟨(some 10), .bin .gtr .int (.t 9) (.c (.int .i64 7)), (some (7, false))⟩,
  ⟨(some 11), .pick (.t 7) (.c (.bool true)) (.t 10), none⟩,
  ⟨(some 12), .mv (.t 11) true, none⟩,
  ⟨(some 13), .fa 0 (.t 1), (some (12, false))⟩,
  ⟨(some 14), .load 0 (.t 13), (some (12, false))⟩,
  ⟨(some 15), .bin .eql .int (.t 14) (.c (.int .i64 3)), (some (12, false))⟩,
  ⟨(some 16), .mv (.t 15) true, (some (12, false))⟩,
  ⟨(some 17), .fa 2 (.t 1), (some (16, true))⟩,
  ⟨(some 18), .load 0 (.t 17), (some (16, true))⟩,
  ⟨(some 19), .callp f_ref06_right [(.t 18)] [], (some (16, true))⟩,
  ⟨(some 20), .un .not (.t 19), (some (16, true))⟩,
  ⟨(some 21), .pick (.t 16) (.t 20) (.c (.bool false)), (some (12, false))⟩,
  ⟨(some 22), .pick (.t 12) (.c (.bool true)) (.t 21), none⟩] [1, 22]) (.cond (.t 22)
 (.seq (.reg [⟨(some 2), .mv (.c (.bool false)) false, none⟩] [2]) .ret)
 .skip)) (.seq (.seq (.reg [⟨(some 3), .mv (.c (.int .i64 0)) false, none⟩] [1, 3]) (.block 0 l_ref06_Right_0)) (.seq (.reg [⟨(some 2), .mv (.c (.bool true)) false, none⟩] [2]) .ret))))
def c_ref06_Right : AFunc := ⟨k_ref06_Right, 42, [.t 2], [], [], []⟩
-- 21: wagtail/item.Same

def k_item_Same : ACode := (.seq (.reg [⟨(some 4), .mv (.c (.bool false)) false, none⟩] [0, 1]) (.seq (.reg [⟨(some 10), .mv (.t 0) true, none⟩,
  ⟨(some 11), .callp f_item_Put [(.t 10)] [], none⟩,
  ⟨(some 9), .mv (.t 11) true, none⟩,
  ⟨(some 12), .ext (.t 9) 0, none⟩,
  ⟨(some 13), .ext (.t 9) 1, none⟩,
  ⟨(some 5), .mv (.t 12) true, none⟩,
  ⟨(some 6), .mv (.t 13) true, none⟩] [1, 5, 6]) (.seq (.reg [⟨(some 15), .mv (.t 1) true, none⟩,
  ⟨(some 16), .callp f_item_Put [(.t 15)] [], none⟩,
  ⟨(some 14), .mv (.t 16) true, none⟩,
  ⟨(some 17), .ext (.t 14) 0, none⟩,
  ⟨(some 18), .ext (.t 14) 1, none⟩,
  ⟨(some 7), .mv (.t 17) true, none⟩,
  ⟨(some 8), .mv (.t 18) true, none⟩] [5, 6, 7, 8]) (.seq (.reg [⟨(some 19), .mv (.t 6) true, none⟩,
  ⟨(some 20), .bin .eql .int (.t 19) (.c (.int .i64 0)), none⟩,
  ⟨(some 21), .mv (.t 20) true, none⟩,
  ⟨(some 22), .mv (.t 8) true, (some (21, true))⟩,
  ⟨(some 23), .bin .eql .int (.t 22) (.c (.int .i64 0)), (some (21, true))⟩,
  ⟨(some 24), .pick (.t 21) (.t 23) (.c (.bool false)), none⟩,
  ⟨(some 25), .mv (.t 24) true, none⟩,
  ⟨(some 26), .mv (.t 5) true, (some (25, true))⟩,
  ⟨(some 27), .conv .bs (.t 26), (some (25, true))⟩,
  ⟨(some 28), .mv (.t 7) true, (some (25, true))⟩,
  ⟨(some 29), .conv .bs (.t 28), (some (25, true))⟩,
  ⟨(some 30), .bin .eql .str (.t 27) (.t 29), (some (25, true))⟩,
  ⟨(some 31), .pick (.t 25) (.t 30) (.c (.bool false)), none⟩,
  ⟨(some 4), .mv (.t 31) true, none⟩] [4]) .ret))))
def c_item_Same : AFunc := ⟨k_item_Same, 32, [.t 4], [], [], []⟩
-- 22: wagtail/wagtaillaw06.deep

def k_law06_deep : ACode := (.seq (.reg [⟨(some 1), .box (.t 0), none⟩,
  ⟨(some 2), .mv (.c (.bool false)) false, none⟩] [1]) (.seq (.reg [⟨(some 6), .load 4 (.t 1), none⟩,
  ⟨(some 7), .callp f_ref06_Size [(.t 6)] [], none⟩,
  ⟨(some 5), .mv (.t 7) true, none⟩,
  ⟨(some 8), .ext (.t 5) 0, none⟩,
  ⟨(some 9), .ext (.t 5) 1, none⟩,
  ⟨(some 3), .mv (.t 8) true, none⟩,
  ⟨(some 4), .mv (.t 9) true, none⟩] [3]) (.seq (.reg [⟨(some 10), .mv (.t 3) true, none⟩,
  ⟨(some 11), .bin .gtr .int (.t 10) (.c (.int .i64 16)), none⟩,
  ⟨(some 2), .mv (.t 11) true, none⟩] [2]) .ret)))
def c_law06_deep : AFunc := ⟨k_law06_deep, 12, [.t 2], [], [], []⟩
-- 3: wagtail/wagtaillaw06.ItemTakes

def k_law06_ItemTakes : ACode := (.seq (.reg [⟨(some 2), .box (.t 0), none⟩,
  ⟨(some 4), .mv (.c (.bool false)) false, none⟩] [1, 2]) (.seq (.seq (.reg [⟨(some 16), .load 4 (.t 2), none⟩,
  ⟨(some 17), .callp f_law06_light [(.t 16)] [], none⟩,
  ⟨(some 18), .un .not (.t 17), none⟩] [1, 2, 18]) (.cond (.t 18)
 (.seq (.reg [⟨(some 19), .callp f_law06_awake [] [], none⟩,
  ⟨(some 4), .mv (.t 19) true, none⟩] [4]) .ret)
 .skip)) (.seq (.reg [⟨(some 20), .load 4 (.t 2), none⟩,
  ⟨(some 21), .callp f_law06_Any [(.t 20)] [], none⟩,
  ⟨(some 5), .mv (.t 21) true, none⟩] [1, 2, 5]) (.seq (.reg [⟨(some 23), .mv (.t 5) false, none⟩,
  ⟨(some 24), .callp f_item_Uint [(.t 23)] [], none⟩,
  ⟨(some 22), .mv (.t 24) true, none⟩,
  ⟨(some 25), .ext (.t 22) 0, none⟩,
  ⟨(some 26), .ext (.t 22) 1, none⟩,
  ⟨(some 6), .mv (.t 25) true, none⟩,
  ⟨(some 7), .mv (.t 26) true, none⟩] [1, 2, 5, 6, 7]) (.seq (.reg [⟨(some 28), .mv (.t 5) false, none⟩,
  ⟨(some 29), .callp f_item_Bytes [(.t 28)] [], none⟩,
  ⟨(some 27), .mv (.t 29) true, none⟩,
  ⟨(some 30), .ext (.t 27) 0, none⟩,
  ⟨(some 31), .ext (.t 27) 1, none⟩,
  ⟨(some 8), .mv (.t 30) true, none⟩,
  ⟨(some 9), .mv (.t 31) true, none⟩] [1, 2, 5, 6, 7, 8, 9]) (.seq (.reg [⟨(some 33), .mv (.t 5) false, none⟩,
  ⟨(some 34), .callp f_item_Text [(.t 33)] [], none⟩,
  ⟨(some 32), .mv (.t 34) true, none⟩,
  ⟨(some 35), .ext (.t 32) 0, none⟩,
  ⟨(some 36), .ext (.t 32) 1, none⟩,
  ⟨(some 10), .mv (.t 35) true, none⟩,
  ⟨(some 11), .mv (.t 36) true, none⟩] [1, 2, 5, 6, 7, 8, 9, 10, 11]) (.seq (.reg [⟨(some 38), .mv (.t 5) false, none⟩,
  ⟨(some 39), .callp f_item_List [(.t 38)] [], none⟩,
  ⟨(some 37), .mv (.t 39) true, none⟩,
  ⟨(some 40), .ext (.t 37) 0, none⟩,
  ⟨(some 41), .ext (.t 37) 1, none⟩,
  ⟨(some 12), .mv (.t 40) true, none⟩,
  ⟨(some 13), .mv (.t 41) true, none⟩] [1, 2, 5, 6, 7, 8, 9, 10, 11, 12, 13]) (.seq (.seq (.reg [⟨(some 42), .mv (.t 7) false, none⟩,
  ⟨(some 43), .fa 0 (.t 2), none⟩,
  ⟨(some 44), .load 0 (.t 43), none⟩,
  ⟨(some 45), .bin .eql .int (.t 44) (.c (.int .i64 0)), none⟩,
  ⟨(some 46), .bin .neq .bool (.t 42) (.t 45), none⟩,
  ⟨(some 47), .mv (.t 46) true, none⟩,
  ⟨(some 48), .mv (.t 9) false, (some (47, false))⟩,
  ⟨(some 49), .fa 0 (.t 2), (some (47, false))⟩,
  ⟨(some 50), .load 0 (.t 49), (some (47, false))⟩,
  ⟨(some 51), .bin .eql .int (.t 50) (.c (.int .i64 2)), (some (47, false))⟩,
  ⟨(some 52), .bin .neq .bool (.t 48) (.t 51), (some (47, false))⟩,
  ⟨(some 53), .pick (.t 47) (.c (.bool true)) (.t 52), none⟩,
  ⟨(some 54), .mv (.t 53) true, none⟩,
  ⟨(some 55), .mv (.t 11) false, (some (54, false))⟩,
  ⟨(some 56), .fa 0 (.t 2), (some (54, false))⟩,
  ⟨(some 57), .load 0 (.t 56), (some (54, false))⟩,
  ⟨(some 58), .bin .eql .int (.t 57) (.c (.int .i64 3)), (some (54, false))⟩,
  ⟨(some 59), .bin .neq .bool (.t 55) (.t 58), (some (54, false))⟩,
  ⟨(some 60), .pick (.t 54) (.c (.bool true)) (.t 59), none⟩,
  ⟨(some 61), .mv (.t 60) true, none⟩,
  ⟨(some 62), .mv (.t 13) false, (some (61, false))⟩,
  ⟨(some 63), .fa 0 (.t 2), (some (61, false))⟩,
  ⟨(some 64), .load 0 (.t 63), (some (61, false))⟩,
  ⟨(some 65), .bin .eql .int (.t 64) (.c (.int .i64 4)), (some (61, false))⟩,
  ⟨(some 66), .bin .neq .bool (.t 62) (.t 65), (some (61, false))⟩,
  ⟨(some 67), .pick (.t 61) (.c (.bool true)) (.t 66), none⟩] [1, 2, 5, 6, 7, 8, 9, 10, 11, 12, 13, 67]) (.cond (.t 67)
 (.seq (.reg [⟨(some 4), .mv (.c (.bool false)) false, none⟩] [4]) .ret)
 .skip)) (.seq (.seq (.reg [⟨(some 68), .mv (.t 7) false, none⟩,
  ⟨(some 69), .mv (.t 68) true, none⟩,
  ⟨(some 70), .mv (.t 6) false, (some (69, true))⟩,
  ⟨(some 71), .fa 1 (.t 2), (some (69, true))⟩,
  ⟨(some 72), .load 0 (.t 71), (some (69, true))⟩,
  ⟨(some 73), .bin .neq .int (.t 70) (.t 72), (some (69, true))⟩,
  ⟨(some 74), .pick (.t 69) (.t 73) (.c (.bool false)), none⟩,
  ⟨(some 75), .mv (.t 74) true, none⟩,
  ⟨(some 76), .mv (.t 7) true, (some (75, false))⟩,
  ⟨(some 77), .un .not (.t 76), (some (75, false))⟩,
  ⟨(some 78), .mv (.t 77) true, (some (75, false))⟩,
  ⟨(some 79), .mv (.t 6) true, (some (78, true))⟩,
  ⟨(some 80), .bin .neq .int (.t 79) (.c (.int .u64 0)), (some (78, true))⟩,
  ⟨(some 81), .pick (.t 78) (.t 80) (.c (.bool false)), (some (75, false))⟩,
  ⟨(some 82), .pick (.t 75) (.c (.bool true)) (.t 81), none⟩,
  ⟨(some 83), .mv (.t 82) true, none⟩,
  ⟨(some 84), .mv (.t 9) false, (some (83, false))⟩,
  ⟨(some 85), .mv (.t 84) true, (some (83, false))⟩,
  ⟨(some 86), .mv (.t 8) false, (some (85, true))⟩,
  ⟨(some 87), .conv .bs (.t 86), (some (85, true))⟩,
  ⟨(some 88), .fa 2 (.t 2), (some (85, true))⟩,
  ⟨(some 89), .load 0 (.t 88), (some (85, true))⟩,
  ⟨(some 90), .bin .neq .str (.t 87) (.t 89), (some (85, true))⟩,
  ⟨(some 91), .pick (.t 85) (.t 90) (.c (.bool false)), (some (83, false))⟩,
  ⟨(some 92), .pick (.t 83) (.c (.bool true)) (.t 91), none⟩,
  ⟨(some 93), .mv (.t 92) true, none⟩,
  ⟨(some 94), .mv (.t 9) true, (some (93, false))⟩,
  ⟨(some 95), .un .not (.t 94), (some (93, false))⟩,
  ⟨(some 96), .mv (.t 95) true, (some (93, false))⟩,
  ⟨(some 97), .mv (.t 8) true, (some (96, true))⟩,
  ⟨(some 98), .len false (.t 97), (some (96, true))⟩,
  ⟨(some 99), .bin .neq .int (.t 98) (.c (.int .i64 0)), (some (96, true))⟩,
  ⟨(some 100), .pick (.t 96) (.t 99) (.c (.bool false)), (some (93, false))⟩,
  ⟨(some 101), .pick (.t 93) (.c (.bool true)) (.t 100), none⟩,
  ⟨(some 102), .mv (.t 101) true, none⟩,
  ⟨(some 103), .mv (.t 11) false, (some (102, false))⟩,
  ⟨(some 104), .mv (.t 103) true, (some (102, false))⟩,
  ⟨(some 105), .mv (.t 10) false, (some (104, true))⟩,
  ⟨(some 106), .fa 2 (.t 2), (some (104, true))⟩,
  ⟨(some 107), .load 0 (.t 106), (some (104, true))⟩,
  ⟨(some 108), .bin .neq .str (.t 105) (.t 107), (some (104, true))⟩,
  ⟨(some 109), .pick (.t 104) (.t 108) (.c (.bool false)), (some (102, false))⟩,
  ⟨(some 110), .pick (.t 102) (.c (.bool true)) (.t 109), none⟩,
  ⟨(some 111), .mv (.t 110) true, none⟩,
  ⟨(some 112), .mv (.t 11) true, (some (111, false))⟩,
  ⟨(some 113), .un .not (.t 112), (some (111, false))⟩,
  ⟨(some 114), .mv (.t 113) true, (some (111, false))⟩,
  ⟨(some 115), .mv (.t 10) true, (some (114, true))⟩,
  ⟨(some 116), .bin .neq .str (.t 115) (.c (.str [])), (some (114, true))⟩,
  ⟨(some 117), .pick (.t 114) (.t 116) (.c (.bool false)), (some (111, false))⟩,
  ⟨(some 118), .pick (.t 111) (.c (.bool true)) (.t 117), none⟩,
  ⟨(some 119), .mv (.t 118) true, none⟩,
  ⟨(some 120), .mv (.t 12) false, (some (119, false))⟩,
  ⟨(some 121), .len false (.t 120), (some (119, false))⟩,
  ⟨(some 122), .fa 3 (.t 2), (some (119, false))⟩,
  ⟨(some 123), .load 0 (.t 122), (some (119, false))⟩,
  ⟨(some 124), .len false (.t 123), (some (119, false))⟩,
  ⟨(some 125), .bin .neq .int (.t 121) (.t 124), (some (119, false))⟩,
  ⟨(some 126), .mv (.t 125) true, (some (119, false))⟩,
  ⟨(some 127), .mv (.t 13) false, (some (126, true))⟩,
  ⟨(some 128), .pick (.t 126) (.t 127) (.c (.bool false)), (some (119, false))⟩,
  ⟨(some 129), .pick (.t 119) (.c (.bool true)) (.t 128), none⟩,
  ⟨(some 130), .mv (.t 129) true, none⟩,
  ⟨(some 131), .mv (.t 13) true, (some (130, false))⟩,
  ⟨(some 132), .un .not (.t 131), (some (130, false))⟩,
  ⟨(some 133), .mv (.t 132) true, (some (130, false))⟩,
  ⟨(some 134), .mv (.t 12) true, (some (133, true))⟩,
  ⟨(some 135), .len false (.t 134), (some (133, true))⟩,
  ⟨(some 136), .bin .neq .int (.t 135) (.c (.int .i64 0)), (some (133, true))⟩,
  ⟨(some 137), .pick (.t 133) (.t 136) (.c (.bool false)), (some (130, false))⟩,
  ⟨(some 138), .pick (.t 130) (.c (.bool true)) (.t 137), none⟩] [1, 2, 5, 138]) (.cond (.t 138)
 (.seq (.reg [⟨(some 4), .mv (.c (.bool false)) false, none⟩] [4]) .ret)
 .skip)) (.seq (.reg [⟨(some 139), .mv (.t 5) false, none⟩,
  ⟨(some 140), .mv (.t 1) false, none⟩,
  ⟨(some 141), .callp f_item_Must [(.t 139), (.t 140)] [], none⟩,
  ⟨(some 14), .mv (.t 141) true, none⟩] [1, 2, 5, 14]) (.seq (.seq (.reg [⟨(some 142), .fa 0 (.t 2), none⟩,
  ⟨(some 143), .load 0 (.t 142), none⟩,
  ⟨(some 144), .bin .neq .int (.t 143) (.c (.int .i64 4)), none⟩,
  ⟨(some 145), .mv (.t 144) true, none⟩,
  ⟨(some 146), .mv (.t 1) false, (some (145, false))⟩,
  ⟨(some 147), .bin .lss .int (.t 146) (.c (.int .i64 0)), (some (145, false))⟩,
  ⟨(some 148), .pick (.t 145) (.c (.bool true)) (.t 147), none⟩,
  ⟨(some 149), .mv (.t 148) true, none⟩,
  ⟨(some 150), .mv (.t 1) false, (some (149, false))⟩,
  ⟨(some 151), .fa 3 (.t 2), (some (149, false))⟩,
  ⟨(some 152), .load 0 (.t 151), (some (149, false))⟩,
  ⟨(some 153), .len false (.t 152), (some (149, false))⟩,
  ⟨(some 154), .bin .geq .int (.t 150) (.t 153), (some (149, false))⟩,
  ⟨(some 155), .pick (.t 149) (.c (.bool true)) (.t 154), none⟩] [1, 2, 5, 14, 155]) (.cond (.t 155)
 (.seq (.reg [⟨(some 156), .callp f_law06_awake [] [], none⟩,
  ⟨(some 157), .mv (.t 156) true, none⟩,
  ⟨(some 158), .mv (.t 5) true, (some (157, true))⟩,
  ⟨(some 159), .mv (.t 1) true, (some (157, true))⟩,
  ⟨(some 160), .callp f_item_At [(.t 158), (.t 159)] [], (some (157, true))⟩,
  ⟨(some 161), .bin .eql .ifc (.t 160) (.c .nili), (some (157, true))⟩,
  ⟨(some 162), .pick (.t 157) (.t 161) (.c (.bool false)), none⟩,
  ⟨(some 163), .mv (.t 162) true, none⟩,
  ⟨(some 164), .mv (.t 14) true, (some (163, true))⟩,
  ⟨(some 165), .bin .eql .int (.t 164) (.c (.int .u64 0)), (some (163, true))⟩,
  ⟨(some 166), .pick (.t 163) (.t 165) (.c (.bool false)), none⟩,
  ⟨(some 4), .mv (.t 166) true, none⟩] [4]) .ret)
 .skip)) (.seq (.reg [⟨(some 15), .mv (.c (.int .u64 0)) false, none⟩] [1, 2, 5, 14, 15]) (.seq (.seq (.reg [⟨(some 167), .fa 3 (.t 2), none⟩,
  ⟨(some 168), .load 0 (.t 167), none⟩,
  ⟨(some 169), .mv (.t 1) false, none⟩,
  ⟨(some 170), .ia (.sl 4) (.t 168) (.t 169), none⟩,
  ⟨(some 171), .fa 0 (.t 170), none⟩,
  ⟨(some 172), .load 0 (.t 171), none⟩,
  ⟨(some 173), .bin .eql .int (.t 172) (.c (.int .i64 0)), none⟩] [1, 2, 5, 14, 15, 173]) (.cond (.t 173)
 (.reg [⟨(some 174), .fa 3 (.t 2), none⟩,
  ⟨(some 175), .load 0 (.t 174), none⟩,
  ⟨(some 176), .mv (.t 1) false, none⟩,
  ⟨(some 177), .ia (.sl 4) (.t 175) (.t 176), none⟩,
  ⟨(some 178), .fa 1 (.t 177), none⟩,
  ⟨(some 179), .load 0 (.t 178), none⟩,
  ⟨(some 15), .mv (.t 179) true, none⟩] [1, 2, 5, 14, 15])
 .skip)) (.seq (.regd [⟨(some 180), .callp f_law06_awake [] [], none⟩,
  ⟨(some 181), .mv (.t 180) false, none⟩,
  ⟨(some 182), .mv (.t 14) false, (some (181, true))⟩,
  ⟨(some 183), .mv (.t 15) false, (some (181, true))⟩,
  ⟨(some 184), .bin .eql .int (.t 182) (.t 183), (some (181, true))⟩,
  ⟨(some 185), .pick (.t 181) (.t 184) (.c (.bool false)), none⟩,
  ⟨(some 186), .mv (.t 185) false, none⟩,
  ⟨(some 187), .fa 3 (.t 2), (some (186, true))⟩,
  ⟨(some 188), .load 0 (.t 187), (some (186, true))⟩,
  ⟨(some 189), .mv (.t 1) false, (some (186, true))⟩,
  ⟨(some 190), .ia (.sl 4) (.t 188) (.t 189), (some (186, true))⟩,
  ⟨(some 191), .load 4 (.t 190), (some (186, true))⟩,
  ⟨(some 192), .callp f_ref06_Right [(.t 191)] [], (some (186, true))⟩,
  ⟨(some 193), .un .not (.t 192), (some (186, true))⟩,
  ⟨(some 194), .mv (.t 193) false, (some (186, true))⟩,
  ⟨(some 195), .fa 3 (.t 2), (some (194, false))⟩,
  ⟨(some 196), .load 0 (.t 195), (some (194, false))⟩,
  ⟨(some 197), .mv (.t 1) false, (some (194, false))⟩,
  ⟨(some 198), .ia (.sl 4) (.t 196) (.t 197), (some (194, false))⟩,
  ⟨(some 199), .load 4 (.t 198), (some (194, false))⟩,
  ⟨(some 200), .callp f_law06_light [(.t 199)] [], (some (194, false))⟩,
  ⟨(some 201), .un .not (.t 200), (some (194, false))⟩,
  ⟨(some 202), .pick (.t 194) (.c (.bool true)) (.t 201), (some (186, true))⟩,
  ⟨(some 203), .mv (.t 202) false, (some (186, true))⟩,
  ⟨(some 204), .mv (.t 5) false, (some (203, false))⟩,
  ⟨(some 205), .mv (.t 1) false, (some (203, false))⟩,
  ⟨(some 206), .callp f_item_At [(.t 204), (.t 205)] [], (some (203, false))⟩,
  ⟨(some 207), .fa 3 (.t 2), (some (203, false))⟩,
  ⟨(some 208), .load 0 (.t 207), (some (203, false))⟩,
  ⟨(some 209), .mv (.t 1) false, (some (203, false))⟩,
  ⟨(some 210), .ia (.sl 4) (.t 208) (.t 209), (some (203, false))⟩,
  ⟨(some 211), .load 4 (.t 210), (some (203, false))⟩,
  ⟨(some 212), .callp f_law06_Any [(.t 211)] [], (some (203, false))⟩,
  ⟨(some 213), .callp f_item_Same [(.t 206), (.t 212)] [], (some (203, false))⟩,
  ⟨(some 214), .pick (.t 203) (.c (.bool true)) (.t 213), (some (186, true))⟩,
  ⟨(some 215), .mv (.t 214) false, (some (186, true))⟩,
  ⟨(some 216), .fa 3 (.t 2), (some (215, false))⟩,
  ⟨(some 217), .load 0 (.t 216), (some (215, false))⟩,
  ⟨(some 218), .mv (.t 1) false, (some (215, false))⟩,
  ⟨(some 219), .ia (.sl 4) (.t 217) (.t 218), (some (215, false))⟩,
  ⟨(some 220), .load 4 (.t 219), (some (215, false))⟩,
  ⟨(some 221), .callp f_law06_deep [(.t 220)] [], (some (215, false))⟩,
  ⟨(some 222), .pick (.t 215) (.c (.bool true)) (.t 221), (some (186, true))⟩,
  ⟨(some 223), .pick (.t 186) (.t 222) (.c (.bool false)), none⟩,
  ⟨(some 4), .mv (.t 223) false, none⟩] [4] ([], []) []) .ret))))))))))))))
def c_law06_ItemTakes : AFunc := ⟨k_law06_ItemTakes, 224, [.t 4], [], [], []⟩
-- 26: wagtail/block.Check

def k_block_Check : ACode := (.seq (.reg [⟨(some 1), .box (.t 0), none⟩,
  ⟨(some 2), .mv (.c (.int .i64 0)) false, none⟩] [1]) (.seq (.block 0 (.seq (.reg [⟨(some 4), .fa 1 (.t 1), none⟩,
  ⟨(some 5), .load 0 (.t 4), none⟩,
  ⟨(some 6), .bin .eql .int (.t 5) (.c (.int .u64 0)), none⟩,
  ⟨(some 7), .mv (.t 6) true, none⟩,
  ⟨(some 8), .fa 3 (.t 1), (some (7, false))⟩,
  ⟨(some 9), .load 0 (.t 8), (some (7, false))⟩,
  ⟨(some 10), .bin .lss .int (.t 9) (.c (.int .i64 0)), (some (7, false))⟩,
  ⟨(some 11), .pick (.t 7) (.c (.bool true)) (.t 10), none⟩,
  ⟨(some 12), .mv (.t 11) true, none⟩,
  ⟨(some 13), .fa 3 (.t 1), (some (12, false))⟩,
  ⟨(some 14), .load 0 (.t 13), (some (12, false))⟩,
  ⟨(some 15), .bin .gtr .int (.t 14) (.c (.int .i64 2)), (some (12, false))⟩,
  ⟨(some 16), .pick (.t 12) (.c (.bool true)) (.t 15), none⟩,
  ⟨(some 3), .mv (.t 16) true, none⟩] [1, 3]) (.cond (.t 3)
 (.seq (.reg [⟨(some 2), .mv (.c (.int .i64 2)) false, none⟩] [2]) .ret)
 (.seq (.reg [⟨(some 18), .fa 4 (.t 1), none⟩,
  ⟨(some 19), .load 0 (.t 18), none⟩,
  ⟨(some 20), .len true (.t 19), none⟩,
  ⟨(some 21), .bin .gtr .int (.t 20) (.c (.int .i64 65536)), none⟩,
  ⟨(some 17), .mv (.t 21) true, none⟩] [17]) (.cond (.t 17)
 (.seq (.reg [⟨(some 2), .mv (.c (.int .i64 4)) false, none⟩] [2]) .ret)
 .skip))))) (.seq (.reg [⟨(some 2), .mv (.c (.int .i64 0)) false, none⟩] [2]) .ret)))
def c_block_Check : AFunc := ⟨k_block_Check, 22, [.t 2], [], [], []⟩
-- 52: wagtail/block.values

def k_block_values : ACode := (.seq (.reg [⟨(some 1), .box (.t 0), none⟩,
  ⟨(some 2), .mv (.c (.ps 1 [])) false, none⟩] [1]) (.seq (.reg [⟨(some 3), .fa 0 (.t 1), none⟩,
  ⟨(some 4), .load 0 (.t 3), none⟩,
  ⟨(some 5), .mkif 22 (.t 4), none⟩,
  ⟨(some 6), .fa 1 (.t 1), none⟩,
  ⟨(some 7), .load 0 (.t 6), none⟩,
  ⟨(some 8), .mkif 22 (.t 7), none⟩,
  ⟨(some 9), .fa 2 (.t 1), none⟩,
  ⟨(some 10), .load 0 (.t 9), none⟩,
  ⟨(some 11), .mkif 22 (.t 10), none⟩,
  ⟨(some 12), .fa 3 (.t 1), none⟩,
  ⟨(some 13), .load 0 (.t 12), none⟩,
  ⟨(some 14), .conv (.i .u64) (.t 13), none⟩,
  ⟨(some 15), .mkif 22 (.t 14), none⟩,
  ⟨(some 16), .fa 4 (.t 1), none⟩,
  ⟨(some 17), .load 0 (.t 16), none⟩,
  ⟨(some 18), .conv .sb (.t 17), none⟩,
  ⟨(some 19), .mkif 31 (.t 18), none⟩,
  ⟨(some 20), .bsl 1 [(.t 5), (.t 8), (.t 11), (.t 15), (.t 19)] false, none⟩,
  ⟨(some 2), .mv (.t 20) true, none⟩] [2]) .ret))
def c_block_values : AFunc := ⟨k_block_values, 21, [.t 2], [], [0], []⟩
-- 57: wagtail/block.Seal$1

def k_block_Seal_1 : ACode := (.seq (.reg [⟨(some 3), .mv (.c (.ps 1 [])) false, none⟩,
  ⟨(some 4), .mv (.c (.int .i64 0)) false, none⟩] [0, 1]) (.seq (.reg [⟨(some 5), .bsl 1 [] false, none⟩,
  ⟨(some 6), .load 0 (.t 1), none⟩,
  ⟨(some 7), .app 1 16 (.t 5) (.t 6), none⟩,
  ⟨(some 8), .mv (.t 0) true, none⟩,
  ⟨(some 9), .mkif 31 (.t 8), none⟩,
  ⟨(some 10), .bsl 1 [(.t 9)] false, none⟩,
  ⟨(some 11), .app 1 16 (.t 7) (.t 10), none⟩,
  ⟨(some 12), .mkif 36 (.t 11), none⟩,
  ⟨(some 13), .callp f_item_Put [(.t 12)] [], none⟩,
  ⟨(some 14), .ext (.t 13) 0, none⟩,
  ⟨(some 15), .ext (.t 13) 1, none⟩,
  ⟨(some 3), .mv (.t 14) true, none⟩,
  ⟨(some 4), .mv (.t 15) true, none⟩] [3, 4]) .ret))
def c_block_Seal_1 : AFunc := ⟨k_block_Seal_1, 16, [.t 3, .t 4], [], [1], []⟩
-- 91: wagtail/crc.Width

def k_crc_Width : ACode := (.seq (.reg [⟨(some 2), .mv (.c (.int .i64 0)) false, none⟩] [0]) (.seq (.seq (.reg [⟨(some 3), .mv (.t 0) true, none⟩] [3]) (.block 0 (.seq (.reg [⟨(some 5), .bin .eql .int (.t 3) (.c (.int .i64 1)), none⟩,
  ⟨(some 4), .mv (.t 5) true, none⟩] [3, 4]) (.cond (.t 4)
 (.seq (.reg [⟨(some 2), .mv (.c (.int .i64 2)) false, none⟩] [2]) .ret)
 (.seq (.reg [⟨(some 7), .bin .eql .int (.t 3) (.c (.int .i64 2)), none⟩,
  ⟨(some 6), .mv (.t 7) true, none⟩] [6]) (.cond (.t 6)
 (.seq (.reg [⟨(some 2), .mv (.c (.int .i64 4)) false, none⟩] [2]) .ret)
 .skip)))))) (.seq (.reg [⟨(some 2), .mv (.c (.int .i64 0)) false, none⟩] [2]) .ret)))
def c_crc_Width : AFunc := ⟨k_crc_Width, 8, [.t 2], [], [], []⟩
-- 58: wagtail/block.width

def k_block_width : ACode := (.seq (.reg [⟨(some 2), .mv (.c (.int .i64 0)) false, none⟩] [0]) (.seq (.reg [⟨(some 3), .mv (.t 0) true, none⟩,
  ⟨(some 4), .callp f_crc_Width [(.t 3)] [], none⟩,
  ⟨(some 2), .mv (.t 4) true, none⟩] [2]) .ret))
def c_block_width : AFunc := ⟨k_block_width, 5, [.t 2], [], [], []⟩
-- 141: wagtail/crc.bits$1
def bl_crc_bits_1_0 : ACode := (.seq (.reg [⟨(some 11), .bin .lss .int (.t 10) (.c (.int .i64 8)), none⟩] [0, 2, 10, 11]) (.seq (.cond (.t 11)
 .skip
 (.exit 0)) (.seq (.block 1 (.seq (.reg [⟨(some 12), .mv (.t 0) false, none⟩,
  ⟨(some 13), .bin .and .int (.t 12) (.c (.int .u32 1)), none⟩,
  ⟨(some 14), .bin .eql .int (.t 13) (.c (.int .u32 1)), none⟩] [0, 2, 10, 14]) (.cond (.t 14)
 (.reg [⟨(some 15), .mv (.t 0) true, none⟩,
  ⟨(some 16), .bin .shr .int (.t 15) (.c (.int .u64 1)), none⟩,
  ⟨(some 17), .load 0 (.t 2), none⟩,
  ⟨(some 18), .bin .xor .int (.t 16) (.t 17), none⟩,
  ⟨(some 0), .mv (.t 18) true, none⟩] [0, 2, 10])
 (.reg [⟨(some 19), .mv (.t 0) true, none⟩,
  ⟨(some 20), .bin .shr .int (.t 19) (.c (.int .u64 1)), none⟩,
  ⟨(some 0), .mv (.t 20) true, none⟩] [0, 2, 10])))) (.reg [⟨(some 21), .bin .add .int (.t 10) (.c (.int .i64 1)), none⟩,
  ⟨(some 10), .mv (.t 21) true, none⟩] [0, 2, 10]))))
def l_crc_bits_1_0 : ACode := .loop [0, 2, 10] [] bl_crc_bits_1_0
theorem L_crc_bits_1_0 {T : Table} (ks : List Kt) (e : Env) (h : Heap) (Q : Ex → Env → Heap → Prop) : Xc T l_crc_bits_1_0 ks e h Q = Xc T bl_crc_bits_1_0 (.seq l_crc_bits_1_0 :: ks) (e.keep [0, 2, 10]) h Q := Xc_loop ks _ e h Q _ _
def k_crc_bits_1 : ACode := (.seq (.reg [⟨(some 5), .mv (.c (.int .u32 0)) false, none⟩] [0, 1, 2]) (.seq (.reg [⟨(some 6), .mv (.t 0) true, none⟩,
  ⟨(some 7), .mv (.t 1) true, none⟩,
  ⟨(some 8), .conv (.i .u32) (.t 7), none⟩,
  ⟨(some 9), .bin .xor .int (.t 6) (.t 8), none⟩,
  ⟨(some 0), .mv (.t 9) true, none⟩] [0, 2]) (.seq (.seq (.reg [⟨(some 10), .mv (.c (.int .i64 0)) false, none⟩] [0, 2, 10]) (.block 0 l_crc_bits_1_0)) (.seq (.reg [⟨(some 22), .mv (.t 0) true, none⟩,
  ⟨(some 5), .mv (.t 22) true, none⟩] [5]) .ret))))
def c_crc_bits_1 : AFunc := ⟨k_crc_bits_1, 23, [.t 5], [], [], []⟩
-- 140: wagtail/crc.bits

def k_crc_bits : ACode := (.seq (.reg [⟨(some 1), .box (.t 0), none⟩,
  ⟨(some 2), .mv (.c .nilf) false, none⟩] [1]) (.seq (.reg [⟨(some 3), .mkfn f_crc_bits_1 [(.t 1)], none⟩,
  ⟨(some 2), .mv (.t 3) true, none⟩] [2]) .ret))
def c_crc_bits : AFunc := ⟨k_crc_bits, 4, [.t 2], [], [], []⟩
-- 139: wagtail/crc.through
def bl_crc_through_0 : ACode := (.seq (.reg [⟨(some 15), .bin .lss .int (.t 14) (.t 13), none⟩] [0, 7, 12, 13, 14, 15]) (.seq (.cond (.t 15)
 .skip
 (.exit 0)) (.seq (.block 1 (.seq (.reg [⟨(some 16), .ia (.sl 1) (.t 12) (.t 14), none⟩,
  ⟨(some 17), .load 0 (.t 16), none⟩,
  ⟨(some 9), .mv (.t 17) true, none⟩] [0, 7, 9, 12, 13, 14]) (.reg [⟨(some 18), .mv (.t 7) false, none⟩,
  ⟨(some 19), .mv (.t 0) true, none⟩,
  ⟨(some 20), .mv (.t 9) true, none⟩,
  ⟨(some 21), .callv (.t 18) [(.t 19), (.t 20)], none⟩,
  ⟨(some 0), .mv (.t 21) true, none⟩] [0, 7, 12, 13, 14]))) (.reg [⟨(some 22), .bin .add .int (.t 14) (.c (.int .i64 1)), none⟩,
  ⟨(some 14), .mv (.t 22) true, none⟩] [0, 7, 12, 13, 14]))))
def l_crc_through_0 : ACode := .loop [0, 7, 12, 13, 14] [] bl_crc_through_0
theorem L_crc_through_0 {T : Table} (ks : List Kt) (e : Env) (h : Heap) (Q : Ex → Env → Heap → Prop) : Xc T l_crc_through_0 ks e h Q = Xc T bl_crc_through_0 (.seq l_crc_through_0 :: ks) (e.keep [0, 7, 12, 13, 14]) h Q := Xc_loop ks _ e h Q _ _
def k_crc_through : ACode := (.seq (.reg [⟨(some 6), .mv (.c (.int .u32 0)) false, none⟩] [0, 1, 2]) (.seq (.reg [⟨(some 10), .mv (.t 1) true, none⟩,
  ⟨(some 11), .callh f_crc_bits [(.t 10)], none⟩,
  ⟨(some 7), .mv (.t 11) true, none⟩] [0, 2, 7]) (.seq (.seq (.reg [⟨(some 12), .mv (.t 2) true, none⟩,
  ⟨(some 13), .len false (.t 12), none⟩,
  ⟨(some 14), .mv (.c (.int .i64 0)) false, none⟩] [0, 7, 12, 13, 14]) (.block 0 l_crc_through_0)) (.seq (.reg [⟨(some 23), .mv (.t 0) true, none⟩,
  ⟨(some 6), .mv (.t 23) true, none⟩] [6]) .ret))))
def c_crc_through : AFunc := ⟨k_crc_through, 24, [.t 6], [], [], []⟩
-- 131: wagtail/crc.GoShort

def k_crc_GoShort : ACode := (.seq (.reg [⟨(some 4), .mv (.c (.int .u16 0)) false, none⟩] [0, 1]) (.seq (.reg [⟨(some 5), .mv (.t 0) true, none⟩,
  ⟨(some 6), .un .xor (.t 5), none⟩,
  ⟨(some 7), .conv (.i .u32) (.t 6), none⟩,
  ⟨(some 8), .mv (.t 1) true, none⟩,
  ⟨(some 9), .callp f_crc_through [(.t 7), (.c (.int .u32 33800)), (.t 8)] [(2, false)], none⟩,
  ⟨(some 10), .conv (.i .u16) (.t 9), none⟩,
  ⟨(some 11), .un .xor (.t 10), none⟩,
  ⟨(some 4), .mv (.t 11) true, none⟩] [4]) .ret))
def c_crc_GoShort : AFunc := ⟨k_crc_GoShort, 12, [.t 4], [], [], []⟩
-- 118: wagtail/crc.Short

def k_crc_Short : ACode := (.seq (.reg [⟨(some 2), .mv (.c (.int .u16 0)) false, none⟩] [0]) (.seq (.reg [⟨(some 3), .mv (.t 0) true, none⟩,
  ⟨(some 4), .callp f_crc_GoShort [(.c (.int .u16 0)), (.t 3)] [(1, false)], none⟩,
  ⟨(some 2), .mv (.t 4) true, none⟩] [2]) .ret))
def c_crc_Short : AFunc := ⟨k_crc_Short, 5, [.t 2], [], [], []⟩
-- 132: wagtail/crc.GoLong

def k_crc_GoLong : ACode := (.seq (.reg [⟨(some 4), .mv (.c (.int .u32 0)) false, none⟩] [0, 1]) (.seq (.reg [⟨(some 5), .mv (.t 0) true, none⟩,
  ⟨(some 6), .un .xor (.t 5), none⟩,
  ⟨(some 7), .mv (.t 1) true, none⟩,
  ⟨(some 8), .callp f_crc_through [(.t 6), (.c (.int .u32 2197175160)), (.t 7)] [(2, false)], none⟩,
  ⟨(some 9), .un .xor (.t 8), none⟩,
  ⟨(some 4), .mv (.t 9) true, none⟩] [4]) .ret))
def c_crc_GoLong : AFunc := ⟨k_crc_GoLong, 10, [.t 4], [], [], []⟩
-- 119: wagtail/crc.Long

def k_crc_Long : ACode := (.seq (.reg [⟨(some 2), .mv (.c (.int .u32 0)) false, none⟩] [0]) (.seq (.reg [⟨(some 3), .mv (.t 0) true, none⟩,
  ⟨(some 4), .callp f_crc_GoLong [(.c (.int .u32 0)), (.t 3)] [(1, false)], none⟩,
  ⟨(some 2), .mv (.t 4) true, none⟩] [2]) .ret))
def c_crc_Long : AFunc := ⟨k_crc_Long, 5, [.t 2], [], [], []⟩
-- 93: wagtail/crc.Of

def k_crc_Of : ACode := (.seq (.reg [⟨(some 4), .mv (.c (.int .u64 0)) false, none⟩] [0, 1]) (.seq (.seq (.reg [⟨(some 5), .mv (.t 0) true, none⟩] [1, 5]) (.block 0 (.seq (.reg [⟨(some 7), .bin .eql .int (.t 5) (.c (.int .i64 1)), none⟩,
  ⟨(some 6), .mv (.t 7) true, none⟩] [1, 5, 6]) (.cond (.t 6)
 (.seq (.reg [⟨(some 8), .mv (.t 1) true, none⟩,
  ⟨(some 9), .callp f_crc_Short [(.t 8)] [(0, false)], none⟩,
  ⟨(some 10), .conv (.i .u64) (.t 9), none⟩,
  ⟨(some 4), .mv (.t 10) true, none⟩] [4]) .ret)
 (.seq (.reg [⟨(some 12), .bin .eql .int (.t 5) (.c (.int .i64 2)), none⟩,
  ⟨(some 11), .mv (.t 12) true, none⟩] [1, 11]) (.cond (.t 11)
 (.seq (.reg [⟨(some 13), .mv (.t 1) true, none⟩,
  ⟨(some 14), .callp f_crc_Long [(.t 13)] [(0, false)], none⟩,
  ⟨(some 15), .conv (.i .u64) (.t 14), none⟩,
  ⟨(some 4), .mv (.t 15) true, none⟩] [4]) .ret)
 .skip)))))) (.seq (.reg [⟨(some 4), .mv (.c (.int .u64 0)) false, none⟩] [4]) .ret)))
def c_crc_Of : AFunc := ⟨k_crc_Of, 16, [.t 4], [], [], []⟩
-- 59: wagtail/block.sum

def k_block_sum : ACode := (.seq (.reg [⟨(some 4), .mv (.c (.ps 1 [])) false, none⟩] [0, 1]) (.seq (.reg [⟨(some 5), .mv (.t 0) false, none⟩,
  ⟨(some 6), .callp f_block_width [(.t 5)] [], none⟩,
  ⟨(some 7), .mv (.t 0) true, none⟩,
  ⟨(some 8), .mv (.t 1) true, none⟩,
  ⟨(some 9), .callp f_crc_Of [(.t 7), (.t 8)] [(1, false)], none⟩,
  ⟨(some 10), .callp f_be_Put [(.c (.ps 1 [])), (.t 6), (.t 9)] [], none⟩,
  ⟨(some 4), .mv (.t 10) true, none⟩] [4]) .ret))
def c_block_sum : AFunc := ⟨k_block_sum, 11, [.t 4], [], [0], []⟩
-- 34: wagtail/block.Seal

def k_block_Seal : ACode := (.seq (.reg [⟨(some 2), .box (.t 0), none⟩,
  ⟨(some 4), .mv (.c (.ps 1 [])) false, none⟩,
  ⟨(some 5), .mv (.c (.int .i64 0)) false, none⟩] [1, 2]) (.seq (.seq (.reg [⟨(some 9), .mv (.t 1) false, none⟩,
  ⟨(some 10), .bin .lss .int (.t 9) (.c (.int .i64 0)), none⟩,
  ⟨(some 11), .mv (.t 10) true, none⟩,
  ⟨(some 12), .mv (.t 1) false, (some (11, false))⟩,
  ⟨(some 13), .bin .gtr .int (.t 12) (.c (.int .i64 2)), (some (11, false))⟩,
  ⟨(some 14), .pick (.t 11) (.c (.bool true)) (.t 13), none⟩] [1, 2, 14]) (.cond (.t 14)
 (.seq (.reg [⟨(some 4), .mv (.c (.ps 1 [])) false, none⟩,
  ⟨(some 5), .mv (.c (.int .i64 2)) false, none⟩] [4, 5]) .ret)
 .skip)) (.seq (.seq (.reg [⟨(some 15), .mv (.t 1) false, none⟩,
  ⟨(some 16), .bin .eql .int (.t 15) (.c (.int .i64 0)), none⟩] [1, 2, 16]) (.cond (.t 16)
 (.seq (.reg [⟨(some 17), .bsl 1 [] false, none⟩,
  ⟨(some 18), .load 0 (.t 2), none⟩,
  ⟨(some 19), .app 1 16 (.t 17) (.t 18), none⟩,
  ⟨(some 20), .mkif 36 (.t 19), none⟩,
  ⟨(some 21), .callp f_item_Put [(.t 20)] [], none⟩,
  ⟨(some 22), .ext (.t 21) 0, none⟩,
  ⟨(some 23), .ext (.t 21) 1, none⟩,
  ⟨(some 4), .mv (.t 22) true, none⟩,
  ⟨(some 5), .mv (.t 23) true, none⟩] [4, 5]) .ret)
 .skip)) (.seq (.reg [⟨(some 24), .mkfn f_block_Seal_1 [(.t 2)], none⟩,
  ⟨(some 6), .mv (.t 24) true, none⟩] [1, 6]) (.seq (.reg [⟨(some 26), .mv (.t 6) false, none⟩,
  ⟨(some 27), .mv (.t 1) false, none⟩,
  ⟨(some 28), .callp f_block_width [(.t 27)] [], none⟩,
  ⟨(some 29), .mksl 1 1 (.int .u8 0) (.t 28) (.t 28) false, none⟩,
  ⟨(some 30), .callv (.t 26) [(.t 29)], none⟩,
  ⟨(some 25), .mv (.t 30) true, none⟩,
  ⟨(some 31), .ext (.t 25) 0, none⟩,
  ⟨(some 32), .ext (.t 25) 1, none⟩,
  ⟨(some 7), .mv (.t 31) true, none⟩,
  ⟨(some 8), .mv (.t 32) true, none⟩] [1, 6, 7, 8]) (.seq (.seq (.reg [⟨(some 33), .mv (.t 8) false, none⟩,
  ⟨(some 34), .bin .neq .int (.t 33) (.c (.int .i64 0)), none⟩] [1, 6, 7, 8, 34]) (.cond (.t 34)
 (.seq (.reg [⟨(some 35), .mv (.t 8) true, none⟩,
  ⟨(some 4), .mv (.c (.ps 1 [])) false, none⟩,
  ⟨(some 5), .mv (.t 35) true, none⟩] [4, 5]) .ret)
 .skip)) (.seq (.reg [⟨(some 36), .mv (.t 6) true, none⟩,
  ⟨(some 37), .mv (.t 1) true, none⟩,
  ⟨(some 38), .mv (.t 7) true, none⟩,
  ⟨(some 39), .callp f_block_sum [(.t 37), (.t 38)] [], none⟩,
  ⟨(some 40), .callv (.t 36) [(.t 39)], none⟩,
  ⟨(some 41), .ext (.t 40) 0, none⟩,
  ⟨(some 42), .ext (.t 40) 1, none⟩,
  ⟨(some 4), .mv (.t 41) true, none⟩,
  ⟨(some 5), .mv (.t 42) true, none⟩] [4, 5]) .ret)))))))
def c_block_Seal : AFunc := ⟨k_block_Seal, 43, [.t 4, .t 5], [], [], []⟩
-- 24: wagtail/block.Put

def k_block_Put : ACode := (.seq (.reg [⟨(some 1), .box (.t 0), none⟩,
  ⟨(some 2), .mv (.c (.ps 1 [])) false, none⟩,
  ⟨(some 3), .mv (.c (.int .i64 0)) false, none⟩] [1]) (.seq (.seq (.reg [⟨(some 5), .load 5 (.t 1), none⟩,
  ⟨(some 6), .callp f_block_Check [(.t 5)] [], none⟩,
  ⟨(some 4), .mv (.t 6) true, none⟩] [1, 4]) (.seq (.reg [⟨(some 7), .mv (.t 4) false, none⟩,
  ⟨(some 8), .bin .neq .int (.t 7) (.c (.int .i64 0)), none⟩] [1, 4, 8]) (.cond (.t 8)
 (.seq (.reg [⟨(some 9), .mv (.t 4) true, none⟩,
  ⟨(some 2), .mv (.c (.ps 1 [])) false, none⟩,
  ⟨(some 3), .mv (.t 9) true, none⟩] [2, 3]) .ret)
 .skip))) (.seq (.regd [⟨(some 10), .load 5 (.t 1), none⟩,
  ⟨(some 11), .callp f_block_values [(.t 10)] [], none⟩,
  ⟨(some 12), .fa 3 (.t 1), none⟩,
  ⟨(some 13), .load 0 (.t 12), none⟩,
  ⟨(some 14), .callp f_block_Seal [(.t 11), (.t 13)] [], none⟩,
  ⟨(some 15), .ext (.t 14) 0, none⟩,
  ⟨(some 16), .ext (.t 14) 1, none⟩,
  ⟨(some 2), .mv (.t 15) false, none⟩,
  ⟨(some 3), .mv (.t 16) false, none⟩] [2, 3] ([], [(1, [(11, 0)])]) []) .ret)))
def c_block_Put : AFunc := ⟨k_block_Put, 17, [.t 2, .t 3], [], [], []⟩
-- 54: wagtail/block.Get$1

def k_block_Get_1 : ACode := (.seq (.reg [⟨(some 4), .mv (.c (.int .u64 0)) false, none⟩] [0, 1, 2]) (.seq (.reg [⟨(some 8), .load 0 (.t 1), none⟩,
  ⟨(some 9), .mv (.t 0) true, none⟩,
  ⟨(some 10), .callp f_item_At [(.t 8), (.t 9)] [], none⟩,
  ⟨(some 11), .callp f_item_Uint [(.t 10)] [], none⟩,
  ⟨(some 7), .mv (.t 11) true, none⟩,
  ⟨(some 12), .ext (.t 7) 0, none⟩,
  ⟨(some 13), .ext (.t 7) 1, none⟩,
  ⟨(some 5), .mv (.t 12) true, none⟩,
  ⟨(some 6), .mv (.t 13) true, none⟩] [2, 5, 6]) (.seq (.reg [⟨(some 14), .load 0 (.t 2), none⟩,
  ⟨(some 15), .mv (.t 14) true, none⟩,
  ⟨(some 16), .mv (.t 6) true, (some (15, true))⟩,
  ⟨(some 17), .pick (.t 15) (.t 16) (.c (.bool false)), none⟩,
  ⟨none, .store 1 (.t 2) (.t 17), none⟩] [5]) (.seq (.reg [⟨(some 18), .mv (.t 5) true, none⟩,
  ⟨(some 4), .mv (.t 18) true, none⟩] [4]) .ret))))
def c_block_Get_1 : AFunc := ⟨k_block_Get_1, 19, [.t 4], [], [], []⟩
-- 35: wagtail/block.Open

def k_block_Open : ACode := (.seq (.reg [⟨(some 2), .mv (.c (.ps 1 [])) false, none⟩,
  ⟨(some 3), .mv (.c (.int .i64 0)) false, none⟩,
  ⟨(some 4), .mv (.c (.int .i64 0)) false, none⟩] [0]) (.seq (.reg [⟨(some 15), .mv (.t 0) false, none⟩,
  ⟨(some 16), .callp f_item_List [(.t 15)] [], none⟩,
  ⟨(some 14), .mv (.t 16) true, none⟩,
  ⟨(some 17), .ext (.t 14) 0, none⟩,
  ⟨(some 18), .ext (.t 14) 1, none⟩,
  ⟨(some 5), .mv (.t 17) true, none⟩,
  ⟨(some 6), .mv (.t 18) true, none⟩] [0, 5, 6]) (.seq (.seq (.reg [⟨(some 19), .mv (.t 6) true, none⟩,
  ⟨(some 20), .un .not (.t 19), none⟩] [0, 5, 20]) (.cond (.t 20)
 (.seq (.reg [⟨(some 2), .mv (.c (.ps 1 [])) false, none⟩,
  ⟨(some 3), .mv (.c (.int .i64 0)) false, none⟩,
  ⟨(some 4), .mv (.c (.int .i64 18)) false, none⟩] [2, 3, 4]) .ret)
 .skip)) (.seq (.seq (.reg [⟨(some 21), .mv (.t 5) false, none⟩,
  ⟨(some 22), .len false (.t 21), none⟩,
  ⟨(some 23), .bin .eql .int (.t 22) (.c (.int .i64 0)), none⟩] [0, 5, 23]) (.cond (.t 23)
 (.seq (.reg [⟨(some 24), .mv (.t 5) true, none⟩,
  ⟨(some 2), .mv (.t 24) true, none⟩,
  ⟨(some 3), .mv (.c (.int .i64 0)) false, none⟩,
  ⟨(some 4), .mv (.c (.int .i64 0)) false, none⟩] [2, 3, 4]) .ret)
 .skip)) (.seq (.reg [⟨(some 25), .mv (.t 5) false, none⟩,
  ⟨(some 26), .len false (.t 25), none⟩,
  ⟨(some 27), .bin .sub .int (.t 26) (.c (.int .i64 1)), none⟩,
  ⟨(some 7), .mv (.t 27) true, none⟩] [0, 5, 7]) (.seq (.reg [⟨(some 29), .mv (.t 5) false, none⟩,
  ⟨(some 30), .mv (.t 7) false, none⟩,
  ⟨(some 31), .ia (.sl 1) (.t 29) (.t 30), none⟩,
  ⟨(some 32), .load 0 (.t 31), none⟩,
  ⟨(some 33), .callp f_item_Bytes [(.t 32)] [], none⟩,
  ⟨(some 28), .mv (.t 33) true, none⟩,
  ⟨(some 34), .ext (.t 28) 0, none⟩,
  ⟨(some 35), .ext (.t 28) 1, none⟩,
  ⟨(some 8), .mv (.t 34) true, none⟩,
  ⟨(some 6), .mv (.t 35) true, none⟩] [0, 5, 6, 7, 8]) (.seq (.reg [⟨(some 9), .mv (.c (.int .i64 0)) false, none⟩] [0, 5, 6, 7, 8]) (.seq (.block 0 (.seq (.reg [⟨(some 38), .mv (.t 6) false, none⟩,
  ⟨(some 39), .mv (.t 38) true, none⟩,
  ⟨(some 40), .mv (.t 8) false, (some (39, true))⟩,
  ⟨(some 41), .len false (.t 40), (some (39, true))⟩,
  ⟨(some 42), .callp f_block_width [(.c (.int .i64 1))] [], (some (39, true))⟩,
  ⟨(some 43), .bin .eql .int (.t 41) (.t 42), (some (39, true))⟩,
  ⟨(some 44), .pick (.t 39) (.t 43) (.c (.bool false)), none⟩,
  ⟨(some 37), .mv (.t 44) true, none⟩] [0, 5, 6, 7, 8, 37]) (.cond (.t 37)
 (.reg [⟨(some 9), .mv (.c (.int .i64 1)) false, none⟩] [0, 5, 7, 9])
 (.seq (.reg [⟨(some 46), .mv (.t 6) true, none⟩,
  ⟨(some 47), .mv (.t 46) true, none⟩,
  ⟨(some 48), .mv (.t 8) true, (some (47, true))⟩,
  ⟨(some 49), .len false (.t 48), (some (47, true))⟩,
  ⟨(some 50), .callp f_block_width [(.c (.int .i64 2))] [], (some (47, true))⟩,
  ⟨(some 51), .bin .eql .int (.t 49) (.t 50), (some (47, true))⟩,
  ⟨(some 52), .pick (.t 47) (.t 51) (.c (.bool false)), none⟩,
  ⟨(some 45), .mv (.t 52) true, none⟩] [0, 5, 7, 45]) (.cond (.t 45)
 (.reg [⟨(some 9), .mv (.c (.int .i64 2)) false, none⟩] [0, 5, 7, 9])
 (.seq (.reg [⟨(some 36), .mv (.t 5) true, none⟩,
  ⟨(some 2), .mv (.t 36) true, none⟩,
  ⟨(some 3), .mv (.c (.int .i64 0)) false, none⟩,
  ⟨(some 4), .mv (.c (.int .i64 0)) false, none⟩] [2, 3, 4]) .ret)))))) (.seq (.reg [⟨(some 54), .mv (.t 5) false, none⟩,
  ⟨(some 55), .mv (.t 7) false, none⟩,
  ⟨(some 56), .sl (.sl 1) (.t 54) none (some (.t 55)) none false, none⟩,
  ⟨(some 57), .mv (.t 9) false, none⟩,
  ⟨(some 58), .callp f_block_Seal [(.t 56), (.t 57)] [], none⟩,
  ⟨(some 53), .mv (.t 58) true, none⟩,
  ⟨(some 59), .ext (.t 53) 0, none⟩,
  ⟨(some 60), .ext (.t 53) 1, none⟩,
  ⟨(some 10), .mv (.t 59) true, none⟩,
  ⟨(some 11), .mv (.t 60) true, none⟩] [0, 5, 7, 9, 10]) (.seq (.reg [⟨(some 62), .mv (.t 0) true, none⟩,
  ⟨(some 63), .callp f_item_Put [(.t 62)] [], none⟩,
  ⟨(some 61), .mv (.t 63) true, none⟩,
  ⟨(some 64), .ext (.t 61) 0, none⟩,
  ⟨(some 65), .ext (.t 61) 1, none⟩,
  ⟨(some 12), .mv (.t 64) true, none⟩,
  ⟨(some 13), .mv (.t 65) true, none⟩] [5, 7, 9, 10, 12, 13]) (.seq (.seq (.reg [⟨(some 66), .mv (.t 13) true, none⟩,
  ⟨(some 67), .bin .neq .int (.t 66) (.c (.int .i64 0)), none⟩,
  ⟨(some 68), .mv (.t 67) true, none⟩,
  ⟨(some 69), .mv (.t 10) true, (some (68, false))⟩,
  ⟨(some 70), .conv .bs (.t 69), (some (68, false))⟩,
  ⟨(some 71), .mv (.t 12) true, (some (68, false))⟩,
  ⟨(some 72), .conv .bs (.t 71), (some (68, false))⟩,
  ⟨(some 73), .bin .neq .str (.t 70) (.t 72), (some (68, false))⟩,
  ⟨(some 74), .pick (.t 68) (.c (.bool true)) (.t 73), none⟩] [5, 7, 9, 74]) (.cond (.t 74)
 (.seq (.reg [⟨(some 2), .mv (.c (.ps 1 [])) false, none⟩,
  ⟨(some 3), .mv (.c (.int .i64 0)) false, none⟩,
  ⟨(some 4), .mv (.c (.int .i64 7)) false, none⟩] [2, 3, 4]) .ret)
 .skip)) (.seq (.reg [⟨(some 75), .mv (.t 5) true, none⟩,
  ⟨(some 76), .mv (.t 7) true, none⟩,
  ⟨(some 77), .sl (.sl 1) (.t 75) none (some (.t 76)) none false, none⟩,
  ⟨(some 78), .mv (.t 9) true, none⟩,
  ⟨(some 2), .mv (.t 77) true, none⟩,
  ⟨(some 3), .mv (.t 78) true, none⟩,
  ⟨(some 4), .mv (.c (.int .i64 0)) false, none⟩] [2, 3, 4]) .ret))))))))))))
def c_block_Open : AFunc := ⟨k_block_Open, 79, [.t 2, .t 3, .t 4], [], [], []⟩
-- 29: wagtail/block.Get

def k_block_Get : ACode := (.seq (.reg [⟨(some 1), .box (.t 0), none⟩,
  ⟨(some 2), .alloc [(.int .u64 0), (.int .u64 0), (.int .u64 0), (.int .i64 0), (.str [])], none⟩,
  ⟨(some 3), .mv (.c (.int .i64 0)) false, none⟩] [1, 2]) (.seq (.reg [⟨(some 4), .alloc [(.bool false)], none⟩,
  ⟨none, .store 1 (.t 4) (.c (.bool true)), none⟩] [1, 2, 4]) (.seq (.reg [⟨(some 19), .mkfn f_block_Get_1 [(.t 1), (.t 4)], none⟩,
  ⟨(some 5), .mv (.t 19) true, none⟩] [1, 2, 4, 5]) (.seq (.reg [⟨(some 20), .mv (.t 5) false, none⟩,
  ⟨(some 21), .callv (.t 20) [(.c (.int .i64 0))], none⟩,
  ⟨(some 22), .mv (.t 5) false, none⟩,
  ⟨(some 23), .callv (.t 22) [(.c (.int .i64 1))], none⟩,
  ⟨(some 24), .mv (.t 5) false, none⟩,
  ⟨(some 25), .callv (.t 24) [(.c (.int .i64 2))], none⟩,
  ⟨(some 26), .build [(.int .u64 0), (.int .u64 0), (.int .u64 0), (.int .i64 0), (.str [])] [(0, 1, (.t 21)), (1, 1, (.t 23)), (2, 1, (.t 25))], none⟩,
  ⟨(some 6), .alloc [(.int .u64 0), (.int .u64 0), (.int .u64 0), (.int .i64 0), (.str [])], none⟩,
  ⟨none, .store 5 (.t 6) (.t 26), none⟩] [1, 2, 4, 5, 6]) (.seq (.reg [⟨(some 27), .mv (.t 5) true, none⟩,
  ⟨(some 28), .callv (.t 27) [(.c (.int .i64 3))], none⟩,
  ⟨(some 7), .mv (.t 28) true, none⟩] [1, 2, 4, 6, 7]) (.seq (.reg [⟨(some 30), .load 0 (.t 1), none⟩,
  ⟨(some 31), .callp f_item_At [(.t 30), (.c (.int .i64 4))] [], none⟩,
  ⟨(some 32), .callp f_item_Bytes [(.t 31)] [], none⟩,
  ⟨(some 29), .mv (.t 32) true, none⟩,
  ⟨(some 33), .ext (.t 29) 0, none⟩,
  ⟨(some 34), .ext (.t 29) 1, none⟩,
  ⟨(some 8), .mv (.t 33) true, none⟩,
  ⟨(some 9), .mv (.t 34) true, none⟩] [1, 2, 4, 6, 7, 8, 9]) (.seq (.reg [⟨(some 10), .mv (.c (.int .i64 5)) false, none⟩] [1, 2, 4, 6, 7, 8, 9, 10]) (.seq (.seq (.reg [⟨(some 35), .mv (.t 7) false, none⟩,
  ⟨(some 36), .bin .gtr .int (.t 35) (.c (.int .u64 0)), none⟩] [1, 2, 4, 6, 7, 8, 9, 10, 36]) (.cond (.t 36)
 (.reg [⟨(some 10), .mv (.c (.int .i64 6)) false, none⟩] [1, 2, 4, 6, 7, 8, 9, 10])
 .skip)) (.seq (.reg [⟨(some 38), .load 0 (.t 1), none⟩,
  ⟨(some 39), .callp f_item_List [(.t 38)] [], none⟩,
  ⟨(some 37), .mv (.t 39) true, none⟩,
  ⟨(some 40), .ext (.t 37) 0, none⟩,
  ⟨(some 41), .ext (.t 37) 1, none⟩,
  ⟨(some 11), .mv (.t 40) true, none⟩,
  ⟨(some 12), .mv (.t 41) true, none⟩] [1, 2, 4, 6, 7, 8, 9, 10, 11]) (.seq (.seq (.reg [⟨(some 42), .load 0 (.t 4), none⟩,
  ⟨(some 43), .un .not (.t 42), none⟩,
  ⟨(some 44), .mv (.t 43) true, none⟩,
  ⟨(some 45), .mv (.t 9) true, (some (44, false))⟩,
  ⟨(some 46), .un .not (.t 45), (some (44, false))⟩,
  ⟨(some 47), .pick (.t 44) (.c (.bool true)) (.t 46), none⟩,
  ⟨(some 48), .mv (.t 47) true, none⟩,
  ⟨(some 49), .mv (.t 7) false, (some (48, false))⟩,
  ⟨(some 50), .bin .gtr .int (.t 49) (.c (.int .u64 2)), (some (48, false))⟩,
  ⟨(some 51), .pick (.t 48) (.c (.bool true)) (.t 50), none⟩,
  ⟨(some 52), .mv (.t 51) true, none⟩,
  ⟨(some 53), .mv (.t 11) false, (some (52, false))⟩,
  ⟨(some 54), .len false (.t 53), (some (52, false))⟩,
  ⟨(some 55), .mv (.t 10) true, (some (52, false))⟩,
  ⟨(some 56), .bin .neq .int (.t 54) (.t 55), (some (52, false))⟩,
  ⟨(some 57), .pick (.t 52) (.c (.bool true)) (.t 56), none⟩] [1, 2, 6, 7, 8, 11, 57]) (.cond (.t 57)
 (.seq (.reg [⟨(some 58), .build [(.int .u64 0), (.int .u64 0), (.int .u64 0), (.int .i64 0), (.str [])] [], none⟩,
  ⟨none, .store 5 (.t 2) (.t 58), none⟩,
  ⟨(some 3), .mv (.c (.int .i64 18)) false, none⟩] [2, 3]) .ret)
 .skip)) (.seq (.regd [⟨(some 59), .mv (.t 7) false, none⟩,
  ⟨(some 60), .conv (.i .i64) (.t 59), none⟩,
  ⟨(some 61), .mv (.t 8) false, none⟩,
  ⟨(some 62), .conv .bs (.t 61), none⟩,
  ⟨(some 63), .fa 3 (.t 6), none⟩,
  ⟨none, .store 1 (.t 63) (.t 60), none⟩,
  ⟨(some 64), .fa 4 (.t 6), none⟩,
  ⟨none, .store 1 (.t 64) (.t 62), none⟩] [1, 2, 6, 7, 11] ([(8, 0), (11, 0)], []) [(3, 0, 7)]) (.seq (.seq (.reg [⟨(some 65), .mv (.t 7) true, none⟩,
  ⟨(some 66), .bin .gtr .int (.t 65) (.c (.int .u64 0)), none⟩] [1, 2, 6, 11, 66]) (.cond (.t 66)
 (.seq (.seq (.reg [⟨(some 68), .mv (.t 11) true, none⟩,
  ⟨(some 69), .ia (.sl 1) (.t 68) (.c (.int .i64 5)), none⟩,
  ⟨(some 70), .load 0 (.t 69), none⟩,
  ⟨(some 71), .callp f_item_Bytes [(.t 70)] [], none⟩,
  ⟨(some 67), .mv (.t 71) true, none⟩,
  ⟨(some 72), .ext (.t 67) 0, none⟩,
  ⟨(some 73), .ext (.t 67) 1, none⟩,
  ⟨(some 13), .mv (.t 72) true, none⟩,
  ⟨(some 14), .mv (.t 73) true, none⟩] [1, 2, 6, 14]) (.seq (.reg [⟨(some 74), .mv (.t 14) true, none⟩,
  ⟨(some 75), .un .not (.t 74), none⟩] [1, 2, 6, 75]) (.cond (.t 75)
 (.seq (.reg [⟨(some 76), .build [(.int .u64 0), (.int .u64 0), (.int .u64 0), (.int .i64 0), (.str [])] [], none⟩,
  ⟨none, .store 5 (.t 2) (.t 76), none⟩,
  ⟨(some 3), .mv (.c (.int .i64 18)) false, none⟩] [2, 3]) .ret)
 .skip))) (.seq (.reg [⟨(some 78), .load 0 (.t 1), none⟩,
  ⟨(some 79), .callp f_block_Open [(.t 78)] [], none⟩,
  ⟨(some 77), .mv (.t 79) true, none⟩,
  ⟨(some 80), .ext (.t 77) 0, none⟩,
  ⟨(some 81), .ext (.t 77) 1, none⟩,
  ⟨(some 82), .ext (.t 77) 2, none⟩,
  ⟨(some 15), .mv (.t 80) true, none⟩,
  ⟨(some 16), .mv (.t 81) true, none⟩,
  ⟨(some 17), .mv (.t 82) true, none⟩] [2, 6, 16, 17]) (.seq (.reg [⟨(some 83), .mv (.t 17) true, none⟩,
  ⟨(some 84), .bin .neq .int (.t 83) (.c (.int .i64 0)), none⟩,
  ⟨(some 85), .mv (.t 84) true, none⟩,
  ⟨(some 86), .mv (.t 16) true, (some (85, false))⟩,
  ⟨(some 87), .fa 3 (.t 6), (some (85, false))⟩,
  ⟨(some 88), .load 0 (.t 87), (some (85, false))⟩,
  ⟨(some 89), .bin .neq .int (.t 86) (.t 88), (some (85, false))⟩,
  ⟨(some 90), .pick (.t 85) (.c (.bool true)) (.t 89), none⟩] [2, 6, 90]) (.cond (.t 90)
 (.seq (.reg [⟨(some 91), .build [(.int .u64 0), (.int .u64 0), (.int .u64 0), (.int .i64 0), (.str [])] [], none⟩,
  ⟨none, .store 5 (.t 2) (.t 91), none⟩,
  ⟨(some 3), .mv (.c (.int .i64 7)) false, none⟩] [2, 3]) .ret)
 .skip))))
 .skip)) (.seq (.seq (.reg [⟨(some 92), .load 5 (.t 6), none⟩,
  ⟨(some 93), .callp f_block_Check [(.t 92)] [], none⟩,
  ⟨(some 18), .mv (.t 93) true, none⟩] [2, 6, 18]) (.seq (.reg [⟨(some 94), .mv (.t 18) false, none⟩,
  ⟨(some 95), .bin .neq .int (.t 94) (.c (.int .i64 0)), none⟩] [2, 6, 18, 95]) (.cond (.t 95)
 (.seq (.reg [⟨(some 96), .build [(.int .u64 0), (.int .u64 0), (.int .u64 0), (.int .i64 0), (.str [])] [], none⟩,
  ⟨(some 97), .mv (.t 18) true, none⟩,
  ⟨none, .store 5 (.t 2) (.t 96), none⟩,
  ⟨(some 3), .mv (.t 97) true, none⟩] [2, 3]) .ret)
 .skip))) (.seq (.reg [⟨(some 98), .load 5 (.t 6), none⟩,
  ⟨none, .store 5 (.t 2) (.t 98), none⟩,
  ⟨(some 3), .mv (.c (.int .i64 0)) false, none⟩] [2, 3]) .ret))))))))))))))
def c_block_Get : AFunc := ⟨k_block_Get, 99, [.c 2 5, .t 3], [], [], []⟩
-- 27: wagtail/block.Size

def k_block_Size : ACode := (.seq (.reg [⟨(some 1), .box (.t 0), none⟩,
  ⟨(some 2), .mv (.c (.int .i64 0)) false, none⟩] [1]) (.seq (.reg [⟨(some 6), .load 5 (.t 1), none⟩,
  ⟨(some 7), .callp f_block_Put [(.t 6)] [], none⟩,
  ⟨(some 5), .mv (.t 7) true, none⟩,
  ⟨(some 8), .ext (.t 5) 0, none⟩,
  ⟨(some 9), .ext (.t 5) 1, none⟩,
  ⟨(some 3), .mv (.t 8) true, none⟩,
  ⟨(some 4), .mv (.t 9) true, none⟩] [3]) (.seq (.reg [⟨(some 10), .mv (.t 3) true, none⟩,
  ⟨(some 11), .len false (.t 10), none⟩,
  ⟨(some 2), .mv (.t 11) true, none⟩] [2]) .ret)))
def c_block_Size : AFunc := ⟨k_block_Size, 12, [.t 2], [], [], []⟩
-- 23: wagtail/wagtaillaw09.awake

def k_law09_awake : ACode := (.seq (.reg [⟨(some 0), .mv (.c (.bool false)) false, none⟩] []) (.seq (.reg [⟨(some 8), .build [(.int .u64 0), (.int .u64 0), (.int .u64 0), (.int .i64 0), (.str [])] [(0, 1, (.c (.int .u64 1))), (1, 1, (.c (.int .u64 1))), (4, 1, (.c (.str [104])))], none⟩,
  ⟨(some 1), .alloc [(.int .u64 0), (.int .u64 0), (.int .u64 0), (.int .i64 0), (.str [])], none⟩,
  ⟨none, .store 5 (.t 1) (.t 8), none⟩] [1]) (.seq (.reg [⟨(some 10), .load 5 (.t 1), none⟩,
  ⟨(some 11), .callp f_block_Put [(.t 10)] [], none⟩,
  ⟨(some 9), .mv (.t 11) true, none⟩,
  ⟨(some 12), .ext (.t 9) 0, none⟩,
  ⟨(some 13), .ext (.t 9) 1, none⟩,
  ⟨(some 2), .mv (.t 12) true, none⟩,
  ⟨(some 3), .mv (.t 13) true, none⟩] [1, 2, 3]) (.seq (.reg [⟨(some 15), .mv (.t 2) false, none⟩,
  ⟨(some 16), .callp f_item_Whole [(.t 15)] [], none⟩,
  ⟨(some 14), .mv (.t 16) true, none⟩,
  ⟨(some 17), .ext (.t 14) 0, none⟩,
  ⟨(some 18), .ext (.t 14) 1, none⟩,
  ⟨(some 4), .mv (.t 17) true, none⟩,
  ⟨(some 5), .mv (.t 18) true, none⟩] [1, 2, 3, 4, 5]) (.seq (.reg [⟨(some 20), .mv (.t 4) true, none⟩,
  ⟨(some 21), .callp f_block_Get [(.t 20)] [], none⟩,
  ⟨(some 19), .mv (.t 21) true, none⟩,
  ⟨(some 22), .ext (.t 19) 0, none⟩,
  ⟨(some 23), .ext (.t 19) 1, none⟩,
  ⟨(some 6), .alloc [(.int .u64 0), (.int .u64 0), (.int .u64 0), (.int .i64 0), (.str [])], none⟩,
  ⟨none, .store 5 (.t 6) (.t 22), none⟩,
  ⟨(some 7), .mv (.t 23) true, none⟩] [1, 2, 3, 5, 6, 7]) (.seq (.reg [⟨(some 24), .mv (.t 2) true, none⟩,
  ⟨(some 25), .conv .bs (.t 24), none⟩,
  ⟨(some 26), .bin .eql .str (.t 25) (.c (.str [133, 1, 1, 0, 0, 65, 104])), none⟩,
  ⟨(some 27), .mv (.t 26) true, none⟩,
  ⟨(some 28), .mv (.t 3) true, (some (27, true))⟩,
  ⟨(some 29), .bin .eql .int (.t 28) (.c (.int .i64 0)), (some (27, true))⟩,
  ⟨(some 30), .pick (.t 27) (.t 29) (.c (.bool false)), none⟩,
  ⟨(some 31), .mv (.t 30) true, none⟩,
  ⟨(some 32), .mv (.t 5) true, (some (31, true))⟩,
  ⟨(some 33), .bin .eql .int (.t 32) (.c (.int .i64 0)), (some (31, true))⟩,
  ⟨(some 34), .pick (.t 31) (.t 33) (.c (.bool false)), none⟩,
  ⟨(some 35), .mv (.t 34) true, none⟩,
  ⟨(some 36), .load 5 (.t 6), (some (35, true))⟩,
  ⟨(some 37), .load 5 (.t 1), (some (35, true))⟩,
  ⟨(some 38), .bin .eql (.agg (.cons 0 0 .int (.cons 1 0 .int (.cons 2 0 .int (.cons 3 0 .int (.cons 4 0 .str .nil)))))) (.t 36) (.t 37), (some (35, true))⟩,
  ⟨(some 39), .pick (.t 35) (.t 38) (.c (.bool false)), none⟩,
  ⟨(some 40), .mv (.t 39) true, none⟩,
  ⟨(some 41), .mv (.t 7) true, (some (40, true))⟩,
  ⟨(some 42), .bin .eql .int (.t 41) (.c (.int .i64 0)), (some (40, true))⟩,
  ⟨(some 43), .pick (.t 40) (.t 42) (.c (.bool false)), none⟩,
  ⟨(some 44), .mv (.t 43) true, none⟩,
  ⟨(some 45), .load 5 (.t 1), (some (44, true))⟩,
  ⟨(some 46), .callp f_block_Size [(.t 45)] [], (some (44, true))⟩,
  ⟨(some 47), .bin .eql .int (.t 46) (.c (.int .i64 7)), (some (44, true))⟩,
  ⟨(some 48), .pick (.t 44) (.t 47) (.c (.bool false)), none⟩,
  ⟨(some 0), .mv (.t 48) true, none⟩] [0]) .ret))))))
def c_law09_awake : AFunc := ⟨k_law09_awake, 49, [.t 0], [], [], []⟩
-- 25: wagtail/wagtailref09.Check

def k_ref09_Check : ACode := (.seq (.reg [⟨(some 1), .box (.t 0), none⟩,
  ⟨(some 2), .mv (.c (.int .i64 0)) false, none⟩] [1]) (.seq (.seq (.reg [⟨(some 3), .fa 1 (.t 1), none⟩,
  ⟨(some 4), .load 0 (.t 3), none⟩,
  ⟨(some 5), .bin .eql .int (.t 4) (.c (.int .u64 0)), none⟩,
  ⟨(some 6), .mv (.t 5) true, none⟩,
  ⟨(some 7), .fa 3 (.t 1), (some (6, false))⟩,
  ⟨(some 8), .load 0 (.t 7), (some (6, false))⟩,
  ⟨(some 9), .bin .lss .int (.t 8) (.c (.int .i64 0)), (some (6, false))⟩,
  ⟨(some 10), .pick (.t 6) (.c (.bool true)) (.t 9), none⟩,
  ⟨(some 11), .mv (.t 10) true, none⟩,
  ⟨(some 12), .fa 3 (.t 1), (some (11, false))⟩,
  ⟨(some 13), .load 0 (.t 12), (some (11, false))⟩,
  ⟨(some 14), .bin .gtr .int (.t 13) (.c (.int .i64 2)), (some (11, false))⟩,
  ⟨(some 15), .pick (.t 11) (.c (.bool true)) (.t 14), none⟩] [1, 15]) (.cond (.t 15)
 (.seq (.reg [⟨(some 2), .mv (.c (.int .i64 2)) false, none⟩] [2]) .ret)
 .skip)) (.seq (.seq (.reg [⟨(some 16), .fa 4 (.t 1), none⟩,
  ⟨(some 17), .load 0 (.t 16), none⟩,
  ⟨(some 18), .len true (.t 17), none⟩,
  ⟨(some 19), .bin .gtr .int (.t 18) (.c (.int .i64 65536)), none⟩] [19]) (.cond (.t 19)
 (.seq (.reg [⟨(some 2), .mv (.c (.int .i64 4)) false, none⟩] [2]) .ret)
 .skip)) (.seq (.reg [⟨(some 2), .mv (.c (.int .i64 0)) false, none⟩] [2]) .ret))))
def c_ref09_Check : AFunc := ⟨k_ref09_Check, 20, [.t 2], [], [], []⟩
-- 60: wagtail/wagtailref01.Bytes
def bl_ref01_Bytes_0 : ACode := (.seq (.seq (.reg [⟨(some 7), .mv (.t 6) false, none⟩,
  ⟨(some 8), .mv (.t 0) false, none⟩,
  ⟨(some 9), .bin .lss .int (.t 7) (.t 8), none⟩,
  ⟨(some 10), .mv (.t 9) true, none⟩,
  ⟨(some 11), .mv (.t 6) false, (some (10, true))⟩,
  ⟨(some 12), .bin .lss .int (.t 11) (.c (.int .i64 8)), (some (10, true))⟩,
  ⟨(some 13), .pick (.t 10) (.t 12) (.c (.bool false)), none⟩] [0, 1, 5, 6, 13]) (.cond (.t 13)
 .skip
 (.exit 0))) (.seq (.block 1 (.seq (.reg [⟨(some 16), .mv (.t 1) false, none⟩,
  ⟨(some 17), .bin .rem .int (.t 16) (.c (.int .u64 256)), none⟩,
  ⟨(some 18), .conv (.i .u8) (.t 17), none⟩,
  ⟨(some 19), .bsl 1 [(.t 18)] false, none⟩,
  ⟨(some 20), .mv (.t 5) true, none⟩,
  ⟨(some 21), .app 1 1 (.t 19) (.t 20), none⟩,
  ⟨(some 5), .mv (.t 21) true, none⟩] [0, 1, 5, 6]) (.reg [⟨(some 22), .mv (.t 1) true, none⟩,
  ⟨(some 23), .bin .quo .int (.t 22) (.c (.int .u64 256)), none⟩,
  ⟨(some 1), .mv (.t 23) true, none⟩] [0, 1, 5, 6]))) (.reg [⟨(some 14), .mv (.t 6) true, none⟩,
  ⟨(some 15), .bin .add .int (.t 14) (.c (.int .i64 1)), none⟩,
  ⟨(some 6), .mv (.t 15) true, none⟩] [0, 1, 5, 6])))
def l_ref01_Bytes_0 : ACode := .loop [0, 1, 5, 6] [(5, 0)] bl_ref01_Bytes_0
theorem L_ref01_Bytes_0 {T : Table} (ks : List Kt) (e : Env) (h : Heap) (Q : Ex → Env → Heap → Prop) : Xc T l_ref01_Bytes_0 ks e h Q = Xc T bl_ref01_Bytes_0 (.seq l_ref01_Bytes_0 :: ks) (e.keep [0, 1, 5, 6]) h Q := Xc_loop ks _ e h Q _ _
def k_ref01_Bytes : ACode := (.seq (.reg [⟨(some 4), .mv (.c (.ps 1 [])) false, none⟩] [0, 1]) (.seq (.reg [⟨(some 5), .mv (.c (.ps 1 [])) false, none⟩] [0, 1, 5]) (.seq (.seq (.reg [⟨(some 6), .mv (.c (.int .i64 0)) false, none⟩] [0, 1, 5, 6]) (.block 0 l_ref01_Bytes_0)) (.seq (.reg [⟨(some 24), .mv (.t 5) true, none⟩,
  ⟨(some 4), .mv (.t 24) true, none⟩] [4]) .ret))))
def c_ref01_Bytes : AFunc := ⟨k_ref01_Bytes, 25, [.t 4], [], [0], []⟩
-- 55: wagtail/wagtailref05.Put

def k_ref05_Put : ACode := (.seq (.reg [⟨(some 4), .mv (.c (.ps 1 [])) false, none⟩] [0, 1]) (.seq (.reg [⟨(some 6), .mv (.t 0) true, none⟩,
  ⟨(some 7), .bin .mul .int (.c (.int .i64 32)) (.t 6), none⟩,
  ⟨(some 5), .mv (.t 7) true, none⟩] [1, 5]) (.seq (.seq (.reg [⟨(some 8), .mv (.t 1) false, none⟩,
  ⟨(some 9), .bin .leq .int (.t 8) (.c (.int .u64 23)), none⟩] [1, 5, 9]) (.cond (.t 9)
 (.seq (.reg [⟨(some 10), .mv (.t 5) true, none⟩,
  ⟨(some 11), .mv (.t 1) true, none⟩,
  ⟨(some 12), .conv (.i .i64) (.t 11), none⟩,
  ⟨(some 13), .bin .add .int (.t 10) (.t 12), none⟩,
  ⟨(some 14), .conv (.i .u8) (.t 13), none⟩,
  ⟨(some 15), .bsl 1 [(.t 14)] false, none⟩,
  ⟨(some 4), .mv (.t 15) true, none⟩] [4]) .ret)
 .skip)) (.seq (.seq (.reg [⟨(some 16), .mv (.t 1) false, none⟩,
  ⟨(some 17), .bin .leq .int (.t 16) (.c (.int .u64 255)), none⟩] [1, 5, 17]) (.cond (.t 17)
 (.seq (.reg [⟨(some 18), .mv (.t 5) true, none⟩,
  ⟨(some 19), .bin .add .int (.t 18) (.c (.int .i64 24)), none⟩,
  ⟨(some 20), .conv (.i .u8) (.t 19), none⟩,
  ⟨(some 21), .bsl 1 [(.t 20)] false, none⟩,
  ⟨(some 22), .mv (.t 1) true, none⟩,
  ⟨(some 23), .callp f_ref01_Bytes [(.c (.int .i64 1)), (.t 22)] [], none⟩,
  ⟨(some 24), .app 1 1 (.t 21) (.t 23), none⟩,
  ⟨(some 4), .mv (.t 24) true, none⟩] [4]) .ret)
 .skip)) (.seq (.seq (.reg [⟨(some 25), .mv (.t 1) false, none⟩,
  ⟨(some 26), .bin .leq .int (.t 25) (.c (.int .u64 65535)), none⟩] [1, 5, 26]) (.cond (.t 26)
 (.seq (.reg [⟨(some 27), .mv (.t 5) true, none⟩,
  ⟨(some 28), .bin .add .int (.t 27) (.c (.int .i64 25)), none⟩,
  ⟨(some 29), .conv (.i .u8) (.t 28), none⟩,
  ⟨(some 30), .bsl 1 [(.t 29)] false, none⟩,
  ⟨(some 31), .mv (.t 1) true, none⟩,
  ⟨(some 32), .callp f_ref01_Bytes [(.c (.int .i64 2)), (.t 31)] [], none⟩,
  ⟨(some 33), .app 1 1 (.t 30) (.t 32), none⟩,
  ⟨(some 4), .mv (.t 33) true, none⟩] [4]) .ret)
 .skip)) (.seq (.seq (.reg [⟨(some 34), .mv (.t 1) false, none⟩,
  ⟨(some 35), .bin .leq .int (.t 34) (.c (.int .u64 4294967295)), none⟩] [1, 5, 35]) (.cond (.t 35)
 (.seq (.reg [⟨(some 36), .mv (.t 5) true, none⟩,
  ⟨(some 37), .bin .add .int (.t 36) (.c (.int .i64 26)), none⟩,
  ⟨(some 38), .conv (.i .u8) (.t 37), none⟩,
  ⟨(some 39), .bsl 1 [(.t 38)] false, none⟩,
  ⟨(some 40), .mv (.t 1) true, none⟩,
  ⟨(some 41), .callp f_ref01_Bytes [(.c (.int .i64 4)), (.t 40)] [], none⟩,
  ⟨(some 42), .app 1 1 (.t 39) (.t 41), none⟩,
  ⟨(some 4), .mv (.t 42) true, none⟩] [4]) .ret)
 .skip)) (.seq (.reg [⟨(some 43), .mv (.t 5) true, none⟩,
  ⟨(some 44), .bin .add .int (.t 43) (.c (.int .i64 27)), none⟩,
  ⟨(some 45), .conv (.i .u8) (.t 44), none⟩,
  ⟨(some 46), .bsl 1 [(.t 45)] false, none⟩,
  ⟨(some 47), .mv (.t 1) true, none⟩,
  ⟨(some 48), .callp f_ref01_Bytes [(.c (.int .i64 8)), (.t 47)] [], none⟩,
  ⟨(some 49), .app 1 1 (.t 46) (.t 48), none⟩,
  ⟨(some 4), .mv (.t 49) true, none⟩] [4]) .ret)))))))
def c_ref05_Put : AFunc := ⟨k_ref05_Put, 50, [.t 4], [], [0], []⟩
-- 30: wagtail/wagtailref06.Put
def bl_ref06_Put_0 : ACode := (.seq (.seq (.reg [⟨(some 35), .mv (.t 4) false, none⟩,
  ⟨(some 36), .fa 3 (.t 1), none⟩,
  ⟨(some 37), .load 0 (.t 36), none⟩,
  ⟨(some 38), .len false (.t 37), none⟩,
  ⟨(some 39), .bin .lss .int (.t 35) (.t 38), none⟩] [1, 3, 4, 39]) (.cond (.t 39)
 .skip
 (.exit 1))) (.seq (.block 2 (.reg [⟨(some 42), .mv (.t 3) true, none⟩,
  ⟨(some 43), .fa 3 (.t 1), none⟩,
  ⟨(some 44), .load 0 (.t 43), none⟩,
  ⟨(some 45), .mv (.t 4) false, none⟩,
  ⟨(some 46), .ia (.sl 4) (.t 44) (.t 45), none⟩,
  ⟨(some 47), .load 4 (.t 46), none⟩,
  ⟨(some 48), .callp f_ref06_Put [(.t 47)] [], none⟩,
  ⟨(some 49), .app 1 1 (.t 42) (.t 48), none⟩,
  ⟨(some 3), .mv (.t 49) true, none⟩] [1, 3, 4])) (.reg [⟨(some 40), .mv (.t 4) true, none⟩,
  ⟨(some 41), .bin .add .int (.t 40) (.c (.int .i64 1)), none⟩,
  ⟨(some 4), .mv (.t 41) true, none⟩] [1, 3, 4])))
def l_ref06_Put_0 : ACode := .loop [1, 3, 4] [(3, 0)] bl_ref06_Put_0
theorem L_ref06_Put_0 {T : Table} (ks : List Kt) (e : Env) (h : Heap) (Q : Ex → Env → Heap → Prop) : Xc T l_ref06_Put_0 ks e h Q = Xc T bl_ref06_Put_0 (.seq l_ref06_Put_0 :: ks) (e.keep [1, 3, 4]) h Q := Xc_loop ks _ e h Q _ _
def k_ref06_Put : ACode := (.seq (.reg [⟨(some 1), .box (.t 0), none⟩,
  ⟨(some 2), .mv (.c (.ps 1 [])) false, none⟩] [1]) (.seq (.seq (.reg [⟨(some 5), .fa 0 (.t 1), none⟩,
  ⟨(some 6), .load 0 (.t 5), none⟩] [1, 6]) (.block 0 (.seq (.seq (.reg [⟨(some 8), .bin .eql .int (.t 6) (.c (.int .i64 0)), none⟩,
  ⟨(some 7), .mv (.t 8) true, none⟩] [1, 6, 7]) (.cond (.t 7)
 .skip
 (.reg [⟨(some 9), .bin .eql .int (.t 6) (.c (.int .i64 1)), none⟩,
  ⟨(some 7), .mv (.t 9) true, none⟩] [1, 6, 7]))) (.cond (.t 7)
 (.seq (.reg [⟨(some 10), .fa 0 (.t 1), none⟩,
  ⟨(some 11), .load 0 (.t 10), none⟩,
  ⟨(some 12), .fa 1 (.t 1), none⟩,
  ⟨(some 13), .load 0 (.t 12), none⟩,
  ⟨(some 14), .callp f_ref05_Put [(.t 11), (.t 13)] [], none⟩,
  ⟨(some 2), .mv (.t 14) true, none⟩] [2]) .ret)
 (.seq (.seq (.reg [⟨(some 16), .bin .eql .int (.t 6) (.c (.int .i64 2)), none⟩,
  ⟨(some 15), .mv (.t 16) true, none⟩] [1, 6, 15]) (.cond (.t 15)
 .skip
 (.reg [⟨(some 17), .bin .eql .int (.t 6) (.c (.int .i64 3)), none⟩,
  ⟨(some 15), .mv (.t 17) true, none⟩] [1, 6, 15]))) (.cond (.t 15)
 (.seq (.regd [⟨(some 18), .fa 0 (.t 1), none⟩,
  ⟨(some 19), .load 0 (.t 18), none⟩,
  ⟨(some 20), .fa 2 (.t 1), none⟩,
  ⟨(some 21), .load 0 (.t 20), none⟩,
  ⟨(some 22), .len true (.t 21), none⟩,
  ⟨(some 23), .conv (.i .u64) (.t 22), none⟩,
  ⟨(some 24), .callp f_ref05_Put [(.t 19), (.t 23)] [], none⟩,
  ⟨(some 25), .fa 2 (.t 1), none⟩,
  ⟨(some 26), .load 0 (.t 25), none⟩,
  ⟨(some 27), .app 1 1 (.t 24) (.t 26), none⟩,
  ⟨(some 2), .mv (.t 27) false, none⟩] [2] ([], [(6, [(24, 0)]), (9, [])]) []) .ret)
 (.seq (.reg [⟨(some 29), .bin .eql .int (.t 6) (.c (.int .i64 4)), none⟩,
  ⟨(some 28), .mv (.t 29) true, none⟩] [1, 28]) (.cond (.t 28)
 (.seq (.reg [⟨(some 30), .fa 3 (.t 1), none⟩,
  ⟨(some 31), .load 0 (.t 30), none⟩,
  ⟨(some 32), .len false (.t 31), none⟩,
  ⟨(some 33), .conv (.i .u64) (.t 32), none⟩,
  ⟨(some 34), .callp f_ref05_Put [(.c (.int .i64 4)), (.t 33)] [], none⟩,
  ⟨(some 3), .mv (.t 34) true, none⟩] [1, 3]) (.seq (.seq (.reg [⟨(some 4), .mv (.c (.int .i64 0)) false, none⟩] [1, 3, 4]) (.block 1 l_ref06_Put_0)) (.seq (.reg [⟨(some 50), .mv (.t 3) true, none⟩,
  ⟨(some 2), .mv (.t 50) true, none⟩] [2]) .ret)))
 .skip)))))))) (.seq (.reg [⟨(some 51), .fa 0 (.t 1), none⟩,
  ⟨(some 52), .load 0 (.t 51), none⟩,
  ⟨(some 53), .bin .add .int (.c (.int .i64 15)) (.t 52), none⟩,
  ⟨(some 54), .conv (.i .u64) (.t 53), none⟩,
  ⟨(some 55), .callp f_ref05_Put [(.c (.int .i64 7)), (.t 54)] [], none⟩,
  ⟨(some 2), .mv (.t 55) true, none⟩] [2]) .ret)))
def c_ref06_Put : AFunc := ⟨k_ref06_Put, 56, [.t 2], [], [], []⟩
-- 94: wagtail/wagtailref03.Sum
def bl_ref03_Sum_0 : ACode := (.seq (.seq (.reg [⟨(some 14), .mv (.t 8) false, none⟩,
  ⟨(some 15), .mv (.t 1) false, none⟩,
  ⟨(some 16), .bin .lss .int (.t 14) (.t 15), none⟩] [0, 1, 2, 7, 8, 16]) (.cond (.t 16)
 .skip
 (.exit 0))) (.seq (.block 1 (.reg [⟨(some 19), .mv (.t 7) true, none⟩,
  ⟨(some 20), .bin .mul .int (.c (.int .u64 2)) (.t 19), none⟩,
  ⟨(some 7), .mv (.t 20) true, none⟩] [0, 1, 2, 7, 8])) (.reg [⟨(some 17), .mv (.t 8) true, none⟩,
  ⟨(some 18), .bin .add .int (.t 17) (.c (.int .i64 1)), none⟩,
  ⟨(some 8), .mv (.t 18) true, none⟩] [0, 1, 2, 7, 8])))
def l_ref03_Sum_0 : ACode := .loop [0, 1, 2, 7, 8] [] bl_ref03_Sum_0
theorem L_ref03_Sum_0 {T : Table} (ks : List Kt) (e : Env) (h : Heap) (Q : Ex → Env → Heap → Prop) : Xc T l_ref03_Sum_0 ks e h Q = Xc T bl_ref03_Sum_0 (.seq l_ref03_Sum_0 :: ks) (e.keep [0, 1, 2, 7, 8]) h Q := Xc_loop ks _ e h Q _ _
def bl_ref03_Sum_1 : ACode := (.seq (.seq (.reg [⟨(some 35), .mv (.t 12) false, none⟩,
  ⟨(some 36), .bin .lss .int (.t 35) (.c (.int .i64 8)), none⟩] [0, 2, 7, 9, 10, 11, 12, 36]) (.cond (.t 36)
 .skip
 (.exit 4))) (.seq (.block 5 (.seq (.reg [⟨(some 39), .mv (.t 9) false, none⟩,
  ⟨(some 40), .mv (.t 11) false, none⟩,
  ⟨(some 41), .bin .add .int (.t 39) (.t 40), none⟩,
  ⟨(some 42), .bin .rem .int (.t 41) (.c (.int .u64 2)), none⟩,
  ⟨(some 13), .mv (.t 42) true, none⟩] [0, 2, 7, 9, 10, 11, 12, 13]) (.seq (.reg [⟨(some 43), .mv (.t 9) true, none⟩,
  ⟨(some 44), .bin .quo .int (.t 43) (.c (.int .u64 2)), none⟩,
  ⟨(some 9), .mv (.t 44) true, none⟩] [0, 2, 7, 9, 10, 11, 12, 13]) (.seq (.reg [⟨(some 45), .mv (.t 11) true, none⟩,
  ⟨(some 46), .bin .quo .int (.t 45) (.c (.int .u64 2)), none⟩,
  ⟨(some 11), .mv (.t 46) true, none⟩] [0, 2, 7, 9, 10, 11, 12, 13]) (.seq (.reg [⟨(some 47), .mv (.t 13) true, none⟩,
  ⟨(some 48), .bin .eql .int (.t 47) (.c (.int .u64 1)), none⟩] [0, 2, 7, 9, 10, 11, 12, 48]) (.cond (.t 48)
 (.reg [⟨(some 49), .mv (.t 9) true, none⟩,
  ⟨(some 50), .mv (.t 2) false, none⟩,
  ⟨(some 51), .bin .xor .int (.t 49) (.t 50), none⟩,
  ⟨(some 9), .mv (.t 51) true, none⟩] [0, 2, 7, 9, 10, 11, 12])
 .skip)))))) (.reg [⟨(some 37), .mv (.t 12) true, none⟩,
  ⟨(some 38), .bin .add .int (.t 37) (.c (.int .i64 1)), none⟩,
  ⟨(some 12), .mv (.t 38) true, none⟩] [0, 2, 7, 9, 10, 11, 12])))
def l_ref03_Sum_1 : ACode := .loop [0, 2, 7, 9, 10, 11, 12] [] bl_ref03_Sum_1
theorem L_ref03_Sum_1 {T : Table} (ks : List Kt) (e : Env) (h : Heap) (Q : Ex → Env → Heap → Prop) : Xc T l_ref03_Sum_1 ks e h Q = Xc T bl_ref03_Sum_1 (.seq l_ref03_Sum_1 :: ks) (e.keep [0, 2, 7, 9, 10, 11, 12]) h Q := Xc_loop ks _ e h Q _ _
def bl_ref03_Sum_2 : ACode := (.seq (.seq (.reg [⟨(some 24), .mv (.t 10) false, none⟩,
  ⟨(some 25), .mv (.t 0) false, none⟩,
  ⟨(some 26), .len false (.t 25), none⟩,
  ⟨(some 27), .bin .lss .int (.t 24) (.t 26), none⟩] [0, 2, 7, 9, 10, 27]) (.cond (.t 27)
 .skip
 (.exit 2))) (.seq (.block 3 (.seq (.reg [⟨(some 30), .mv (.t 0) false, none⟩,
  ⟨(some 31), .mv (.t 10) false, none⟩,
  ⟨(some 32), .ia (.sl 1) (.t 30) (.t 31), none⟩,
  ⟨(some 33), .load 0 (.t 32), none⟩,
  ⟨(some 34), .conv (.i .u64) (.t 33), none⟩,
  ⟨(some 11), .mv (.t 34) true, none⟩] [0, 2, 7, 9, 10, 11]) (.seq (.reg [⟨(some 12), .mv (.c (.int .i64 0)) false, none⟩] [0, 2, 7, 9, 10, 11, 12]) (.block 4 l_ref03_Sum_1)))) (.reg [⟨(some 28), .mv (.t 10) true, none⟩,
  ⟨(some 29), .bin .add .int (.t 28) (.c (.int .i64 1)), none⟩,
  ⟨(some 10), .mv (.t 29) true, none⟩] [0, 2, 7, 9, 10])))
def l_ref03_Sum_2 : ACode := .loop [0, 2, 7, 9, 10] [] bl_ref03_Sum_2
theorem L_ref03_Sum_2 {T : Table} (ks : List Kt) (e : Env) (h : Heap) (Q : Ex → Env → Heap → Prop) : Xc T l_ref03_Sum_2 ks e h Q = Xc T bl_ref03_Sum_2 (.seq l_ref03_Sum_2 :: ks) (e.keep [0, 2, 7, 9, 10]) h Q := Xc_loop ks _ e h Q _ _
def k_ref03_Sum : ACode := (.seq (.reg [⟨(some 6), .mv (.c (.int .u64 0)) false, none⟩] [0, 1, 2]) (.seq (.reg [⟨(some 7), .mv (.c (.int .u64 1)) false, none⟩] [0, 1, 2, 7]) (.seq (.seq (.reg [⟨(some 8), .mv (.c (.int .i64 0)) false, none⟩] [0, 1, 2, 7, 8]) (.block 0 l_ref03_Sum_0)) (.seq (.reg [⟨(some 21), .mv (.t 7) true, none⟩,
  ⟨(some 22), .bin .sub .int (.t 21) (.c (.int .u64 1)), none⟩,
  ⟨(some 7), .mv (.t 22) true, none⟩] [0, 2, 7]) (.seq (.reg [⟨(some 23), .mv (.t 7) false, none⟩,
  ⟨(some 9), .mv (.t 23) true, none⟩] [0, 2, 7, 9]) (.seq (.seq (.reg [⟨(some 10), .mv (.c (.int .i64 0)) false, none⟩] [0, 2, 7, 9, 10]) (.block 2 l_ref03_Sum_2)) (.seq (.reg [⟨(some 52), .mv (.t 9) true, none⟩,
  ⟨(some 53), .mv (.t 7) true, none⟩,
  ⟨(some 54), .bin .xor .int (.t 52) (.t 53), none⟩,
  ⟨(some 6), .mv (.t 54) true, none⟩] [6]) .ret)))))))
def c_ref03_Sum : AFunc := ⟨k_ref03_Sum, 55, [.t 6], [], [], []⟩
-- 61: wagtail/wagtailref03.Of

def k_ref03_Of : ACode := (.seq (.reg [⟨(some 4), .mv (.c (.int .u64 0)) false, none⟩] [0, 1]) (.seq (.seq (.reg [⟨(some 5), .mv (.t 0) false, none⟩,
  ⟨(some 6), .bin .eql .int (.t 5) (.c (.int .i64 1)), none⟩] [0, 1, 6]) (.cond (.t 6)
 (.seq (.reg [⟨(some 7), .mv (.t 1) true, none⟩,
  ⟨(some 8), .callp f_ref03_Sum [(.t 7), (.c (.int .i64 16)), (.c (.int .u64 33800))] [(0, false)], none⟩,
  ⟨(some 4), .mv (.t 8) true, none⟩] [4]) .ret)
 .skip)) (.seq (.seq (.reg [⟨(some 9), .mv (.t 0) true, none⟩,
  ⟨(some 10), .bin .eql .int (.t 9) (.c (.int .i64 2)), none⟩] [1, 10]) (.cond (.t 10)
 (.seq (.reg [⟨(some 11), .mv (.t 1) true, none⟩,
  ⟨(some 12), .callp f_ref03_Sum [(.t 11), (.c (.int .i64 32)), (.c (.int .u64 2197175160))] [(0, false)], none⟩,
  ⟨(some 4), .mv (.t 12) true, none⟩] [4]) .ret)
 .skip)) (.seq (.reg [⟨(some 4), .mv (.c (.int .u64 0)) false, none⟩] [4]) .ret))))
def c_ref03_Of : AFunc := ⟨k_ref03_Of, 13, [.t 4], [], [], []⟩
-- 36: wagtail/wagtailref09.Seal
def bl_ref09_Seal_0 : ACode := (.seq (.seq (.reg [⟨(some 20), .mv (.t 8) false, none⟩,
  ⟨(some 21), .mv (.t 6) false, none⟩,
  ⟨(some 22), .bin .lss .int (.t 20) (.t 21), none⟩] [0, 1, 4, 5, 6, 7, 8, 22]) (.cond (.t 22)
 .skip
 (.exit 0))) (.seq (.block 1 (.reg [⟨(some 25), .mv (.t 7) true, none⟩,
  ⟨(some 26), .bin .add .int (.t 25) (.c (.str [0])), none⟩,
  ⟨(some 7), .mv (.t 26) true, none⟩] [0, 1, 4, 5, 6, 7, 8])) (.reg [⟨(some 23), .mv (.t 8) true, none⟩,
  ⟨(some 24), .bin .add .int (.t 23) (.c (.int .i64 1)), none⟩,
  ⟨(some 8), .mv (.t 24) true, none⟩] [0, 1, 4, 5, 6, 7, 8])))
def l_ref09_Seal_0 : ACode := .loop [0, 1, 4, 5, 6, 7, 8] [] bl_ref09_Seal_0
theorem L_ref09_Seal_0 {T : Table} (ks : List Kt) (e : Env) (h : Heap) (Q : Ex → Env → Heap → Prop) : Xc T l_ref09_Seal_0 ks e h Q = Xc T bl_ref09_Seal_0 (.seq l_ref09_Seal_0 :: ks) (e.keep [0, 1, 4, 5, 6, 7, 8]) h Q := Xc_loop ks _ e h Q _ _
def k_ref09_Seal : ACode := (.seq (.reg [⟨(some 4), .alloc [(.int .i64 0), (.int .u64 0), (.str []), (.ps 4 [])], none⟩] [0, 1, 4]) (.seq (.reg [⟨(some 11), .bsl 4 [] true, none⟩,
  ⟨(some 12), .mv (.t 0) false, none⟩,
  ⟨(some 13), .apph 4 56 (.t 11) (.t 12), none⟩,
  ⟨(some 14), .build [(.int .i64 0), (.int .u64 0), (.str []), (.hn 4)] [(0, 1, (.c (.int .i64 4))), (3, 1, (.t 13))], none⟩,
  ⟨(some 5), .alloc [(.int .i64 0), (.int .u64 0), (.str []), (.hn 4)], none⟩,
  ⟨none, .store 4 (.t 5) (.t 14), none⟩] [0, 1, 4, 5]) (.seq (.seq (.reg [⟨(some 15), .mv (.t 1) false, none⟩,
  ⟨(some 16), .bin .eql .int (.t 15) (.c (.int .i64 0)), none⟩] [0, 1, 4, 5, 16]) (.cond (.t 16)
 (.seq (.reg [⟨(some 17), .ldz 4 (.t 5) true, none⟩,
  ⟨none, .store 4 (.t 4) (.t 17), none⟩] [4]) .ret)
 .skip)) (.seq (.reg [⟨(some 18), .mv (.t 1) false, none⟩,
  ⟨(some 19), .bin .mul .int (.c (.int .i64 2)) (.t 18), none⟩,
  ⟨(some 6), .mv (.t 19) true, none⟩] [0, 1, 4, 5, 6]) (.seq (.reg [⟨(some 7), .mv (.c (.str [])) false, none⟩] [0, 1, 4, 5, 6, 7]) (.seq (.seq (.reg [⟨(some 8), .mv (.c (.int .i64 0)) false, none⟩] [0, 1, 4, 5, 6, 7, 8]) (.block 0 l_ref09_Seal_0)) (.seq (.reg [⟨(some 27), .bsl 4 [] false, none⟩,
  ⟨(some 28), .mv (.t 0) true, none⟩,
  ⟨(some 29), .app 4 56 (.t 27) (.t 28), none⟩,
  ⟨(some 30), .mv (.t 7) true, none⟩,
  ⟨(some 31), .build [(.int .i64 0), (.int .u64 0), (.str []), (.ps 4 [])] [(0, 1, (.c (.int .i64 2))), (2, 1, (.t 30))], none⟩,
  ⟨(some 32), .bsl 4 [(.t 31)] false, none⟩,
  ⟨(some 33), .app 4 56 (.t 29) (.t 32), none⟩,
  ⟨(some 34), .build [(.int .i64 0), (.int .u64 0), (.str []), (.ps 4 [])] [(0, 1, (.c (.int .i64 4))), (3, 1, (.t 33))], none⟩,
  ⟨(some 9), .alloc [(.int .i64 0), (.int .u64 0), (.str []), (.ps 4 [])], none⟩,
  ⟨none, .store 4 (.t 9) (.t 34), none⟩] [1, 4, 5, 6, 9]) (.seq (.reg [⟨(some 35), .mv (.t 6) true, none⟩,
  ⟨(some 36), .mv (.t 1) true, none⟩,
  ⟨(some 37), .load 4 (.t 9), none⟩,
  ⟨(some 38), .callp f_ref06_Put [(.t 37)] [], none⟩,
  ⟨(some 39), .callp f_ref03_Of [(.t 36), (.t 38)] [(1, false)], none⟩,
  ⟨(some 40), .callp f_ref01_Bytes [(.t 35), (.t 39)] [], none⟩,
  ⟨(some 41), .conv .bs (.t 40), none⟩,
  ⟨(some 10), .mv (.t 41) true, none⟩] [4, 5, 10]) (.seq (.reg [⟨(some 42), .fa 3 (.t 5), none⟩,
  ⟨(some 43), .load 0 (.t 42), none⟩,
  ⟨(some 44), .mv (.t 10) true, none⟩,
  ⟨(some 45), .build [(.int .i64 0), (.int .u64 0), (.str []), (.ps 4 [])] [(0, 1, (.c (.int .i64 2))), (2, 1, (.t 44))], none⟩,
  ⟨(some 46), .bsl 4 [(.t 45)] false, none⟩,
  ⟨(some 47), .apph 4 56 (.t 43) (.t 46), none⟩,
  ⟨(some 48), .fa 3 (.t 5), none⟩,
  ⟨none, .store 1 (.t 48) (.t 47), none⟩] [4, 5]) (.seq (.reg [⟨(some 49), .ldz 4 (.t 5) true, none⟩,
  ⟨none, .store 4 (.t 4) (.t 49), none⟩] [4]) .ret))))))))))
def c_ref09_Seal : AFunc := ⟨k_ref09_Seal, 50, [.c 4 4], [], [], []⟩
-- 31: wagtail/wagtailref09.Value

def k_ref09_Value : ACode := (.seq (.reg [⟨(some 1), .box (.t 0), none⟩,
  ⟨(some 2), .alloc [(.int .i64 0), (.int .u64 0), (.str []), (.ps 4 [])], none⟩] [1, 2]) (.seq (.reg [⟨(some 3), .fa 0 (.t 1), none⟩,
  ⟨(some 4), .load 0 (.t 3), none⟩,
  ⟨(some 5), .build [(.int .i64 0), (.int .u64 0), (.str []), (.ps 4 [])] [(1, 1, (.t 4))], none⟩,
  ⟨(some 6), .fa 1 (.t 1), none⟩,
  ⟨(some 7), .load 0 (.t 6), none⟩,
  ⟨(some 8), .build [(.int .i64 0), (.int .u64 0), (.str []), (.ps 4 [])] [(1, 1, (.t 7))], none⟩,
  ⟨(some 9), .fa 2 (.t 1), none⟩,
  ⟨(some 10), .load 0 (.t 9), none⟩,
  ⟨(some 11), .build [(.int .i64 0), (.int .u64 0), (.str []), (.ps 4 [])] [(1, 1, (.t 10))], none⟩,
  ⟨(some 12), .fa 3 (.t 1), none⟩,
  ⟨(some 13), .load 0 (.t 12), none⟩,
  ⟨(some 14), .conv (.i .u64) (.t 13), none⟩,
  ⟨(some 15), .build [(.int .i64 0), (.int .u64 0), (.str []), (.ps 4 [])] [(1, 1, (.t 14))], none⟩,
  ⟨(some 16), .fa 4 (.t 1), none⟩,
  ⟨(some 17), .load 0 (.t 16), none⟩,
  ⟨(some 18), .build [(.int .i64 0), (.int .u64 0), (.str []), (.ps 4 [])] [(0, 1, (.c (.int .i64 2))), (2, 1, (.t 17))], none⟩,
  ⟨(some 19), .bsl 4 [(.t 5), (.t 8), (.t 11), (.t 15), (.t 18)] false, none⟩,
  ⟨(some 20), .fa 3 (.t 1), none⟩,
  ⟨(some 21), .load 0 (.t 20), none⟩,
  ⟨(some 22), .callp f_ref09_Seal [(.t 19), (.t 21)] [], none⟩,
  ⟨none, .store 4 (.t 2) (.t 22), none⟩] [2]) .ret))
def c_ref09_Value : AFunc := ⟨k_ref09_Value, 23, [.c 2 4], [], [], []⟩
-- 4: wagtail/wagtaillaw09.BlockPuts

def k_law09_BlockPuts : ACode := (.seq (.reg [⟨(some 1), .box (.t 0), none⟩,
  ⟨(some 2), .mv (.c (.bool false)) false, none⟩] [1]) (.seq (.seq (.reg [⟨(some 10), .fa 4 (.t 1), none⟩,
  ⟨(some 11), .load 0 (.t 10), none⟩,
  ⟨(some 12), .len true (.t 11), none⟩,
  ⟨(some 13), .bin .gtr .int (.t 12) (.c (.int .i64 300)), none⟩,
  ⟨(some 14), .mv (.t 13) true, none⟩,
  ⟨(some 15), .fa 4 (.t 1), (some (14, true))⟩,
  ⟨(some 16), .load 0 (.t 15), (some (14, true))⟩,
  ⟨(some 17), .len true (.t 16), (some (14, true))⟩,
  ⟨(some 18), .bin .leq .int (.t 17) (.c (.int .i64 65536)), (some (14, true))⟩,
  ⟨(some 19), .pick (.t 14) (.t 18) (.c (.bool false)), none⟩,
  ⟨(some 20), .mv (.t 19) true, none⟩,
  ⟨(some 21), .fa 4 (.t 1), (some (20, false))⟩,
  ⟨(some 22), .load 0 (.t 21), (some (20, false))⟩,
  ⟨(some 23), .len true (.t 22), (some (20, false))⟩,
  ⟨(some 24), .bin .gtr .int (.t 23) (.c (.int .i64 70000)), (some (20, false))⟩,
  ⟨(some 25), .pick (.t 20) (.c (.bool true)) (.t 24), none⟩] [1, 25]) (.cond (.t 25)
 (.seq (.reg [⟨(some 26), .callp f_law09_awake [] [], none⟩,
  ⟨(some 2), .mv (.t 26) true, none⟩] [2]) .ret)
 .skip)) (.seq (.reg [⟨(some 28), .load 5 (.t 1), none⟩,
  ⟨(some 29), .callp f_block_Put [(.t 28)] [], none⟩,
  ⟨(some 27), .mv (.t 29) true, none⟩,
  ⟨(some 30), .ext (.t 27) 0, none⟩,
  ⟨(some 31), .ext (.t 27) 1, none⟩,
  ⟨(some 3), .mv (.t 30) true, none⟩,
  ⟨(some 4), .mv (.t 31) true, none⟩] [1, 3, 4]) (.seq (.reg [⟨(some 32), .load 5 (.t 1), none⟩,
  ⟨(some 33), .callp f_ref09_Check [(.t 32)] [], none⟩,
  ⟨(some 5), .mv (.t 33) true, none⟩] [1, 3, 4, 5]) (.seq (.seq (.reg [⟨(some 34), .load 5 (.t 1), none⟩,
  ⟨(some 35), .callp f_block_Check [(.t 34)] [], none⟩,
  ⟨(some 36), .mv (.t 5) false, none⟩,
  ⟨(some 37), .bin .neq .int (.t 35) (.t 36), none⟩] [1, 3, 4, 5, 37]) (.cond (.t 37)
 (.seq (.reg [⟨(some 2), .mv (.c (.bool false)) false, none⟩] [2]) .ret)
 .skip)) (.seq (.seq (.reg [⟨(some 38), .mv (.t 5) false, none⟩,
  ⟨(some 39), .bin .neq .int (.t 38) (.c (.int .i64 0)), none⟩] [1, 3, 4, 5, 39]) (.cond (.t 39)
 (.seq (.reg [⟨(some 40), .callp f_law09_awake [] [], none⟩,
  ⟨(some 41), .mv (.t 40) true, none⟩,
  ⟨(some 42), .mv (.t 3) true, (some (41, true))⟩,
  ⟨(some 43), .len false (.t 42), (some (41, true))⟩,
  ⟨(some 44), .bin .eql .int (.t 43) (.c (.int .i64 0)), (some (41, true))⟩,
  ⟨(some 45), .pick (.t 41) (.t 44) (.c (.bool false)), none⟩,
  ⟨(some 46), .mv (.t 45) true, none⟩,
  ⟨(some 47), .mv (.t 4) true, (some (46, true))⟩,
  ⟨(some 48), .mv (.t 5) true, (some (46, true))⟩,
  ⟨(some 49), .bin .eql .int (.t 47) (.t 48), (some (46, true))⟩,
  ⟨(some 50), .pick (.t 46) (.t 49) (.c (.bool false)), none⟩,
  ⟨(some 51), .mv (.t 50) true, none⟩,
  ⟨(some 52), .load 5 (.t 1), (some (51, true))⟩,
  ⟨(some 53), .callp f_block_Size [(.t 52)] [], (some (51, true))⟩,
  ⟨(some 54), .bin .eql .int (.t 53) (.c (.int .i64 0)), (some (51, true))⟩,
  ⟨(some 55), .pick (.t 51) (.t 54) (.c (.bool false)), none⟩,
  ⟨(some 2), .mv (.t 55) true, none⟩] [2]) .ret)
 .skip)) (.seq (.reg [⟨(some 57), .mv (.t 3) false, none⟩,
  ⟨(some 58), .callp f_item_Whole [(.t 57)] [], none⟩,
  ⟨(some 56), .mv (.t 58) true, none⟩,
  ⟨(some 59), .ext (.t 56) 0, none⟩,
  ⟨(some 60), .ext (.t 56) 1, none⟩,
  ⟨(some 6), .mv (.t 59) true, none⟩,
  ⟨(some 7), .mv (.t 60) true, none⟩] [1, 3, 4, 6, 7]) (.seq (.reg [⟨(some 62), .mv (.t 6) true, none⟩,
  ⟨(some 63), .callp f_block_Get [(.t 62)] [], none⟩,
  ⟨(some 61), .mv (.t 63) true, none⟩,
  ⟨(some 64), .ext (.t 61) 0, none⟩,
  ⟨(some 65), .ext (.t 61) 1, none⟩,
  ⟨(some 8), .alloc [(.int .u64 0), (.int .u64 0), (.int .u64 0), (.int .i64 0), (.str [])], none⟩,
  ⟨none, .store 5 (.t 8) (.t 64), none⟩,
  ⟨(some 9), .mv (.t 65) true, none⟩] [1, 3, 4, 7, 8, 9]) (.seq (.regd [⟨(some 66), .callp f_law09_awake [] [], none⟩,
  ⟨(some 67), .mv (.t 66) false, none⟩,
  ⟨(some 68), .mv (.t 4) false, (some (67, true))⟩,
  ⟨(some 69), .bin .eql .int (.t 68) (.c (.int .i64 0)), (some (67, true))⟩,
  ⟨(some 70), .pick (.t 67) (.t 69) (.c (.bool false)), none⟩,
  ⟨(some 71), .mv (.t 70) false, none⟩,
  ⟨(some 72), .mv (.t 3) false, (some (71, true))⟩,
  ⟨(some 73), .conv .bs (.t 72), (some (71, true))⟩,
  ⟨(some 74), .load 5 (.t 1), (some (71, true))⟩,
  ⟨(some 75), .callp f_ref09_Value [(.t 74)] [], (some (71, true))⟩,
  ⟨(some 76), .callp f_ref06_Put [(.t 75)] [], (some (71, true))⟩,
  ⟨(some 77), .conv .bs (.t 76), (some (71, true))⟩,
  ⟨(some 78), .bin .eql .str (.t 73) (.t 77), (some (71, true))⟩,
  ⟨(some 79), .pick (.t 71) (.t 78) (.c (.bool false)), none⟩,
  ⟨(some 80), .mv (.t 79) false, none⟩,
  ⟨(some 81), .mv (.t 7) false, (some (80, true))⟩,
  ⟨(some 82), .bin .eql .int (.t 81) (.c (.int .i64 0)), (some (80, true))⟩,
  ⟨(some 83), .pick (.t 80) (.t 82) (.c (.bool false)), none⟩,
  ⟨(some 84), .mv (.t 83) false, none⟩,
  ⟨(some 85), .load 5 (.t 8), (some (84, true))⟩,
  ⟨(some 86), .load 5 (.t 1), (some (84, true))⟩,
  ⟨(some 87), .bin .eql (.agg (.cons 0 0 .int (.cons 1 0 .int (.cons 2 0 .int (.cons 3 0 .int (.cons 4 0 .str .nil)))))) (.t 85) (.t 86), (some (84, true))⟩,
  ⟨(some 88), .pick (.t 84) (.t 87) (.c (.bool false)), none⟩,
  ⟨(some 89), .mv (.t 88) false, none⟩,
  ⟨(some 90), .mv (.t 9) false, (some (89, true))⟩,
  ⟨(some 91), .bin .eql .int (.t 90) (.c (.int .i64 0)), (some (89, true))⟩,
  ⟨(some 92), .pick (.t 89) (.t 91) (.c (.bool false)), none⟩,
  ⟨(some 93), .mv (.t 92) false, none⟩,
  ⟨(some 94), .load 5 (.t 1), (some (93, true))⟩,
  ⟨(some 95), .callp f_block_Size [(.t 94)] [], (some (93, true))⟩,
  ⟨(some 96), .mv (.t 3) false, (some (93, true))⟩,
  ⟨(some 97), .len false (.t 96), (some (93, true))⟩,
  ⟨(some 98), .bin .eql .int (.t 95) (.t 97), (some (93, true))⟩,
  ⟨(some 99), .pick (.t 93) (.t 98) (.c (.bool false)), none⟩,
  ⟨(some 2), .mv (.t 99) false, none⟩] [2] ([], []) []) .ret)))))))))
def c_law09_BlockPuts : AFunc := ⟨k_law09_BlockPuts, 100, [.t 2], [], [], []⟩
-- 33: wagtail/wagtailref09.Get
def bl_ref09_Get_0 : ACode := (.seq (.seq (.reg [⟨(some 24), .mv (.t 4) false, none⟩,
  ⟨(some 25), .bin .lss .int (.t 24) (.c (.int .i64 4)), none⟩] [1, 2, 4, 25]) (.cond (.t 25)
 .skip
 (.exit 0))) (.seq (.block 1 (.seq (.reg [⟨(some 28), .fa 3 (.t 1), none⟩,
  ⟨(some 29), .load 0 (.t 28), none⟩,
  ⟨(some 30), .mv (.t 4) false, none⟩,
  ⟨(some 31), .ia (.sl 4) (.t 29) (.t 30), none⟩,
  ⟨(some 32), .fa 0 (.t 31), none⟩,
  ⟨(some 33), .load 0 (.t 32), none⟩,
  ⟨(some 34), .bin .neq .int (.t 33) (.c (.int .i64 0)), none⟩] [1, 2, 4, 34]) (.cond (.t 34)
 (.seq (.reg [⟨(some 35), .build [(.int .u64 0), (.int .u64 0), (.int .u64 0), (.int .i64 0), (.str [])] [], none⟩,
  ⟨none, .store 5 (.t 2) (.t 35), none⟩,
  ⟨(some 3), .mv (.c (.int .i64 18)) false, none⟩] [2, 3]) .ret)
 .skip))) (.reg [⟨(some 26), .mv (.t 4) true, none⟩,
  ⟨(some 27), .bin .add .int (.t 26) (.c (.int .i64 1)), none⟩,
  ⟨(some 4), .mv (.t 27) true, none⟩] [1, 2, 4])))
def l_ref09_Get_0 : ACode := .loop [1, 2, 4] [] bl_ref09_Get_0
theorem L_ref09_Get_0 {T : Table} (ks : List Kt) (e : Env) (h : Heap) (Q : Ex → Env → Heap → Prop) : Xc T l_ref09_Get_0 ks e h Q = Xc T bl_ref09_Get_0 (.seq l_ref09_Get_0 :: ks) (e.keep [1, 2, 4]) h Q := Xc_loop ks _ e h Q _ _
def k_ref09_Get : ACode := (.seq (.reg [⟨(some 1), .box (.t 0), none⟩,
  ⟨(some 2), .alloc [(.int .u64 0), (.int .u64 0), (.int .u64 0), (.int .i64 0), (.str [])], none⟩,
  ⟨(some 3), .mv (.c (.int .i64 0)) false, none⟩] [1, 2]) (.seq (.seq (.reg [⟨(some 8), .fa 0 (.t 1), none⟩,
  ⟨(some 9), .load 0 (.t 8), none⟩,
  ⟨(some 10), .bin .neq .int (.t 9) (.c (.int .i64 4)), none⟩,
  ⟨(some 11), .mv (.t 10) true, none⟩,
  ⟨(some 12), .fa 3 (.t 1), (some (11, false))⟩,
  ⟨(some 13), .load 0 (.t 12), (some (11, false))⟩,
  ⟨(some 14), .len false (.t 13), (some (11, false))⟩,
  ⟨(some 15), .bin .lss .int (.t 14) (.c (.int .i64 5)), (some (11, false))⟩,
  ⟨(some 16), .pick (.t 11) (.c (.bool true)) (.t 15), none⟩,
  ⟨(some 17), .mv (.t 16) true, none⟩,
  ⟨(some 18), .fa 3 (.t 1), (some (17, false))⟩,
  ⟨(some 19), .load 0 (.t 18), (some (17, false))⟩,
  ⟨(some 20), .len false (.t 19), (some (17, false))⟩,
  ⟨(some 21), .bin .gtr .int (.t 20) (.c (.int .i64 6)), (some (17, false))⟩,
  ⟨(some 22), .pick (.t 17) (.c (.bool true)) (.t 21), none⟩] [1, 2, 22]) (.cond (.t 22)
 (.seq (.reg [⟨(some 23), .build [(.int .u64 0), (.int .u64 0), (.int .u64 0), (.int .i64 0), (.str [])] [], none⟩,
  ⟨none, .store 5 (.t 2) (.t 23), none⟩,
  ⟨(some 3), .mv (.c (.int .i64 18)) false, none⟩] [2, 3]) .ret)
 .skip)) (.seq (.seq (.reg [⟨(some 4), .mv (.c (.int .i64 0)) false, none⟩] [1, 2, 4]) (.block 0 l_ref09_Get_0)) (.seq (.reg [⟨(some 36), .fa 3 (.t 1), none⟩,
  ⟨(some 37), .load 0 (.t 36), none⟩,
  ⟨(some 38), .ia (.sl 4) (.t 37) (.c (.int .i64 3)), none⟩,
  ⟨(some 39), .fa 1 (.t 38), none⟩,
  ⟨(some 40), .load 0 (.t 39), none⟩,
  ⟨(some 5), .mv (.t 40) true, none⟩] [1, 2, 5]) (.seq (.seq (.reg [⟨(some 41), .fa 3 (.t 1), none⟩,
  ⟨(some 42), .load 0 (.t 41), none⟩,
  ⟨(some 43), .ia (.sl 4) (.t 42) (.c (.int .i64 4)), none⟩,
  ⟨(some 44), .fa 0 (.t 43), none⟩,
  ⟨(some 45), .load 0 (.t 44), none⟩,
  ⟨(some 46), .bin .neq .int (.t 45) (.c (.int .i64 2)), none⟩,
  ⟨(some 47), .mv (.t 46) true, none⟩,
  ⟨(some 48), .mv (.t 5) false, (some (47, false))⟩,
  ⟨(some 49), .bin .gtr .int (.t 48) (.c (.int .u64 2)), (some (47, false))⟩,
  ⟨(some 50), .pick (.t 47) (.c (.bool true)) (.t 49), none⟩,
  ⟨(some 51), .mv (.t 50) true, none⟩,
  ⟨(some 52), .mv (.t 5) false, (some (51, false))⟩,
  ⟨(some 53), .bin .eql .int (.t 52) (.c (.int .u64 0)), (some (51, false))⟩,
  ⟨(some 54), .mv (.t 53) true, (some (51, false))⟩,
  ⟨(some 55), .fa 3 (.t 1), (some (54, true))⟩,
  ⟨(some 56), .load 0 (.t 55), (some (54, true))⟩,
  ⟨(some 57), .len false (.t 56), (some (54, true))⟩,
  ⟨(some 58), .bin .neq .int (.t 57) (.c (.int .i64 5)), (some (54, true))⟩,
  ⟨(some 59), .pick (.t 54) (.t 58) (.c (.bool false)), (some (51, false))⟩,
  ⟨(some 60), .pick (.t 51) (.c (.bool true)) (.t 59), none⟩,
  ⟨(some 61), .mv (.t 60) true, none⟩,
  ⟨(some 62), .mv (.t 5) false, (some (61, false))⟩,
  ⟨(some 63), .bin .gtr .int (.t 62) (.c (.int .u64 0)), (some (61, false))⟩,
  ⟨(some 64), .mv (.t 63) true, (some (61, false))⟩,
  ⟨(some 65), .fa 3 (.t 1), (some (64, true))⟩,
  ⟨(some 66), .load 0 (.t 65), (some (64, true))⟩,
  ⟨(some 67), .len false (.t 66), (some (64, true))⟩,
  ⟨(some 68), .bin .neq .int (.t 67) (.c (.int .i64 6)), (some (64, true))⟩,
  ⟨(some 69), .mv (.t 68) true, (some (64, true))⟩,
  ⟨(some 70), .fa 3 (.t 1), (some (69, false))⟩,
  ⟨(some 71), .load 0 (.t 70), (some (69, false))⟩,
  ⟨(some 72), .ia (.sl 4) (.t 71) (.c (.int .i64 5)), (some (69, false))⟩,
  ⟨(some 73), .fa 0 (.t 72), (some (69, false))⟩,
  ⟨(some 74), .load 0 (.t 73), (some (69, false))⟩,
  ⟨(some 75), .bin .neq .int (.t 74) (.c (.int .i64 2)), (some (69, false))⟩,
  ⟨(some 76), .pick (.t 69) (.c (.bool true)) (.t 75), (some (64, true))⟩,
  ⟨(some 77), .pick (.t 64) (.t 76) (.c (.bool false)), (some (61, false))⟩,
  ⟨(some 78), .pick (.t 61) (.c (.bool true)) (.t 77), none⟩] [1, 2, 5, 78]) (.cond (.t 78)
 (.seq (.reg [⟨(some 79), .build [(.int .u64 0), (.int .u64 0), (.int .u64 0), (.int .i64 0), (.str [])] [], none⟩,
  ⟨none, .store 5 (.t 2) (.t 79), none⟩,
  ⟨(some 3), .mv (.c (.int .i64 18)) false, none⟩] [2, 3]) .ret)
 .skip)) (.seq (.regd [⟨(some 80), .fa 3 (.t 1), none⟩,
  ⟨(some 81), .load 0 (.t 80), none⟩,
  ⟨(some 82), .ia (.sl 4) (.t 81) (.c (.int .i64 0)), none⟩,
  ⟨(some 83), .fa 1 (.t 82), none⟩,
  ⟨(some 84), .load 0 (.t 83), none⟩,
  ⟨(some 85), .fa 3 (.t 1), none⟩,
  ⟨(some 86), .load 0 (.t 85), none⟩,
  ⟨(some 87), .ia (.sl 4) (.t 86) (.c (.int .i64 1)), none⟩,
  ⟨(some 88), .fa 1 (.t 87), none⟩,
  ⟨(some 89), .load 0 (.t 88), none⟩,
  ⟨(some 90), .fa 3 (.t 1), none⟩,
  ⟨(some 91), .load 0 (.t 90), none⟩,
  ⟨(some 92), .ia (.sl 4) (.t 91) (.c (.int .i64 2)), none⟩,
  ⟨(some 93), .fa 1 (.t 92), none⟩,
  ⟨(some 94), .load 0 (.t 93), none⟩,
  ⟨(some 95), .mv (.t 5) false, none⟩,
  ⟨(some 96), .conv (.i .i64) (.t 95), none⟩,
  ⟨(some 97), .fa 3 (.t 1), none⟩,
  ⟨(some 98), .load 0 (.t 97), none⟩,
  ⟨(some 99), .ia (.sl 4) (.t 98) (.c (.int .i64 4)), none⟩,
  ⟨(some 100), .fa 2 (.t 99), none⟩,
  ⟨(some 101), .load 0 (.t 100), none⟩,
  ⟨(some 102), .build [(.int .u64 0), (.int .u64 0), (.int .u64 0), (.int .i64 0), (.str [])] [(0, 1, (.t 84)), (1, 1, (.t 89)), (2, 1, (.t 94)), (3, 1, (.t 96)), (4, 1, (.t 101))], none⟩,
  ⟨(some 6), .alloc [(.int .u64 0), (.int .u64 0), (.int .u64 0), (.int .i64 0), (.str [])], none⟩,
  ⟨none, .store 5 (.t 6) (.t 102), none⟩] [1, 2, 6] ([], []) [(1, 0, 24), (4, 0, 24), (6, 0, 24), (9, 0, 24), (11, 0, 24), (14, 0, 24), (18, 0, 24), (21, 0, 24)]) (.seq (.seq (.regd [⟨(some 103), .load 5 (.t 6), none⟩,
  ⟨(some 104), .callp f_ref09_Value [(.t 103)] [], none⟩,
  ⟨(some 105), .callp f_ref06_Put [(.t 104)] [], none⟩,
  ⟨(some 106), .conv .bs (.t 105), none⟩,
  ⟨(some 107), .load 4 (.t 1), none⟩,
  ⟨(some 108), .callp f_ref06_Put [(.t 107)] [], none⟩,
  ⟨(some 109), .conv .bs (.t 108), none⟩,
  ⟨(some 110), .bin .neq .str (.t 106) (.t 109), none⟩] [2, 6, 110] ([], []) []) (.cond (.t 110)
 (.seq (.reg [⟨(some 111), .build [(.int .u64 0), (.int .u64 0), (.int .u64 0), (.int .i64 0), (.str [])] [], none⟩,
  ⟨none, .store 5 (.t 2) (.t 111), none⟩,
  ⟨(some 3), .mv (.c (.int .i64 7)) false, none⟩] [2, 3]) .ret)
 .skip)) (.seq (.seq (.reg [⟨(some 112), .load 5 (.t 6), none⟩,
  ⟨(some 113), .callp f_ref09_Check [(.t 112)] [], none⟩,
  ⟨(some 7), .mv (.t 113) true, none⟩] [2, 6, 7]) (.seq (.reg [⟨(some 114), .mv (.t 7) false, none⟩,
  ⟨(some 115), .bin .neq .int (.t 114) (.c (.int .i64 0)), none⟩] [2, 6, 7, 115]) (.cond (.t 115)
 (.seq (.reg [⟨(some 116), .build [(.int .u64 0), (.int .u64 0), (.int .u64 0), (.int .i64 0), (.str [])] [], none⟩,
  ⟨(some 117), .mv (.t 7) true, none⟩,
  ⟨none, .store 5 (.t 2) (.t 116), none⟩,
  ⟨(some 3), .mv (.t 117) true, none⟩] [2, 3]) .ret)
 .skip))) (.seq (.reg [⟨(some 118), .load 5 (.t 6), none⟩,
  ⟨none, .store 5 (.t 2) (.t 118), none⟩,
  ⟨(some 3), .mv (.c (.int .i64 0)) false, none⟩] [2, 3]) .ret)))))))))
def c_ref09_Get : AFunc := ⟨k_ref09_Get, 119, [.c 2 5, .t 3], [], [], []⟩
-- 5: wagtail/wagtaillaw09.BlockGets

def k_law09_BlockGets : ACode := (.seq (.reg [⟨(some 1), .box (.t 0), none⟩,
  ⟨(some 2), .mv (.c (.bool false)) false, none⟩] [1]) (.seq (.reg [⟨(some 10), .load 4 (.t 1), none⟩,
  ⟨(some 11), .callp f_ref06_Size [(.t 10)] [], none⟩,
  ⟨(some 9), .mv (.t 11) true, none⟩,
  ⟨(some 12), .ext (.t 9) 0, none⟩,
  ⟨(some 13), .ext (.t 9) 1, none⟩,
  ⟨(some 3), .mv (.t 12) true, none⟩,
  ⟨(some 4), .mv (.t 13) true, none⟩] [1, 3, 4]) (.seq (.seq (.reg [⟨(some 14), .mv (.t 3) true, none⟩,
  ⟨(some 15), .bin .gtr .int (.t 14) (.c (.int .i64 10)), none⟩,
  ⟨(some 16), .mv (.t 15) true, none⟩,
  ⟨(some 17), .mv (.t 4) true, (some (16, false))⟩,
  ⟨(some 18), .bin .gtr .int (.t 17) (.c (.int .i64 100)), (some (16, false))⟩,
  ⟨(some 19), .pick (.t 16) (.c (.bool true)) (.t 18), none⟩,
  ⟨(some 20), .mv (.t 19) true, none⟩,
  ⟨(some 21), .load 4 (.t 1), (some (20, false))⟩,
  ⟨(some 22), .callp f_ref06_Right [(.t 21)] [], (some (20, false))⟩,
  ⟨(some 23), .un .not (.t 22), (some (20, false))⟩,
  ⟨(some 24), .pick (.t 20) (.c (.bool true)) (.t 23), none⟩] [1, 24]) (.cond (.t 24)
 (.seq (.reg [⟨(some 25), .callp f_law09_awake [] [], none⟩,
  ⟨(some 2), .mv (.t 25) true, none⟩] [2]) .ret)
 .skip)) (.seq (.reg [⟨(some 27), .load 4 (.t 1), none⟩,
  ⟨(some 28), .callp f_law06_Any [(.t 27)] [], none⟩,
  ⟨(some 29), .callp f_block_Get [(.t 28)] [], none⟩,
  ⟨(some 26), .mv (.t 29) true, none⟩,
  ⟨(some 30), .ext (.t 26) 0, none⟩,
  ⟨(some 31), .ext (.t 26) 1, none⟩,
  ⟨(some 5), .alloc [(.int .u64 0), (.int .u64 0), (.int .u64 0), (.int .i64 0), (.str [])], none⟩,
  ⟨none, .store 5 (.t 5) (.t 30), none⟩,
  ⟨(some 6), .mv (.t 31) true, none⟩] [1, 5, 6]) (.seq (.reg [⟨(some 33), .load 4 (.t 1), none⟩,
  ⟨(some 34), .callp f_ref09_Get [(.t 33)] [], none⟩,
  ⟨(some 32), .mv (.t 34) true, none⟩,
  ⟨(some 35), .ext (.t 32) 0, none⟩,
  ⟨(some 36), .ext (.t 32) 1, none⟩,
  ⟨(some 7), .alloc [(.int .u64 0), (.int .u64 0), (.int .u64 0), (.int .i64 0), (.str [])], none⟩,
  ⟨none, .store 5 (.t 7) (.t 35), none⟩,
  ⟨(some 8), .mv (.t 36) true, none⟩] [5, 6, 7, 8]) (.seq (.reg [⟨(some 37), .callp f_law09_awake [] [], none⟩,
  ⟨(some 38), .mv (.t 37) true, none⟩,
  ⟨(some 39), .load 5 (.t 5), (some (38, true))⟩,
  ⟨(some 40), .load 5 (.t 7), (some (38, true))⟩,
  ⟨(some 41), .bin .eql (.agg (.cons 0 0 .int (.cons 1 0 .int (.cons 2 0 .int (.cons 3 0 .int (.cons 4 0 .str .nil)))))) (.t 39) (.t 40), (some (38, true))⟩,
  ⟨(some 42), .pick (.t 38) (.t 41) (.c (.bool false)), none⟩,
  ⟨(some 43), .mv (.t 42) true, none⟩,
  ⟨(some 44), .mv (.t 6) true, (some (43, true))⟩,
  ⟨(some 45), .mv (.t 8) true, (some (43, true))⟩,
  ⟨(some 46), .bin .eql .int (.t 44) (.t 45), (some (43, true))⟩,
  ⟨(some 47), .pick (.t 43) (.t 46) (.c (.bool false)), none⟩,
  ⟨(some 2), .mv (.t 47) true, none⟩] [2]) .ret))))))
def c_law09_BlockGets : AFunc := ⟨k_law09_BlockGets, 48, [.t 2], [], [], []⟩
-- 6: wagtail/wagtaillaw09.BlockSeals

def k_law09_BlockSeals : ACode := (.seq (.reg [⟨(some 2), .box (.t 0), none⟩,
  ⟨(some 4), .mv (.c (.bool false)) false, none⟩] [1, 2]) (.seq (.reg [⟨(some 22), .load 4 (.t 2), none⟩,
  ⟨(some 23), .callp f_ref06_Size [(.t 22)] [], none⟩,
  ⟨(some 21), .mv (.t 23) true, none⟩,
  ⟨(some 24), .ext (.t 21) 0, none⟩,
  ⟨(some 25), .ext (.t 21) 1, none⟩,
  ⟨(some 5), .mv (.t 24) true, none⟩,
  ⟨(some 6), .mv (.t 25) true, none⟩] [1, 2, 5, 6]) (.seq (.seq (.reg [⟨(some 26), .mv (.t 5) true, none⟩,
  ⟨(some 27), .bin .gtr .int (.t 26) (.c (.int .i64 10)), none⟩,
  ⟨(some 28), .mv (.t 27) true, none⟩,
  ⟨(some 29), .mv (.t 6) true, (some (28, false))⟩,
  ⟨(some 30), .bin .gtr .int (.t 29) (.c (.int .i64 100)), (some (28, false))⟩,
  ⟨(some 31), .pick (.t 28) (.c (.bool true)) (.t 30), none⟩,
  ⟨(some 32), .mv (.t 31) true, none⟩,
  ⟨(some 33), .load 4 (.t 2), (some (32, false))⟩,
  ⟨(some 34), .callp f_ref06_Right [(.t 33)] [], (some (32, false))⟩,
  ⟨(some 35), .un .not (.t 34), (some (32, false))⟩,
  ⟨(some 36), .pick (.t 32) (.c (.bool true)) (.t 35), none⟩,
  ⟨(some 37), .mv (.t 36) true, none⟩,
  ⟨(some 38), .fa 0 (.t 2), (some (37, false))⟩,
  ⟨(some 39), .load 0 (.t 38), (some (37, false))⟩,
  ⟨(some 40), .bin .neq .int (.t 39) (.c (.int .i64 4)), (some (37, false))⟩,
  ⟨(some 41), .pick (.t 37) (.c (.bool true)) (.t 40), none⟩] [1, 2, 41]) (.cond (.t 41)
 (.seq (.reg [⟨(some 42), .callp f_law09_awake [] [], none⟩,
  ⟨(some 4), .mv (.t 42) true, none⟩] [4]) .ret)
 .skip)) (.seq (.reg [⟨(some 44), .load 4 (.t 2), none⟩,
  ⟨(some 45), .callp f_law06_Any [(.t 44)] [], none⟩,
  ⟨(some 46), .callp f_item_List [(.t 45)] [], none⟩,
  ⟨(some 43), .mv (.t 46) true, none⟩,
  ⟨(some 47), .ext (.t 43) 0, none⟩,
  ⟨(some 48), .ext (.t 43) 1, none⟩,
  ⟨(some 7), .mv (.t 47) true, none⟩,
  ⟨(some 8), .mv (.t 48) true, none⟩] [1, 2, 7]) (.seq (.reg [⟨(some 50), .mv (.t 7) true, none⟩,
  ⟨(some 51), .mv (.t 1) false, none⟩,
  ⟨(some 52), .callp f_block_Seal [(.t 50), (.t 51)] [], none⟩,
  ⟨(some 49), .mv (.t 52) true, none⟩,
  ⟨(some 53), .ext (.t 49) 0, none⟩,
  ⟨(some 54), .ext (.t 49) 1, none⟩,
  ⟨(some 9), .mv (.t 53) true, none⟩,
  ⟨(some 10), .mv (.t 54) true, none⟩] [1, 2, 9, 10]) (.seq (.seq (.reg [⟨(some 55), .mv (.t 1) false, none⟩,
  ⟨(some 56), .bin .lss .int (.t 55) (.c (.int .i64 0)), none⟩,
  ⟨(some 57), .mv (.t 56) true, none⟩,
  ⟨(some 58), .mv (.t 1) false, (some (57, false))⟩,
  ⟨(some 59), .bin .gtr .int (.t 58) (.c (.int .i64 2)), (some (57, false))⟩,
  ⟨(some 60), .pick (.t 57) (.c (.bool true)) (.t 59), none⟩] [1, 2, 9, 10, 60]) (.cond (.t 60)
 (.seq (.reg [⟨(some 61), .callp f_law09_awake [] [], none⟩,
  ⟨(some 62), .mv (.t 61) true, none⟩,
  ⟨(some 63), .mv (.t 9) true, (some (62, true))⟩,
  ⟨(some 64), .len false (.t 63), (some (62, true))⟩,
  ⟨(some 65), .bin .eql .int (.t 64) (.c (.int .i64 0)), (some (62, true))⟩,
  ⟨(some 66), .pick (.t 62) (.t 65) (.c (.bool false)), none⟩,
  ⟨(some 67), .mv (.t 66) true, none⟩,
  ⟨(some 68), .mv (.t 10) true, (some (67, true))⟩,
  ⟨(some 69), .bin .eql .int (.t 68) (.c (.int .i64 2)), (some (67, true))⟩,
  ⟨(some 70), .pick (.t 67) (.t 69) (.c (.bool false)), none⟩,
  ⟨(some 4), .mv (.t 70) true, none⟩] [4]) .ret)
 .skip)) (.seq (.reg [⟨(some 72), .mv (.t 9) false, none⟩,
  ⟨(some 73), .callp f_item_Whole [(.t 72)] [], none⟩,
  ⟨(some 71), .mv (.t 73) true, none⟩,
  ⟨(some 74), .ext (.t 71) 0, none⟩,
  ⟨(some 75), .ext (.t 71) 1, none⟩,
  ⟨(some 11), .mv (.t 74) true, none⟩,
  ⟨(some 12), .mv (.t 75) true, none⟩] [1, 2, 9, 10, 11, 12]) (.seq (.reg [⟨(some 77), .mv (.t 11) true, none⟩,
  ⟨(some 78), .callp f_block_Open [(.t 77)] [], none⟩,
  ⟨(some 76), .mv (.t 78) true, none⟩,
  ⟨(some 79), .ext (.t 76) 0, none⟩,
  ⟨(some 80), .ext (.t 76) 1, none⟩,
  ⟨(some 81), .ext (.t 76) 2, none⟩,
  ⟨(some 13), .mv (.t 79) true, none⟩,
  ⟨(some 14), .mv (.t 80) true, none⟩,
  ⟨(some 15), .mv (.t 81) true, none⟩] [1, 2, 9, 10, 12, 13, 14, 15]) (.seq (.seq (.regd [⟨(some 82), .mv (.t 10) false, none⟩,
  ⟨(some 83), .bin .neq .int (.t 82) (.c (.int .i64 0)), none⟩,
  ⟨(some 84), .mv (.t 83) false, none⟩,
  ⟨(some 85), .mv (.t 9) false, (some (84, false))⟩,
  ⟨(some 86), .conv .bs (.t 85), (some (84, false))⟩,
  ⟨(some 87), .fa 3 (.t 2), (some (84, false))⟩,
  ⟨(some 88), .load 0 (.t 87), (some (84, false))⟩,
  ⟨(some 89), .mv (.t 1) false, (some (84, false))⟩,
  ⟨(some 90), .callp f_ref09_Seal [(.t 88), (.t 89)] [], (some (84, false))⟩,
  ⟨(some 91), .callp f_ref06_Put [(.t 90)] [], (some (84, false))⟩,
  ⟨(some 92), .conv .bs (.t 91), (some (84, false))⟩,
  ⟨(some 93), .bin .neq .str (.t 86) (.t 92), (some (84, false))⟩,
  ⟨(some 94), .pick (.t 84) (.c (.bool true)) (.t 93), none⟩,
  ⟨(some 95), .mv (.t 94) false, none⟩,
  ⟨(some 96), .mv (.t 12) false, (some (95, false))⟩,
  ⟨(some 97), .bin .neq .int (.t 96) (.c (.int .i64 0)), (some (95, false))⟩,
  ⟨(some 98), .pick (.t 95) (.c (.bool true)) (.t 97), none⟩] [1, 2, 13, 14, 15, 98] ([], []) []) (.cond (.t 98)
 (.seq (.reg [⟨(some 4), .mv (.c (.bool false)) false, none⟩] [4]) .ret)
 .skip)) (.seq (.seq (.reg [⟨(some 99), .mv (.t 1) false, none⟩,
  ⟨(some 100), .bin .eql .int (.t 99) (.c (.int .i64 0)), none⟩] [1, 2, 13, 14, 15, 100]) (.cond (.t 100)
 (.seq (.reg [⟨(some 101), .callp f_law09_awake [] [], none⟩,
  ⟨(some 4), .mv (.t 101) true, none⟩] [4]) .ret)
 .skip)) (.seq (.reg [⟨(some 103), .mv (.t 13) true, none⟩,
  ⟨(some 104), .mkif 36 (.t 103), none⟩,
  ⟨(some 105), .callp f_item_Put [(.t 104)] [], none⟩,
  ⟨(some 102), .mv (.t 105) true, none⟩,
  ⟨(some 106), .ext (.t 102) 0, none⟩,
  ⟨(some 107), .ext (.t 102) 1, none⟩,
  ⟨(some 16), .mv (.t 106) true, none⟩,
  ⟨(some 17), .mv (.t 107) true, none⟩] [1, 2, 14, 15, 16, 17]) (.seq (.reg [⟨(some 109), .mkif 22 (.c (.int .u64 3)), none⟩,
  ⟨(some 110), .callp f_block_Open [(.t 109)] [], none⟩,
  ⟨(some 108), .mv (.t 110) true, none⟩,
  ⟨(some 111), .ext (.t 108) 0, none⟩,
  ⟨(some 112), .ext (.t 108) 1, none⟩,
  ⟨(some 113), .ext (.t 108) 2, none⟩,
  ⟨(some 18), .mv (.t 111) true, none⟩,
  ⟨(some 19), .mv (.t 112) true, none⟩,
  ⟨(some 20), .mv (.t 113) true, none⟩] [1, 2, 14, 15, 16, 17, 20]) (.seq (.regd [⟨(some 114), .callp f_law09_awake [] [], none⟩,
  ⟨(some 115), .mv (.t 114) false, none⟩,
  ⟨(some 116), .mv (.t 14) false, (some (115, true))⟩,
  ⟨(some 117), .mv (.t 1) false, (some (115, true))⟩,
  ⟨(some 118), .bin .eql .int (.t 116) (.t 117), (some (115, true))⟩,
  ⟨(some 119), .pick (.t 115) (.t 118) (.c (.bool false)), none⟩,
  ⟨(some 120), .mv (.t 119) false, none⟩,
  ⟨(some 121), .mv (.t 15) false, (some (120, true))⟩,
  ⟨(some 122), .bin .eql .int (.t 121) (.c (.int .i64 0)), (some (120, true))⟩,
  ⟨(some 123), .pick (.t 120) (.t 122) (.c (.bool false)), none⟩,
  ⟨(some 124), .mv (.t 123) false, none⟩,
  ⟨(some 125), .mv (.t 17) false, (some (124, true))⟩,
  ⟨(some 126), .bin .eql .int (.t 125) (.c (.int .i64 0)), (some (124, true))⟩,
  ⟨(some 127), .pick (.t 124) (.t 126) (.c (.bool false)), none⟩,
  ⟨(some 128), .mv (.t 127) false, none⟩,
  ⟨(some 129), .mv (.t 16) false, (some (128, true))⟩,
  ⟨(some 130), .conv .bs (.t 129), (some (128, true))⟩,
  ⟨(some 131), .load 4 (.t 2), (some (128, true))⟩,
  ⟨(some 132), .callp f_ref06_Put [(.t 131)] [], (some (128, true))⟩,
  ⟨(some 133), .conv .bs (.t 132), (some (128, true))⟩,
  ⟨(some 134), .bin .eql .str (.t 130) (.t 133), (some (128, true))⟩,
  ⟨(some 135), .pick (.t 128) (.t 134) (.c (.bool false)), none⟩,
  ⟨(some 136), .mv (.t 135) false, none⟩,
  ⟨(some 137), .mv (.t 20) false, (some (136, true))⟩,
  ⟨(some 138), .bin .eql .int (.t 137) (.c (.int .i64 18)), (some (136, true))⟩,
  ⟨(some 139), .pick (.t 136) (.t 138) (.c (.bool false)), none⟩,
  ⟨(some 4), .mv (.t 139) false, none⟩] [4] ([(16, 0)], []) []) .ret)))))))))))))
def c_law09_BlockSeals : AFunc := ⟨k_law09_BlockSeals, 140, [.t 4], [], [], []⟩
-- 7: wagtail/wagtaillaw09.BlockTurned

def k_law09_BlockTurned : ACode := (.seq (.reg [⟨(some 2), .box (.t 0), none⟩,
  ⟨(some 4), .mv (.c (.bool false)) false, none⟩] [1, 2]) (.seq (.seq (.reg [⟨(some 14), .fa 4 (.t 2), none⟩,
  ⟨(some 15), .load 0 (.t 14), none⟩,
  ⟨(some 16), .len true (.t 15), none⟩,
  ⟨(some 17), .bin .eql .int (.t 16) (.c (.int .i64 0)), none⟩,
  ⟨(some 18), .mv (.t 17) true, none⟩,
  ⟨(some 19), .fa 4 (.t 2), (some (18, false))⟩,
  ⟨(some 20), .load 0 (.t 19), (some (18, false))⟩,
  ⟨(some 21), .len true (.t 20), (some (18, false))⟩,
  ⟨(some 22), .bin .gtr .int (.t 21) (.c (.int .i64 200)), (some (18, false))⟩,
  ⟨(some 23), .pick (.t 18) (.c (.bool true)) (.t 22), none⟩,
  ⟨(some 24), .mv (.t 23) true, none⟩,
  ⟨(some 25), .fa 3 (.t 2), (some (24, false))⟩,
  ⟨(some 26), .load 0 (.t 25), (some (24, false))⟩,
  ⟨(some 27), .bin .lss .int (.t 26) (.c (.int .i64 1)), (some (24, false))⟩,
  ⟨(some 28), .pick (.t 24) (.c (.bool true)) (.t 27), none⟩,
  ⟨(some 29), .mv (.t 28) true, none⟩,
  ⟨(some 30), .fa 3 (.t 2), (some (29, false))⟩,
  ⟨(some 31), .load 0 (.t 30), (some (29, false))⟩,
  ⟨(some 32), .bin .gtr .int (.t 31) (.c (.int .i64 2)), (some (29, false))⟩,
  ⟨(some 33), .pick (.t 29) (.c (.bool true)) (.t 32), none⟩,
  ⟨(some 34), .mv (.t 33) true, none⟩,
  ⟨(some 35), .fa 1 (.t 2), (some (34, false))⟩,
  ⟨(some 36), .load 0 (.t 35), (some (34, false))⟩,
  ⟨(some 37), .bin .eql .int (.t 36) (.c (.int .u64 0)), (some (34, false))⟩,
  ⟨(some 38), .pick (.t 34) (.c (.bool true)) (.t 37), none⟩] [1, 2, 38]) (.cond (.t 38)
 (.seq (.reg [⟨(some 39), .callp f_law09_awake [] [], none⟩,
  ⟨(some 4), .mv (.t 39) true, none⟩] [4]) .ret)
 .skip)) (.seq (.reg [⟨(some 41), .load 5 (.t 2), none⟩,
  ⟨(some 42), .callp f_block_Put [(.t 41)] [], none⟩,
  ⟨(some 40), .mv (.t 42) true, none⟩,
  ⟨(some 43), .ext (.t 40) 0, none⟩,
  ⟨(some 44), .ext (.t 40) 1, none⟩,
  ⟨(some 5), .mv (.t 43) true, none⟩,
  ⟨(some 6), .mv (.t 44) true, none⟩] [1, 2, 5, 6]) (.seq (.seq (.reg [⟨(some 45), .mv (.t 6) true, none⟩,
  ⟨(some 46), .bin .neq .int (.t 45) (.c (.int .i64 0)), none⟩] [1, 2, 5, 46]) (.cond (.t 46)
 (.seq (.reg [⟨(some 4), .mv (.c (.bool false)) false, none⟩] [4]) .ret)
 .skip)) (.seq (.reg [⟨(some 47), .mv (.t 1) true, none⟩,
  ⟨(some 48), .conv (.i .i64) (.t 47), none⟩,
  ⟨(some 49), .fa 4 (.t 2), none⟩,
  ⟨(some 50), .load 0 (.t 49), none⟩,
  ⟨(some 51), .len true (.t 50), none⟩,
  ⟨(some 52), .bin .mul .int (.c (.int .i64 8)) (.t 51), none⟩,
  ⟨(some 53), .bin .rem .int (.t 48) (.t 52), none⟩,
  ⟨(some 7), .mv (.t 53) true, none⟩] [2, 5, 7]) (.seq (.reg [⟨(some 54), .mv (.t 5) false, none⟩,
  ⟨(some 55), .len false (.t 54), none⟩,
  ⟨(some 56), .bin .sub .int (.t 55) (.c (.int .i64 1)), none⟩,
  ⟨(some 57), .fa 3 (.t 2), none⟩,
  ⟨(some 58), .load 0 (.t 57), none⟩,
  ⟨(some 59), .bin .mul .int (.c (.int .i64 2)) (.t 58), none⟩,
  ⟨(some 60), .bin .sub .int (.t 56) (.t 59), none⟩,
  ⟨(some 61), .fa 4 (.t 2), none⟩,
  ⟨(some 62), .load 0 (.t 61), none⟩,
  ⟨(some 63), .len true (.t 62), none⟩,
  ⟨(some 64), .bin .sub .int (.t 60) (.t 63), none⟩,
  ⟨(some 65), .mv (.t 7) false, none⟩,
  ⟨(some 66), .bin .quo .int (.t 65) (.c (.int .i64 8)), none⟩,
  ⟨(some 67), .bin .add .int (.t 64) (.t 66), none⟩,
  ⟨(some 8), .mv (.t 67) true, none⟩] [5, 7, 8]) (.seq (.seq (.reg [⟨(some 68), .mv (.t 8) false, none⟩,
  ⟨(some 69), .bin .lss .int (.t 68) (.c (.int .i64 0)), none⟩,
  ⟨(some 70), .mv (.t 69) true, none⟩,
  ⟨(some 71), .mv (.t 8) false, (some (70, false))⟩,
  ⟨(some 72), .mv (.t 5) false, (some (70, false))⟩,
  ⟨(some 73), .len false (.t 72), (some (70, false))⟩,
  ⟨(some 74), .bin .geq .int (.t 71) (.t 73), (some (70, false))⟩,
  ⟨(some 75), .pick (.t 70) (.c (.bool true)) (.t 74), none⟩] [5, 7, 8, 75]) (.cond (.t 75)
 (.seq (.reg [⟨(some 4), .mv (.c (.bool false)) false, none⟩] [4]) .ret)
 .skip)) (.seq (.reg [⟨(some 76), .bsl 1 [] true, none⟩,
  ⟨(some 77), .mv (.t 5) true, none⟩,
  ⟨(some 78), .apph 1 1 (.t 76) (.t 77), none⟩,
  ⟨(some 9), .mv (.t 78) true, none⟩] [7, 8, 9]) (.seq (.regd [⟨(some 79), .mv (.t 9) false, none⟩,
  ⟨(some 80), .mv (.t 8) false, none⟩,
  ⟨(some 81), .ia (.sl 1) (.t 79) (.t 80), none⟩,
  ⟨(some 82), .load 0 (.t 81), none⟩,
  ⟨(some 83), .mv (.t 7) false, none⟩,
  ⟨(some 84), .bin .rem .int (.t 83) (.c (.int .i64 8)), none⟩,
  ⟨(some 85), .bin .shl .int (.c (.int .u8 1)) (.t 84), none⟩,
  ⟨(some 86), .bin .xor .int (.t 82) (.t 85), none⟩,
  ⟨(some 87), .ia (.sl 1) (.t 79) (.t 80), none⟩,
  ⟨none, .store 1 (.t 87) (.t 86), none⟩] [9] ([], []) []) (.seq (.reg [⟨(some 89), .frz (.t 9) false, none⟩,
  ⟨(some 90), .callp f_item_Whole [(.t 89)] [], none⟩,
  ⟨(some 88), .mv (.t 90) true, none⟩,
  ⟨(some 91), .ext (.t 88) 0, none⟩,
  ⟨(some 92), .ext (.t 88) 1, none⟩,
  ⟨(some 10), .mv (.t 91) true, none⟩,
  ⟨(some 11), .mv (.t 92) true, none⟩] [10, 11]) (.seq (.reg [⟨(some 94), .mv (.t 10) true, none⟩,
  ⟨(some 95), .callp f_block_Get [(.t 94)] [], none⟩,
  ⟨(some 93), .mv (.t 95) true, none⟩,
  ⟨(some 96), .ext (.t 93) 0, none⟩,
  ⟨(some 97), .ext (.t 93) 1, none⟩,
  ⟨(some 12), .alloc [(.int .u64 0), (.int .u64 0), (.int .u64 0), (.int .i64 0), (.str [])], none⟩,
  ⟨none, .store 5 (.t 12) (.t 96), none⟩,
  ⟨(some 13), .mv (.t 97) true, none⟩] [11, 13]) (.seq (.reg [⟨(some 98), .callp f_law09_awake [] [], none⟩,
  ⟨(some 99), .mv (.t 98) true, none⟩,
  ⟨(some 100), .mv (.t 11) true, (some (99, true))⟩,
  ⟨(some 101), .bin .eql .int (.t 100) (.c (.int .i64 0)), (some (99, true))⟩,
  ⟨(some 102), .pick (.t 99) (.t 101) (.c (.bool false)), none⟩,
  ⟨(some 103), .mv (.t 102) true, none⟩,
  ⟨(some 104), .mv (.t 13) true, (some (103, true))⟩,
  ⟨(some 105), .bin .eql .int (.t 104) (.c (.int .i64 7)), (some (103, true))⟩,
  ⟨(some 106), .pick (.t 103) (.t 105) (.c (.bool false)), none⟩,
  ⟨(some 4), .mv (.t 106) true, none⟩] [4]) .ret))))))))))))
def c_law09_BlockTurned : AFunc := ⟨k_law09_BlockTurned, 107, [.t 4], [], [], []⟩

def tab : List (Nat × AFunc) := [(f_ref01_High, c_ref01_High),
  (f_ref06_Size, c_ref06_Size),
  (f_law06_light, c_law06_light),
  (f_item_counter_one, c_item_counter_one),
  (f_head_wide_1, c_head_wide_1),
  (f_head_wide, c_head_wide),
  (f_head_info, c_head_info),
  (f_be_width, c_be_width),
  (f_be_Put, c_be_Put),
  (f_head_Put, c_head_Put),
  (f_item_put, c_item_put),
  (f_unicode_utf8_word_string, c_unicode_utf8_word_string),
  (f_unicode_utf8_ValidString, c_unicode_utf8_ValidString),
  (f_item_simple, c_item_simple),
  (f_item_counter_lay, c_item_counter_lay),
  (f_item_Put, c_item_Put),
  (f_be_Get_1, c_be_Get_1),
  (f_be_Get, c_be_Get),
  (f_head_Get, c_head_Get),
  (f_unicode_utf8_word_byte, c_unicode_utf8_word_byte),
  (f_unicode_utf8_Valid, c_unicode_utf8_Valid),
  (f_item_text, c_item_text),
  (f_item_counter_list, c_item_counter_list),
  (f_item_other, c_item_other),
  (f_item_counter_read, c_item_counter_read),
  (f_item_Get, c_item_Get),
  (f_item_Whole, c_item_Whole),
  (f_item_At, c_item_At),
  (f_item_Text, c_item_Text),
  (f_item_Must, c_item_Must),
  (f_item_Count_1, c_item_Count_1),
  (f_item_Count, c_item_Count),
  (f_law06_awake, c_law06_awake),
  (f_law06_Any, c_law06_Any),
  (f_item_Uint, c_item_Uint),
  (f_item_Bytes, c_item_Bytes),
  (f_item_List, c_item_List),
  (f_ref04_Size, c_ref04_Size),
  (f_ref04_Parts, c_ref04_Parts),
  (f_ref04_Value, c_ref04_Value),
  (f_ref06_right, c_ref06_right),
  (f_ref06_Right, c_ref06_Right),
  (f_item_Same, c_item_Same),
  (f_law06_deep, c_law06_deep),
  (f_law06_ItemTakes, c_law06_ItemTakes),
  (f_block_Check, c_block_Check),
  (f_block_values, c_block_values),
  (f_block_Seal_1, c_block_Seal_1),
  (f_crc_Width, c_crc_Width),
  (f_block_width, c_block_width),
  (f_crc_bits_1, c_crc_bits_1),
  (f_crc_bits, c_crc_bits),
  (f_crc_through, c_crc_through),
  (f_crc_GoShort, c_crc_GoShort),
  (f_crc_Short, c_crc_Short),
  (f_crc_GoLong, c_crc_GoLong),
  (f_crc_Long, c_crc_Long),
  (f_crc_Of, c_crc_Of),
  (f_block_sum, c_block_sum),
  (f_block_Seal, c_block_Seal),
  (f_block_Put, c_block_Put),
  (f_block_Get_1, c_block_Get_1),
  (f_block_Open, c_block_Open),
  (f_block_Get, c_block_Get),
  (f_block_Size, c_block_Size),
  (f_law09_awake, c_law09_awake),
  (f_ref09_Check, c_ref09_Check),
  (f_ref01_Bytes, c_ref01_Bytes),
  (f_ref05_Put, c_ref05_Put),
  (f_ref06_Put, c_ref06_Put),
  (f_ref03_Sum, c_ref03_Sum),
  (f_ref03_Of, c_ref03_Of),
  (f_ref09_Seal, c_ref09_Seal),
  (f_ref09_Value, c_ref09_Value),
  (f_law09_BlockPuts, c_law09_BlockPuts),
  (f_ref09_Get, c_ref09_Get),
  (f_law09_BlockGets, c_law09_BlockGets),
  (f_law09_BlockSeals, c_law09_BlockSeals),
  (f_law09_BlockTurned, c_law09_BlockTurned)]
def T : Table := fun f => tab.lookup f
theorem t_ref01_High : T f_ref01_High = some c_ref01_High := rfl
theorem t_ref06_Size : T f_ref06_Size = some c_ref06_Size := rfl
theorem t_law06_light : T f_law06_light = some c_law06_light := rfl
theorem t_item_counter_one : T f_item_counter_one = some c_item_counter_one := rfl
theorem t_head_wide_1 : T f_head_wide_1 = some c_head_wide_1 := rfl
theorem t_head_wide : T f_head_wide = some c_head_wide := rfl
theorem t_head_info : T f_head_info = some c_head_info := rfl
theorem t_be_width : T f_be_width = some c_be_width := rfl
theorem t_be_Put : T f_be_Put = some c_be_Put := rfl
theorem t_head_Put : T f_head_Put = some c_head_Put := rfl
theorem t_item_put : T f_item_put = some c_item_put := rfl
theorem t_unicode_utf8_word_string : T f_unicode_utf8_word_string = some c_unicode_utf8_word_string := rfl
theorem t_unicode_utf8_ValidString : T f_unicode_utf8_ValidString = some c_unicode_utf8_ValidString := rfl
theorem t_item_simple : T f_item_simple = some c_item_simple := rfl
theorem t_item_counter_lay : T f_item_counter_lay = some c_item_counter_lay := rfl
theorem t_item_Put : T f_item_Put = some c_item_Put := rfl
theorem t_be_Get_1 : T f_be_Get_1 = some c_be_Get_1 := rfl
theorem t_be_Get : T f_be_Get = some c_be_Get := rfl
theorem t_head_Get : T f_head_Get = some c_head_Get := rfl
theorem t_unicode_utf8_word_byte : T f_unicode_utf8_word_byte = some c_unicode_utf8_word_byte := rfl
theorem t_unicode_utf8_Valid : T f_unicode_utf8_Valid = some c_unicode_utf8_Valid := rfl
theorem t_item_text : T f_item_text = some c_item_text := rfl
theorem t_item_counter_list : T f_item_counter_list = some c_item_counter_list := rfl
theorem t_item_other : T f_item_other = some c_item_other := rfl
theorem t_item_counter_read : T f_item_counter_read = some c_item_counter_read := rfl
theorem t_item_Get : T f_item_Get = some c_item_Get := rfl
theorem t_item_Whole : T f_item_Whole = some c_item_Whole := rfl
theorem t_item_At : T f_item_At = some c_item_At := rfl
theorem t_item_Text : T f_item_Text = some c_item_Text := rfl
theorem t_item_Must : T f_item_Must = some c_item_Must := rfl
theorem t_item_Count_1 : T f_item_Count_1 = some c_item_Count_1 := rfl
theorem t_item_Count : T f_item_Count = some c_item_Count := rfl
theorem t_law06_awake : T f_law06_awake = some c_law06_awake := rfl
theorem t_law06_Any : T f_law06_Any = some c_law06_Any := rfl
theorem t_item_Uint : T f_item_Uint = some c_item_Uint := rfl
theorem t_item_Bytes : T f_item_Bytes = some c_item_Bytes := rfl
theorem t_item_List : T f_item_List = some c_item_List := rfl
theorem t_ref04_Size : T f_ref04_Size = some c_ref04_Size := rfl
theorem t_ref04_Parts : T f_ref04_Parts = some c_ref04_Parts := rfl
theorem t_ref04_Value : T f_ref04_Value = some c_ref04_Value := rfl
theorem t_ref06_right : T f_ref06_right = some c_ref06_right := rfl
theorem t_ref06_Right : T f_ref06_Right = some c_ref06_Right := rfl
theorem t_item_Same : T f_item_Same = some c_item_Same := rfl
theorem t_law06_deep : T f_law06_deep = some c_law06_deep := rfl
theorem t_law06_ItemTakes : T f_law06_ItemTakes = some c_law06_ItemTakes := rfl
theorem t_block_Check : T f_block_Check = some c_block_Check := rfl
theorem t_block_values : T f_block_values = some c_block_values := rfl
theorem t_block_Seal_1 : T f_block_Seal_1 = some c_block_Seal_1 := rfl
theorem t_crc_Width : T f_crc_Width = some c_crc_Width := rfl
theorem t_block_width : T f_block_width = some c_block_width := rfl
theorem t_crc_bits_1 : T f_crc_bits_1 = some c_crc_bits_1 := rfl
theorem t_crc_bits : T f_crc_bits = some c_crc_bits := rfl
theorem t_crc_through : T f_crc_through = some c_crc_through := rfl
theorem t_crc_GoShort : T f_crc_GoShort = some c_crc_GoShort := rfl
theorem t_crc_Short : T f_crc_Short = some c_crc_Short := rfl
theorem t_crc_GoLong : T f_crc_GoLong = some c_crc_GoLong := rfl
theorem t_crc_Long : T f_crc_Long = some c_crc_Long := rfl
theorem t_crc_Of : T f_crc_Of = some c_crc_Of := rfl
theorem t_block_sum : T f_block_sum = some c_block_sum := rfl
theorem t_block_Seal : T f_block_Seal = some c_block_Seal := rfl
theorem t_block_Put : T f_block_Put = some c_block_Put := rfl
theorem t_block_Get_1 : T f_block_Get_1 = some c_block_Get_1 := rfl
theorem t_block_Open : T f_block_Open = some c_block_Open := rfl
theorem t_block_Get : T f_block_Get = some c_block_Get := rfl
theorem t_block_Size : T f_block_Size = some c_block_Size := rfl
theorem t_law09_awake : T f_law09_awake = some c_law09_awake := rfl
theorem t_ref09_Check : T f_ref09_Check = some c_ref09_Check := rfl
theorem t_ref01_Bytes : T f_ref01_Bytes = some c_ref01_Bytes := rfl
theorem t_ref05_Put : T f_ref05_Put = some c_ref05_Put := rfl
theorem t_ref06_Put : T f_ref06_Put = some c_ref06_Put := rfl
theorem t_ref03_Sum : T f_ref03_Sum = some c_ref03_Sum := rfl
theorem t_ref03_Of : T f_ref03_Of = some c_ref03_Of := rfl
theorem t_ref09_Seal : T f_ref09_Seal = some c_ref09_Seal := rfl
theorem t_ref09_Value : T f_ref09_Value = some c_ref09_Value := rfl
theorem t_law09_BlockPuts : T f_law09_BlockPuts = some c_law09_BlockPuts := rfl
theorem t_ref09_Get : T f_ref09_Get = some c_ref09_Get := rfl
theorem t_law09_BlockGets : T f_law09_BlockGets = some c_law09_BlockGets := rfl
theorem t_law09_BlockSeals : T f_law09_BlockSeals = some c_law09_BlockSeals := rfl
theorem t_law09_BlockTurned : T f_law09_BlockTurned = some c_law09_BlockTurned := rfl
end Ev
