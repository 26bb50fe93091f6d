/- The code of the functions that the claim reaches, in the evaluator's form; what it is held against stands in the text of the checks. No condition. -/
import Derived.Test.YtljndaefacbhfaaEv9
/-! The code of the functions, as the evaluator takes it. -/
set_option linter.all false
namespace Ev
open Go

abbrev f_law46_WholeAsks : Nat := 4
abbrev f_law46_awake : Nat := 5
abbrev f_whole_New : Nat := 6
abbrev f_whole_Station_Take : Nat := 8
abbrev f_whole_Station_Bundle : Nat := 9
abbrev f_whole_Station_Many : Nat := 11
abbrev f_whole_Station_Missing : Nat := 12
abbrev f_ref34_In : Nat := 14
abbrev f_whole_Station_Done : Nat := 16
abbrev f_whole_Station_Ask : Nat := 17
abbrev f_whole_Station_Ids : Nat := 18
abbrev f_whole_Station_Hear : Nat := 19
abbrev f_frame_Check : Nat := 21
abbrev f_whole_Station_fits : Nat := 22
abbrev f_whole_Station_numbers : Nat := 23
abbrev f_seg_Fill : Nat := 24
abbrev f_whole_Station_Missing_1 : Nat := 25
abbrev f_slices_Sort_uint64_uint64 : Nat := 26
abbrev f_slices_Compact_uint64_uint64 : Nat := 27
abbrev f_frame_All : Nat := 28
abbrev f_frame_length : Nat := 30
abbrev f_whole_first : Nat := 31
abbrev f_seg_Fill_1 : Nat := 32
abbrev f_slices_Contains_bool_bool : Nat := 33
abbrev f_slices_pdqsortOrdered_uint64 : Nat := 34
abbrev f_math_bits_Len : Nat := 35
abbrev f_frame_Get : Nat := 36
abbrev f_slices_Index_bool_bool : Nat := 37
abbrev f_slices_insertionSortOrdered_uint64 : Nat := 38
abbrev f_slices_heapSortOrdered_uint64 : Nat := 39
abbrev f_slices_breakPatternsOrdered_uint64 : Nat := 40
abbrev f_slices_choosePivotOrdered_uint64 : Nat := 41
abbrev f_slices_reverseRangeOrdered_uint64 : Nat := 42
abbrev f_slices_partialInsertionSortOrdered_uint64 : Nat := 43
abbrev f_cmp_Less_uint64 : Nat := 44
abbrev f_slices_partitionEqualOrdered_uint64 : Nat := 45
abbrev f_slices_partitionOrdered_uint64 : Nat := 46
abbrev f_math_bits_Len32 : Nat := 47
abbrev f_math_bits_Len64 : Nat := 48
abbrev f_frame_Get_1 : Nat := 49
abbrev f_be_Get : Nat := 50
abbrev f_crc_Short : Nat := 51
abbrev f_frame_Size : Nat := 52
abbrev f_slices_siftDownOrdered_uint64 : Nat := 53
abbrev f_slices_nextPowerOfTwo : Nat := 54
abbrev f_slices_xorshift_Next : Nat := 55
abbrev f_slices_medianAdjacentOrdered_uint64 : Nat := 56
abbrev f_slices_medianOrdered_uint64 : Nat := 57
abbrev f_cmp_isNaN_uint64 : Nat := 58
abbrev f_be_Get_1 : Nat := 59
abbrev f_be_width : Nat := 60
abbrev f_crc_GoShort : Nat := 61
abbrev f_slices_order2Ordered_uint64 : Nat := 62
abbrev f_crc_through : Nat := 63
abbrev f_crc_bits : Nat := 64
abbrev f_crc_bits_1 : Nat := 65
abbrev xI (n : Int) : A := .c (.int .i64 n)
abbrev xT (d n : Nat) : AOpr := ⟨some d, .mv (.t n) true, none⟩
abbrev xF (d n : Nat) : AOpr := ⟨some d, .mv (.t n) false, none⟩
abbrev xE (d n i : Nat) : AOpr := ⟨some d, .ext (.t n) i, none⟩
abbrev xS (d : Nat) (o : AOp) : AOpr := ⟨some d, o, none⟩
abbrev xG (d g : Nat) (b : Bool) (o : AOp) : AOpr := ⟨some d, o, some (g, b)⟩

def k_whole_New : ACode := (.seq (.reg [xS 0 (.mv (.c .nilp) false)] []) (.seq (.reg [xS 1 (.mkm), xS 2 (.build [.mpn] [(0, 1, (.t 1))]), xS 3 (.box (.t 2)), xT 0 3] [0]) .ret))
def c_whole_New : AFunc := ⟨k_whole_New, 4, [.t 0], [], [], []⟩
def k_frame_length : ACode := (.seq (.reg [xS 4 (.mv (xI 0) false), xS 5 (.mv (.c (.bool false)) false)] [0, 1]) (.seq (.seq (.reg [xF 6 1, xS 7 (.bin .lss .int (.t 6) (xI 1)), xT 8 7, xG 9 8 false (.mv (.t 1) false), xG 10 8 false (.bin .gtr .int (.t 9) (xI 3192)), xS 11 (.pick (.t 8) (.c (.bool true)) (.t 10)), xT 12 11, xG 13 12 false (.mv (.t 0) false), xG 14 12 false (.bin .lss .int (.t 13) (xI 0)), xS 15 (.pick (.t 12) (.c (.bool true)) (.t 14)), xT 16 15, xG 17 16 false (.mv (.t 0) false), xG 18 16 false (.mv (.t 1) false), xG 19 16 false (.bin .geq .int (.t 17) (.t 18)), xS 20 (.pick (.t 16) (.c (.bool true)) (.t 19)), xT 21 20, xG 22 21 false (.mv (.t 0) false), xG 23 21 false (.bin .rem .int (.t 22) (xI 100)), xG 24 21 false (.bin .neq .int (.t 23) (xI 0)), xS 25 (.pick (.t 21) (.c (.bool true)) (.t 24))] [0, 1, 25]) (.cond (.t 25)
 (.seq (.reg [xS 4 (.mv (xI 0) false), xS 5 (.mv (.c (.bool false)) false)] [4, 5]) .ret)
 .skip)) (.seq (.reg [xT 26 1, xT 27 0, xS 28 (.bin .sub .int (.t 26) (.t 27)), xS 29 (.mx false [(xI 100), (.t 28)]), xT 4 29, xS 5 (.mv (.c (.bool true)) false)] [4, 5]) .ret)))
def c_frame_length : AFunc := ⟨k_frame_length, 30, [.t 4, .t 5], [], [], []⟩
def k_frame_Check : ACode := (.seq (.reg [xS 1 (.box (.t 0)), xS 2 (.mv (xI 0) false)] [1]) (.seq (.reg [xS 6 (.fa 2 (.t 1)), xS 7 (.load 0 (.t 6)), xS 8 (.fa 3 (.t 1)), xS 9 (.load 0 (.t 8)), xS 10 (.callp f_frame_length [(.t 7), (.t 9)] []), xT 5 10, xE 11 5 0, xE 12 5 1, xT 3 11, xT 4 12] [1, 3, 4]) (.seq (.seq (.reg [xT 13 4, xS 14 (.un .not (.t 13)), xT 15 14, xG 16 15 false (.fa 0 (.t 1)), xG 17 15 false (.load 0 (.t 16)), xG 18 15 false (.bin .geq .int (.t 17) (.c (.int .u64 2147483648))), xS 19 (.pick (.t 15) (.c (.bool true)) (.t 18)), xT 20 19, xG 21 20 false (.fa 1 (.t 1)), xG 22 20 false (.load 0 (.t 21)), xG 23 20 false (.bin .geq .int (.t 22) (.c (.int .u64 2147483648))), xS 24 (.pick (.t 20) (.c (.bool true)) (.t 23)), xT 25 24, xG 26 25 false (.fa 4 (.t 1)), xG 27 25 false (.load 0 (.t 26)), xG 28 25 false (.len true (.t 27)), xG 29 25 false (.mv (.t 3) true), xG 30 25 false (.bin .neq .int (.t 28) (.t 29)), xS 31 (.pick (.t 25) (.c (.bool true)) (.t 30))] [31]) (.cond (.t 31)
 (.seq (.reg [xS 2 (.mv (xI 3) false)] [2]) .ret)
 .skip)) (.seq (.reg [xS 2 (.mv (xI 0) false)] [2]) .ret))))
def c_frame_Check : AFunc := ⟨k_frame_Check, 32, [.t 2], [], [], []⟩
def k_whole_first : ACode := (.seq (.reg [xS 1 (.box (.t 0)), xS 2 (.mv (.c (.int .u64 0)) false)] [1]) (.seq (.reg [xS 3 (.fa 0 (.t 1)), xS 4 (.load 0 (.t 3)), xS 5 (.fa 2 (.t 1)), xS 6 (.load 0 (.t 5)), xS 7 (.bin .quo .int (.t 6) (xI 100)), xS 8 (.conv (.i .u64) (.t 7)), xS 9 (.bin .sub .int (.t 4) (.t 8)), xT 2 9] [2]) .ret))
def c_whole_first : AFunc := ⟨k_whole_first, 10, [.t 2], [], [], []⟩
def bm_whole_Station_fits_0 : ACode := (.block 1 (.seq (.reg [xS 14 (.ent (.t 11)), xE 15 14 1, xS 6 (.alloc [(.int .u64 0), (.int .u64 0), (.int .i64 0), (.int .i64 0), (.str [])]), ⟨none, .store 5 (.t 6) (.t 15), none⟩] [3, 6, 11]) (.seq (.regd [xS 16 (.fa 1 (.t 6)), xS 17 (.load 0 (.t 16)), xS 18 (.fa 1 (.t 3)), xS 19 (.load 0 (.t 18)), xS 20 (.bin .eql .int (.t 17) (.t 19)), xF 21 20, xG 22 21 true (.fa 3 (.t 6)), xG 23 21 true (.load 0 (.t 22)), xG 24 21 true (.fa 3 (.t 3)), xG 25 21 true (.load 0 (.t 24)), xG 26 21 true (.bin .neq .int (.t 23) (.t 25)), xG 27 21 true (.mv (.t 26) false), xG 28 27 false (.load 5 (.t 6)), xG 29 27 false (.callp f_whole_first [(.t 28)] []), xG 30 27 false (.load 5 (.t 3)), xG 31 27 false (.callp f_whole_first [(.t 30)] []), xG 32 27 false (.bin .neq .int (.t 29) (.t 31)), xG 33 21 true (.pick (.t 27) (.c (.bool true)) (.t 32)), xS 34 (.pick (.t 21) (.t 33) (.c (.bool false)))] [3, 11, 34] ([], []) []) (.cond (.t 34)
 (.seq (.reg [xS 4 (.mv (.c (.bool false)) false)] [4]) .ret)
 .skip))))
def cm_whole_Station_fits_0 : ACode := (.seq (.reg [xS 4 (.mv (.c (.bool true)) false)] [4]) .ret)
def k_whole_Station_fits : ACode := (.seq (.reg [xS 3 (.box (.t 1)), xS 4 (.mv (.c (.bool false)) false)] [0, 3]) (.mloop (.reg [xT 7 0, xS 8 (.nilck (.t 7)), xS 9 (.fa 0 (.t 8)), xS 10 (.load 0 (.t 9)), xS 11 (.rng false (.t 10))] [3, 11]) 11 12 13 [3, 11] [] 0 bm_whole_Station_fits_0 cm_whole_Station_fits_0))
def c_whole_Station_fits : AFunc := ⟨k_whole_Station_fits, 35, [.t 4], [], [], []⟩
def k_whole_Station_Take : ACode := (.seq (.reg [xS 3 (.box (.t 1)), xS 4 (.mv (xI 0) false)] [0, 3]) (.seq (.seq (.reg [xF 8 0, xS 9 (.bin .eql .ptr (.t 8) (.c .nilp))] [0, 3, 9]) (.cond (.t 9)
 (.seq (.reg [xS 4 (.mv (xI 1) false)] [4]) .ret)
 .skip)) (.seq (.seq (.reg [xS 10 (.load 5 (.t 3)), xS 11 (.callp f_frame_Check [(.t 10)] []), xT 5 11] [0, 3, 5]) (.seq (.reg [xF 12 5, xS 13 (.bin .neq .int (.t 12) (xI 0))] [0, 3, 5, 13]) (.cond (.t 13)
 (.seq (.reg [xT 14 5, xT 4 14] [4]) .ret)
 .skip))) (.seq (.regd [xF 16 0, xS 17 (.nilck (.t 16)), xS 18 (.fa 0 (.t 17)), xS 19 (.load 0 (.t 18)), xS 20 (.fa 0 (.t 3)), xS 21 (.load 0 (.t 20)), xS 22 (.look .int (.t 19) (.t 21) (.agg [(.int .u64 0), (.int .u64 0), (.int .i64 0), (.int .i64 0), (.str [])]) true), xF 15 22, xE 23 15 0, xE 24 15 1, xS 6 (.alloc [(.int .u64 0), (.int .u64 0), (.int .i64 0), (.int .i64 0), (.str [])]), ⟨none, .store 5 (.t 6) (.t 23), none⟩, xT 7 24] [0, 3, 6, 7] ([], []) [(3, 0, 11), (5, 0, 11), (6, 0, 11)]) (.seq (.block 0 (.seq (.reg [xF 26 7, xT 27 26, xG 28 27 true (.load 5 (.t 6)), xG 29 27 true (.load 5 (.t 3)), xG 30 27 true (.bin .eql (.agg (.cons 0 0 .int (.cons 1 0 .int (.cons 2 0 .int (.cons 3 0 .int (.cons 4 0 .str .nil)))))) (.t 28) (.t 29)), xS 31 (.pick (.t 27) (.t 30) (.c (.bool false))), xT 25 31] [0, 3, 7, 25]) (.cond (.t 25)
 (.seq (.reg [xS 4 (.mv (xI 15) false)] [4]) .ret)
 (.seq (.reg [xT 33 7, xT 34 33, xG 35 34 false (.mv (.t 0) false), xG 36 34 false (.load 5 (.t 3)), xG 37 34 false (.callh f_whole_Station_fits [(.t 35), (.t 36)]), xG 38 34 false (.un .not (.t 37)), xS 39 (.pick (.t 34) (.c (.bool true)) (.t 38)), xT 32 39] [0, 3, 32]) (.cond (.t 32)
 (.seq (.reg [xS 4 (.mv (xI 6) false)] [4]) .ret)
 (.seq (.reg [xF 41 0, xS 42 (.nilck (.t 41)), xS 43 (.fa 0 (.t 42)), xS 44 (.load 0 (.t 43)), xS 45 (.mlen (.t 44)), xS 46 (.bin .geq .int (.t 45) (xI 65536)), xT 40 46] [0, 3, 40]) (.cond (.t 40)
 (.seq (.reg [xS 4 (.mv (xI 4) false)] [4]) .ret)
 .skip))))))) (.seq (.regd [xF 47 0, xS 48 (.nilck (.t 47)), xS 49 (.fa 0 (.t 48)), xS 50 (.load 0 (.t 49)), xS 51 (.fa 0 (.t 3)), xS 52 (.load 0 (.t 51)), xS 53 (.load 5 (.t 3)), ⟨none, .mset .int (.t 50) (.t 52) (.t 53), none⟩] [] ([], []) []) (.seq (.reg [xS 4 (.mv (xI 0) false)] [4]) .ret)))))))
def c_whole_Station_Take : AFunc := ⟨k_whole_Station_Take, 54, [.t 4], [], [], []⟩
def k_whole_Station_Missing_1 : ACode := (.seq (.reg [xF 4 0, xS 5 (.load 0 (.t 1)), xS 6 (.bin .gtr .int (.t 4) (.t 5))] [0, 1, 2, 6]) (.cond (.t 6)
 (.reg [xS 7 (.load 0 (.t 2)), xS 8 (.load 0 (.t 1)), xT 9 0, xS 10 (.bin .sub .int (.t 9) (.c (.int .u64 1))), xS 11 (.build [(.int .u64 0), (.int .u64 0)] [(0, 1, (.t 8)), (1, 1, (.t 10))]), xS 12 (.bsl 2 [(.t 11)] false), xS 13 (.apph 2 16 (.t 7) (.t 12)), ⟨none, .store 1 (.t 2) (.t 13), none⟩] [])
 .skip))
def c_whole_Station_Missing_1 : AFunc := ⟨k_whole_Station_Missing_1, 14, [], [], [], []⟩
def k_math_bits_Len32 : ACode := (.seq (.reg [xS 2 (.mv (xI 0) false)] [0, 2]) (.seq (.seq (.reg [xF 3 0, xS 4 (.bin .geq .int (.t 3) (.c (.int .u32 65536)))] [0, 2, 4]) (.cond (.t 4)
 (.seq (.reg [xT 5 0, xS 6 (.bin .shr .int (.t 5) (.c (.int .u64 16))), xT 0 6] [0]) (.reg [xS 2 (.mv (xI 16) false)] [0, 2]))
 .skip)) (.seq (.seq (.reg [xF 7 0, xS 8 (.bin .geq .int (.t 7) (.c (.int .u32 256)))] [0, 2, 8]) (.cond (.t 8)
 (.seq (.reg [xT 9 0, xS 10 (.bin .shr .int (.t 9) (.c (.int .u64 8))), xT 0 10] [0, 2]) (.reg [xT 11 2, xS 12 (.bin .add .int (.t 11) (xI 8)), xT 2 12] [0, 2]))
 .skip)) (.seq (.reg [xT 13 2, xT 14 0, xS 15 (.conv (.i .u8) (.t 14)), xS 16 (.idx .str 0 (.c (.str [0, 1, 2, 2, 3, 3, 3, 3, 4, 4, 4, 4, 4, 4, 4, 4, 5, 5, 5, 5, 5, 5, 5, 5, 5, 5, 5, 5, 5, 5, 5, 5, 6, 6, 6, 6, 6, 6, 6, 6, 6, 6, 6, 6, 6, 6, 6, 6, 6, 6, 6, 6, 6, 6, 6, 6, 6, 6, 6, 6, 6, 6, 6, 6, 7, 7, 7, 7, 7, 7, 7, 7, 7, 7, 7, 7, 7, 7, 7, 7, 7, 7, 7, 7, 7, 7, 7, 7, 7, 7, 7, 7, 7, 7, 7, 7, 7, 7, 7, 7, 7, 7, 7, 7, 7, 7, 7, 7, 7, 7, 7, 7, 7, 7, 7, 7, 7, 7, 7, 7, 7, 7, 7, 7, 7, 7, 7, 7, 8, 8, 8, 8, 8, 8, 8, 8, 8, 8, 8, 8, 8, 8, 8, 8, 8, 8, 8, 8, 8, 8, 8, 8, 8, 8, 8, 8, 8, 8, 8, 8, 8, 8, 8, 8, 8, 8, 8, 8, 8, 8, 8, 8, 8, 8, 8, 8, 8, 8, 8, 8, 8, 8, 8, 8, 8, 8, 8, 8, 8, 8, 8, 8, 8, 8, 8, 8, 8, 8, 8, 8, 8, 8, 8, 8, 8, 8, 8, 8, 8, 8, 8, 8, 8, 8, 8, 8, 8, 8, 8, 8, 8, 8, 8, 8, 8, 8, 8, 8, 8, 8, 8, 8, 8, 8, 8, 8, 8, 8, 8, 8, 8, 8, 8, 8, 8, 8, 8, 8, 8, 8, 8, 8, 8, 8, 8, 8])) (.t 15)), xS 17 (.conv (.i .i64) (.t 16)), xS 18 (.bin .add .int (.t 13) (.t 17)), xT 2 18] [2]) .ret))))
def c_math_bits_Len32 : AFunc := ⟨k_math_bits_Len32, 19, [.t 2], [], [], []⟩
def k_math_bits_Len64 : ACode := (.seq (.reg [xS 2 (.mv (xI 0) false)] [0, 2]) (.seq (.seq (.reg [xF 3 0, xS 4 (.bin .geq .int (.t 3) (.c (.int .u64 4294967296)))] [0, 2, 4]) (.cond (.t 4)
 (.seq (.reg [xT 5 0, xS 6 (.bin .shr .int (.t 5) (.c (.int .u64 32))), xT 0 6] [0]) (.reg [xS 2 (.mv (xI 32) false)] [0, 2]))
 .skip)) (.seq (.seq (.reg [xF 7 0, xS 8 (.bin .geq .int (.t 7) (.c (.int .u64 65536)))] [0, 2, 8]) (.cond (.t 8)
 (.seq (.reg [xT 9 0, xS 10 (.bin .shr .int (.t 9) (.c (.int .u64 16))), xT 0 10] [0, 2]) (.reg [xT 11 2, xS 12 (.bin .add .int (.t 11) (xI 16)), xT 2 12] [0, 2]))
 .skip)) (.seq (.seq (.reg [xF 13 0, xS 14 (.bin .geq .int (.t 13) (.c (.int .u64 256)))] [0, 2, 14]) (.cond (.t 14)
 (.seq (.reg [xT 15 0, xS 16 (.bin .shr .int (.t 15) (.c (.int .u64 8))), xT 0 16] [0, 2]) (.reg [xT 17 2, xS 18 (.bin .add .int (.t 17) (xI 8)), xT 2 18] [0, 2]))
 .skip)) (.seq (.reg [xT 19 2, xT 20 0, xS 21 (.conv (.i .u8) (.t 20)), xS 22 (.idx .str 0 (.c (.str [0, 1, 2, 2, 3, 3, 3, 3, 4, 4, 4, 4, 4, 4, 4, 4, 5, 5, 5, 5, 5, 5, 5, 5, 5, 5, 5, 5, 5, 5, 5, 5, 6, 6, 6, 6, 6, 6, 6, 6, 6, 6, 6, 6, 6, 6, 6, 6, 6, 6, 6, 6, 6, 6, 6, 6, 6, 6, 6, 6, 6, 6, 6, 6, 7, 7, 7, 7, 7, 7, 7, 7, 7, 7, 7, 7, 7, 7, 7, 7, 7, 7, 7, 7, 7, 7, 7, 7, 7, 7, 7, 7, 7, 7, 7, 7, 7, 7, 7, 7, 7, 7, 7, 7, 7, 7, 7, 7, 7, 7, 7, 7, 7, 7, 7, 7, 7, 7, 7, 7, 7, 7, 7, 7, 7, 7, 7, 7, 8, 8, 8, 8, 8, 8, 8, 8, 8, 8, 8, 8, 8, 8, 8, 8, 8, 8, 8, 8, 8, 8, 8, 8, 8, 8, 8, 8, 8, 8, 8, 8, 8, 8, 8, 8, 8, 8, 8, 8, 8, 8, 8, 8, 8, 8, 8, 8, 8, 8, 8, 8, 8, 8, 8, 8, 8, 8, 8, 8, 8, 8, 8, 8, 8, 8, 8, 8, 8, 8, 8, 8, 8, 8, 8, 8, 8, 8, 8, 8, 8, 8, 8, 8, 8, 8, 8, 8, 8, 8, 8, 8, 8, 8, 8, 8, 8, 8, 8, 8, 8, 8, 8, 8, 8, 8, 8, 8, 8, 8, 8, 8, 8, 8, 8, 8, 8, 8, 8, 8, 8, 8, 8, 8, 8, 8, 8, 8])) (.t 21)), xS 23 (.conv (.i .i64) (.t 22)), xS 24 (.bin .add .int (.t 19) (.t 23)), xT 2 24] [2]) .ret)))))
def c_math_bits_Len64 : AFunc := ⟨k_math_bits_Len64, 25, [.t 2], [], [], []⟩
def k_math_bits_Len : ACode := (.seq (.reg [xS 2 (.mv (xI 0) false)] [0]) (.seq (.cond (.c (.bool false))
 (.seq (.reg [xT 3 0, xS 4 (.conv (.i .u32) (.t 3)), xS 5 (.callp f_math_bits_Len32 [(.t 4)] []), xT 2 5] [2]) .ret)
 .skip) (.seq (.reg [xT 6 0, xS 7 (.callp f_math_bits_Len64 [(.t 6)] []), xT 2 7] [2]) .ret)))
def c_math_bits_Len : AFunc := ⟨k_math_bits_Len, 8, [.t 2], [], [], []⟩
def k_cmp_isNaN_uint64 : ACode := (.seq (.reg [xS 2 (.mv (.c (.bool false)) false)] [0]) (.seq (.reg [xF 3 0, xT 4 0, xS 5 (.bin .neq .int (.t 3) (.t 4)), xT 2 5] [2]) .ret))
def c_cmp_isNaN_uint64 : AFunc := ⟨k_cmp_isNaN_uint64, 6, [.t 2], [], [], []⟩
def k_cmp_Less_uint64 : ACode := (.seq (.reg [xS 4 (.mv (.c (.bool false)) false)] [0, 1]) (.seq (.reg [xF 5 0, xS 6 (.callp f_cmp_isNaN_uint64 [(.t 5)] []), xT 7 6, xG 8 7 true (.mv (.t 1) false), xG 9 7 true (.callp f_cmp_isNaN_uint64 [(.t 8)] []), xG 10 7 true (.un .not (.t 9)), xS 11 (.pick (.t 7) (.t 10) (.c (.bool false))), xT 12 11, xG 13 12 false (.mv (.t 0) true), xG 14 12 false (.mv (.t 1) true), xG 15 12 false (.bin .lss .int (.t 13) (.t 14)), xS 16 (.pick (.t 12) (.c (.bool true)) (.t 15)), xT 4 16] [4]) .ret))
def c_cmp_Less_uint64 : AFunc := ⟨k_cmp_Less_uint64, 17, [.t 4], [], [], []⟩
def bl_slices_insertionSortOrdered_uint64_0 : ACode := (.seq (.seq (.regd [xF 16 7, xF 17 1, xS 18 (.bin .gtr .int (.t 16) (.t 17)), xF 19 18, xG 20 19 true (.mv (.t 0) false), xG 21 19 true (.mv (.t 7) false), xG 22 19 true (.ia (.sl 1) (.t 20) (.t 21)), xG 23 19 true (.load 0 (.t 22)), xG 24 19 true (.mv (.t 0) false), xG 25 19 true (.mv (.t 7) false), xG 26 19 true (.bin .sub .int (.t 25) (xI 1)), xG 27 19 true (.ia (.sl 1) (.t 24) (.t 26)), xG 28 19 true (.load 0 (.t 27)), xG 29 19 true (.callp f_cmp_Less_uint64 [(.t 23), (.t 28)] []), xS 30 (.pick (.t 19) (.t 29) (.c (.bool false)))] [0, 1, 2, 6, 7, 30] ([], []) []) (.cond (.t 30)
 .skip
 (.exit 2))) (.seq (.block 3 (.regd [xF 33 0, xF 34 7, xF 35 0, xF 36 7, xS 37 (.bin .sub .int (.t 36) (xI 1)), xF 38 0, xF 39 7, xS 40 (.bin .sub .int (.t 39) (xI 1)), xS 41 (.ia (.sl 1) (.t 38) (.t 40)), xS 42 (.load 0 (.t 41)), xF 43 0, xF 44 7, xS 45 (.ia (.sl 1) (.t 43) (.t 44)), xS 46 (.load 0 (.t 45)), xS 47 (.ia (.sl 1) (.t 33) (.t 34)), ⟨none, .store 1 (.t 47) (.t 42), none⟩, xS 48 (.ia (.sl 1) (.t 35) (.t 37)), ⟨none, .store 1 (.t 48) (.t 46), none⟩] [0, 1, 2, 6, 7] ([], []) [])) (.reg [xT 31 7, xS 32 (.bin .sub .int (.t 31) (xI 1)), xT 7 32] [0, 1, 2, 6, 7])))
def l_slices_insertionSortOrdered_uint64_0 : ACode := .loop [0, 1, 2, 6, 7] [] bl_slices_insertionSortOrdered_uint64_0
theorem L_slices_insertionSortOrdered_uint64_0 {T : Table} (ks : List Kt) (e : Env) (h : Heap) (Q : Ex → Env → Heap → Prop) : Xc T l_slices_insertionSortOrdered_uint64_0 ks e h Q = Xc T bl_slices_insertionSortOrdered_uint64_0 (.seq l_slices_insertionSortOrdered_uint64_0 :: ks) (e.keep [0, 1, 2, 6, 7]) h Q := Xc_loop ks _ e h Q _ _
def bl_slices_insertionSortOrdered_uint64_1 : ACode := (.seq (.seq (.reg [xF 10 6, xF 11 2, xS 12 (.bin .lss .int (.t 10) (.t 11))] [0, 1, 2, 6, 12]) (.cond (.t 12)
 .skip
 (.exit 0))) (.seq (.block 1 (.seq (.reg [xF 15 6, xT 7 15] [0, 1, 2, 6, 7]) (.block 2 l_slices_insertionSortOrdered_uint64_0))) (.reg [xT 13 6, xS 14 (.bin .add .int (.t 13) (xI 1)), xT 6 14] [0, 1, 2, 6])))
def l_slices_insertionSortOrdered_uint64_1 : ACode := .loop [0, 1, 2, 6] [] bl_slices_insertionSortOrdered_uint64_1
theorem L_slices_insertionSortOrdered_uint64_1 {T : Table} (ks : List Kt) (e : Env) (h : Heap) (Q : Ex → Env → Heap → Prop) : Xc T l_slices_insertionSortOrdered_uint64_1 ks e h Q = Xc T bl_slices_insertionSortOrdered_uint64_1 (.seq l_slices_insertionSortOrdered_uint64_1 :: ks) (e.keep [0, 1, 2, 6]) h Q := Xc_loop ks _ e h Q _ _
def k_slices_insertionSortOrdered_uint64 : ACode := (.seq (.reg [xF 8 1, xS 9 (.bin .add .int (.t 8) (xI 1)), xT 6 9] [0, 1, 2, 6]) (.block 0 l_slices_insertionSortOrdered_uint64_1))
def c_slices_insertionSortOrdered_uint64 : AFunc := ⟨k_slices_insertionSortOrdered_uint64, 49, [], [], [], []⟩
def bl_slices_siftDownOrdered_uint64_0 : ACode := (.block 1 (.seq (.reg [xF 11 8, xS 12 (.bin .mul .int (xI 2) (.t 11)), xS 13 (.bin .add .int (.t 12) (xI 1)), xT 9 13] [0, 2, 3, 8, 9]) (.seq (.seq (.reg [xF 14 9, xF 15 2, xS 16 (.bin .geq .int (.t 14) (.t 15))] [0, 2, 3, 8, 9, 16]) (.cond (.t 16)
 (.exit 0)
 .skip)) (.seq (.seq (.regd [xF 17 9, xS 18 (.bin .add .int (.t 17) (xI 1)), xF 19 2, xS 20 (.bin .lss .int (.t 18) (.t 19)), xF 21 20, xG 22 21 true (.mv (.t 0) false), xG 23 21 true (.mv (.t 3) false), xG 24 21 true (.mv (.t 9) false), xG 25 21 true (.bin .add .int (.t 23) (.t 24)), xG 26 21 true (.ia (.sl 1) (.t 22) (.t 25)), xG 27 21 true (.load 0 (.t 26)), xG 28 21 true (.mv (.t 0) false), xG 29 21 true (.mv (.t 3) false), xG 30 21 true (.mv (.t 9) false), xG 31 21 true (.bin .add .int (.t 29) (.t 30)), xG 32 21 true (.bin .add .int (.t 31) (xI 1)), xG 33 21 true (.ia (.sl 1) (.t 28) (.t 32)), xG 34 21 true (.load 0 (.t 33)), xG 35 21 true (.callp f_cmp_Less_uint64 [(.t 27), (.t 34)] []), xS 36 (.pick (.t 21) (.t 35) (.c (.bool false)))] [0, 2, 3, 8, 9, 36] ([], []) []) (.cond (.t 36)
 (.reg [xT 37 9, xS 38 (.bin .add .int (.t 37) (xI 1)), xT 9 38] [0, 2, 3, 8, 9])
 .skip)) (.seq (.seq (.regd [xF 39 0, xF 40 3, xF 41 8, xS 42 (.bin .add .int (.t 40) (.t 41)), xS 43 (.ia (.sl 1) (.t 39) (.t 42)), xS 44 (.load 0 (.t 43)), xF 45 0, xF 46 3, xF 47 9, xS 48 (.bin .add .int (.t 46) (.t 47)), xS 49 (.ia (.sl 1) (.t 45) (.t 48)), xS 50 (.load 0 (.t 49)), xS 51 (.callp f_cmp_Less_uint64 [(.t 44), (.t 50)] []), xS 52 (.un .not (.t 51))] [0, 2, 3, 8, 9, 52] ([], []) []) (.cond (.t 52)
 .ret
 .skip)) (.seq (.regd [xF 53 0, xF 54 3, xF 55 8, xS 56 (.bin .add .int (.t 54) (.t 55)), xF 57 0, xF 58 3, xF 59 9, xS 60 (.bin .add .int (.t 58) (.t 59)), xF 61 0, xF 62 3, xF 63 9, xS 64 (.bin .add .int (.t 62) (.t 63)), xS 65 (.ia (.sl 1) (.t 61) (.t 64)), xS 66 (.load 0 (.t 65)), xF 67 0, xF 68 3, xF 69 8, xS 70 (.bin .add .int (.t 68) (.t 69)), xS 71 (.ia (.sl 1) (.t 67) (.t 70)), xS 72 (.load 0 (.t 71)), xS 73 (.ia (.sl 1) (.t 53) (.t 56)), ⟨none, .store 1 (.t 73) (.t 66), none⟩, xS 74 (.ia (.sl 1) (.t 57) (.t 60)), ⟨none, .store 1 (.t 74) (.t 72), none⟩] [0, 2, 3, 9] ([], []) []) (.reg [xT 75 9, xT 8 75] [0, 2, 3, 8])))))))
def l_slices_siftDownOrdered_uint64_0 : ACode := .loop [0, 2, 3, 8] [] bl_slices_siftDownOrdered_uint64_0
theorem L_slices_siftDownOrdered_uint64_0 {T : Table} (ks : List Kt) (e : Env) (h : Heap) (Q : Ex → Env → Heap → Prop) : Xc T l_slices_siftDownOrdered_uint64_0 ks e h Q = Xc T bl_slices_siftDownOrdered_uint64_0 (.seq l_slices_siftDownOrdered_uint64_0 :: ks) (e.keep [0, 2, 3, 8]) h Q := Xc_loop ks _ e h Q _ _
def k_slices_siftDownOrdered_uint64 : ACode := (.seq (.reg [xT 10 1, xT 8 10] [0, 2, 3, 8]) (.block 0 l_slices_siftDownOrdered_uint64_0))
def c_slices_siftDownOrdered_uint64 : AFunc := ⟨k_slices_siftDownOrdered_uint64, 76, [], [], [], []⟩
def bl_slices_heapSortOrdered_uint64_0 : ACode := (.seq (.seq (.reg [xF 18 9, xS 19 (.bin .geq .int (.t 18) (xI 0))] [0, 6, 7, 8, 9, 19]) (.cond (.t 19)
 .skip
 (.exit 0))) (.seq (.block 1 (.reg [xF 22 0, xF 23 9, xF 24 8, xF 25 6, xS 26 (.callh f_slices_siftDownOrdered_uint64 [(.t 22), (.t 23), (.t 24), (.t 25)])] [0, 6, 7, 8, 9])) (.reg [xT 20 9, xS 21 (.bin .sub .int (.t 20) (xI 1)), xT 9 21] [0, 6, 7, 8, 9])))
def l_slices_heapSortOrdered_uint64_0 : ACode := .loop [0, 6, 7, 8, 9] [] bl_slices_heapSortOrdered_uint64_0
theorem L_slices_heapSortOrdered_uint64_0 {T : Table} (ks : List Kt) (e : Env) (h : Heap) (Q : Ex → Env → Heap → Prop) : Xc T l_slices_heapSortOrdered_uint64_0 ks e h Q = Xc T bl_slices_heapSortOrdered_uint64_0 (.seq l_slices_heapSortOrdered_uint64_0 :: ks) (e.keep [0, 6, 7, 8, 9]) h Q := Xc_loop ks _ e h Q _ _
def bl_slices_heapSortOrdered_uint64_1 : ACode := (.seq (.seq (.reg [xF 29 10, xS 30 (.bin .geq .int (.t 29) (xI 0))] [0, 6, 7, 10, 30]) (.cond (.t 30)
 .skip
 (.exit 2))) (.seq (.block 3 (.seq (.regd [xF 33 0, xF 34 6, xF 35 0, xF 36 6, xF 37 10, xS 38 (.bin .add .int (.t 36) (.t 37)), xF 39 0, xF 40 6, xF 41 10, xS 42 (.bin .add .int (.t 40) (.t 41)), xS 43 (.ia (.sl 1) (.t 39) (.t 42)), xS 44 (.load 0 (.t 43)), xF 45 0, xF 46 6, xS 47 (.ia (.sl 1) (.t 45) (.t 46)), xS 48 (.load 0 (.t 47)), xS 49 (.ia (.sl 1) (.t 33) (.t 34)), ⟨none, .store 1 (.t 49) (.t 44), none⟩, xS 50 (.ia (.sl 1) (.t 35) (.t 38)), ⟨none, .store 1 (.t 50) (.t 48), none⟩] [0, 6, 7, 10] ([], []) []) (.reg [xF 51 0, xF 52 7, xF 53 10, xF 54 6, xS 55 (.callh f_slices_siftDownOrdered_uint64 [(.t 51), (.t 52), (.t 53), (.t 54)])] [0, 6, 7, 10]))) (.reg [xT 31 10, xS 32 (.bin .sub .int (.t 31) (xI 1)), xT 10 32] [0, 6, 7, 10])))
def l_slices_heapSortOrdered_uint64_1 : ACode := .loop [0, 6, 7, 10] [] bl_slices_heapSortOrdered_uint64_1
theorem L_slices_heapSortOrdered_uint64_1 {T : Table} (ks : List Kt) (e : Env) (h : Heap) (Q : Ex → Env → Heap → Prop) : Xc T l_slices_heapSortOrdered_uint64_1 ks e h Q = Xc T bl_slices_heapSortOrdered_uint64_1 (.seq l_slices_heapSortOrdered_uint64_1 :: ks) (e.keep [0, 6, 7, 10]) h Q := Xc_loop ks _ e h Q _ _
def k_slices_heapSortOrdered_uint64 : ACode := (.seq (.reg [xF 11 1, xT 6 11] [0, 1, 2, 6]) (.seq (.reg [xS 7 (.mv (xI 0) false)] [0, 1, 2, 6, 7]) (.seq (.reg [xT 12 2, xT 13 1, xS 14 (.bin .sub .int (.t 12) (.t 13)), xT 8 14] [0, 6, 7, 8]) (.seq (.seq (.reg [xF 15 8, xS 16 (.bin .sub .int (.t 15) (xI 1)), xS 17 (.bin .quo .int (.t 16) (xI 2)), xT 9 17] [0, 6, 7, 8, 9]) (.block 0 l_slices_heapSortOrdered_uint64_0)) (.seq (.reg [xT 27 8, xS 28 (.bin .sub .int (.t 27) (xI 1)), xT 10 28] [0, 6, 7, 10]) (.block 2 l_slices_heapSortOrdered_uint64_1))))))
def c_slices_heapSortOrdered_uint64 : AFunc := ⟨k_slices_heapSortOrdered_uint64, 56, [], [], [], []⟩
def k_slices_nextPowerOfTwo : ACode := (.seq (.reg [xS 2 (.mv (.c (.int .u64 0)) false)] [0]) (.seq (.reg [xT 3 0, xS 4 (.conv (.i .u64) (.t 3)), xS 5 (.callp f_math_bits_Len [(.t 4)] []), xS 6 (.bin .shl .int (.c (.int .u64 1)) (.t 5)), xT 2 6] [2]) .ret))
def c_slices_nextPowerOfTwo : AFunc := ⟨k_slices_nextPowerOfTwo, 7, [.t 2], [], [], []⟩
def k_slices_xorshift_Next : ACode := (.seq (.reg [xS 2 (.mv (.c (.int .u64 0)) false)] [0]) (.seq (.regd [xF 3 0, xS 4 (.nilck (.t 3)), xS 5 (.load 0 (.t 4)), xF 6 0, xS 7 (.nilck (.t 6)), xS 8 (.load 0 (.t 7)), xS 9 (.bin .shl .int (.t 8) (.c (.int .u64 13))), xS 10 (.bin .xor .int (.t 5) (.t 9)), xS 11 (.nilck (.t 3)), ⟨none, .store 1 (.t 11) (.t 10), none⟩] [0] ([], []) []) (.seq (.regd [xF 12 0, xS 13 (.nilck (.t 12)), xS 14 (.load 0 (.t 13)), xF 15 0, xS 16 (.nilck (.t 15)), xS 17 (.load 0 (.t 16)), xS 18 (.bin .shr .int (.t 17) (.c (.int .u64 7))), xS 19 (.bin .xor .int (.t 14) (.t 18)), xS 20 (.nilck (.t 12)), ⟨none, .store 1 (.t 20) (.t 19), none⟩] [0] ([], []) []) (.seq (.regd [xF 21 0, xS 22 (.nilck (.t 21)), xS 23 (.load 0 (.t 22)), xF 24 0, xS 25 (.nilck (.t 24)), xS 26 (.load 0 (.t 25)), xS 27 (.bin .shl .int (.t 26) (.c (.int .u64 17))), xS 28 (.bin .xor .int (.t 23) (.t 27)), xS 29 (.nilck (.t 21)), ⟨none, .store 1 (.t 29) (.t 28), none⟩] [0] ([], []) []) (.seq (.reg [xT 30 0, xS 31 (.nilck (.t 30)), xS 32 (.load 0 (.t 31)), xT 2 32] [2]) .ret)))))
def c_slices_xorshift_Next : AFunc := ⟨k_slices_xorshift_Next, 33, [.t 2], [], [], []⟩
def bl_slices_breakPatternsOrdered_uint64_0 : ACode := (.seq (.seq (.reg [xF 26 9, xF 27 1, xF 28 6, xS 29 (.bin .quo .int (.t 28) (xI 4)), xS 30 (.bin .mul .int (.t 29) (xI 2)), xS 31 (.bin .add .int (.t 27) (.t 30)), xS 32 (.bin .add .int (.t 31) (xI 1)), xS 33 (.bin .leq .int (.t 26) (.t 32))] [0, 1, 6, 7, 8, 9, 33]) (.cond (.t 33)
 .skip
 (.exit 0))) (.seq (.block 1 (.seq (.reg [xS 36 (.callh f_slices_xorshift_Next [(.t 7)]), xF 37 8, xS 38 (.bin .sub .int (.t 37) (.c (.int .u64 1))), xS 39 (.bin .and .int (.t 36) (.t 38)), xS 40 (.conv (.i .i64) (.t 39)), xT 10 40] [0, 1, 6, 7, 8, 9, 10]) (.seq (.seq (.reg [xF 41 10, xF 42 6, xS 43 (.bin .geq .int (.t 41) (.t 42))] [0, 1, 6, 7, 8, 9, 10, 43]) (.cond (.t 43)
 (.reg [xT 44 10, xF 45 6, xS 46 (.bin .sub .int (.t 44) (.t 45)), xT 10 46] [0, 1, 6, 7, 8, 9, 10])
 .skip)) (.regd [xF 47 0, xF 48 9, xF 49 0, xF 50 1, xF 51 10, xS 52 (.bin .add .int (.t 50) (.t 51)), xF 53 0, xF 54 1, xF 55 10, xS 56 (.bin .add .int (.t 54) (.t 55)), xS 57 (.ia (.sl 1) (.t 53) (.t 56)), xS 58 (.load 0 (.t 57)), xF 59 0, xF 60 9, xS 61 (.ia (.sl 1) (.t 59) (.t 60)), xS 62 (.load 0 (.t 61)), xS 63 (.ia (.sl 1) (.t 47) (.t 48)), ⟨none, .store 1 (.t 63) (.t 58), none⟩, xS 64 (.ia (.sl 1) (.t 49) (.t 52)), ⟨none, .store 1 (.t 64) (.t 62), none⟩] [0, 1, 6, 7, 8, 9] ([], []) [])))) (.reg [xT 34 9, xS 35 (.bin .add .int (.t 34) (xI 1)), xT 9 35] [0, 1, 6, 7, 8, 9])))
def l_slices_breakPatternsOrdered_uint64_0 : ACode := .loop [0, 1, 6, 7, 8, 9] [] bl_slices_breakPatternsOrdered_uint64_0
theorem L_slices_breakPatternsOrdered_uint64_0 {T : Table} (ks : List Kt) (e : Env) (h : Heap) (Q : Ex → Env → Heap → Prop) : Xc T l_slices_breakPatternsOrdered_uint64_0 ks e h Q = Xc T bl_slices_breakPatternsOrdered_uint64_0 (.seq l_slices_breakPatternsOrdered_uint64_0 :: ks) (e.keep [0, 1, 6, 7, 8, 9]) h Q := Xc_loop ks _ e h Q _ _
def k_slices_breakPatternsOrdered_uint64 : ACode := (.seq (.reg [xT 11 2, xF 12 1, xS 13 (.bin .sub .int (.t 11) (.t 12)), xT 6 13] [0, 1, 6]) (.seq (.reg [xF 14 6, xS 15 (.bin .geq .int (.t 14) (xI 8))] [0, 1, 6, 15]) (.cond (.t 15)
 (.seq (.reg [xF 16 6, xS 17 (.conv (.i .u64) (.t 16)), xS 7 (.alloc [(.int .u64 0)]), ⟨none, .store 1 (.t 7) (.t 17), none⟩] [0, 1, 6, 7]) (.seq (.reg [xF 18 6, xS 19 (.callp f_slices_nextPowerOfTwo [(.t 18)] []), xT 8 19] [0, 1, 6, 7, 8]) (.seq (.reg [xF 20 1, xF 21 6, xS 22 (.bin .quo .int (.t 21) (xI 4)), xS 23 (.bin .mul .int (.t 22) (xI 2)), xS 24 (.bin .add .int (.t 20) (.t 23)), xS 25 (.bin .sub .int (.t 24) (xI 1)), xT 9 25] [0, 1, 6, 7, 8, 9]) (.block 0 l_slices_breakPatternsOrdered_uint64_0))))
 .skip)))
def c_slices_breakPatternsOrdered_uint64 : AFunc := ⟨k_slices_breakPatternsOrdered_uint64, 65, [], [], [], []⟩
def k_slices_order2Ordered_uint64 : ACode := (.seq (.reg [xS 8 (.mv (xI 0) false), xS 9 (.mv (xI 0) false)] [0, 1, 2, 3]) (.seq (.seq (.regd [xF 10 0, xF 11 2, xS 12 (.ia (.sl 1) (.t 10) (.t 11)), xS 13 (.load 0 (.t 12)), xF 14 0, xF 15 1, xS 16 (.ia (.sl 1) (.t 14) (.t 15)), xS 17 (.load 0 (.t 16)), xS 18 (.callp f_cmp_Less_uint64 [(.t 13), (.t 17)] [])] [1, 2, 3, 18] ([], []) []) (.cond (.t 18)
 (.seq (.reg [xT 19 3, xS 20 (.nilck (.t 19)), xS 21 (.load 0 (.t 20)), xS 22 (.bin .add .int (.t 21) (xI 1)), xS 23 (.nilck (.t 19)), ⟨none, .store 1 (.t 23) (.t 22), none⟩] [1, 2]) (.seq (.reg [xT 24 2, xT 25 1, xT 8 24, xT 9 25] [8, 9]) .ret))
 .skip)) (.seq (.reg [xT 26 1, xT 27 2, xT 8 26, xT 9 27] [8, 9]) .ret)))
def c_slices_order2Ordered_uint64 : AFunc := ⟨k_slices_order2Ordered_uint64, 28, [.t 8, .t 9], [], [], []⟩
def k_slices_medianOrdered_uint64 : ACode := (.seq (.reg [xS 10 (.mv (xI 0) false)] [0, 1, 2, 3, 4]) (.seq (.reg [xF 12 0, xT 13 1, xT 14 2, xF 15 4, xS 16 (.callh f_slices_order2Ordered_uint64 [(.t 12), (.t 13), (.t 14), (.t 15)]), xT 11 16, xE 17 11 0, xE 18 11 1, xT 1 17, xT 2 18] [0, 1, 2, 3, 4]) (.seq (.reg [xF 20 0, xT 21 2, xT 22 3, xF 23 4, xS 24 (.callh f_slices_order2Ordered_uint64 [(.t 20), (.t 21), (.t 22), (.t 23)]), xT 19 24, xE 25 19 0, xE 26 19 1, xT 2 25, xT 3 26] [0, 1, 2, 4]) (.seq (.reg [xT 28 0, xT 29 1, xT 30 2, xT 31 4, xS 32 (.callh f_slices_order2Ordered_uint64 [(.t 28), (.t 29), (.t 30), (.t 31)]), xT 27 32, xE 33 27 0, xE 34 27 1, xT 1 33, xT 2 34] [2]) (.seq (.reg [xT 35 2, xT 10 35] [10]) .ret)))))
def c_slices_medianOrdered_uint64 : AFunc := ⟨k_slices_medianOrdered_uint64, 36, [.t 10], [], [], []⟩
def k_slices_medianAdjacentOrdered_uint64 : ACode := (.seq (.reg [xS 6 (.mv (xI 0) false)] [0, 1, 2]) (.seq (.reg [xT 7 0, xF 8 1, xS 9 (.bin .sub .int (.t 8) (xI 1)), xF 10 1, xT 11 1, xS 12 (.bin .add .int (.t 11) (xI 1)), xT 13 2, xS 14 (.callh f_slices_medianOrdered_uint64 [(.t 7), (.t 9), (.t 10), (.t 12), (.t 13)]), xT 6 14] [6]) .ret))
def c_slices_medianAdjacentOrdered_uint64 : AFunc := ⟨k_slices_medianAdjacentOrdered_uint64, 15, [.t 6], [], [], []⟩
def k_slices_choosePivotOrdered_uint64 : ACode := (.seq (.reg [xS 6 (.mv (xI 0) false), xS 7 (.mv (xI 0) false)] [0, 1, 2]) (.seq (.reg [xT 13 2, xF 14 1, xS 15 (.bin .sub .int (.t 13) (.t 14)), xT 8 15] [0, 1, 8]) (.seq (.reg [xS 9 (.alloc [(.int .i64 0)])] [0, 1, 8, 9]) (.seq (.reg [xF 16 1, xF 17 8, xS 18 (.bin .quo .int (.t 17) (xI 4)), xS 19 (.bin .mul .int (.t 18) (xI 1)), xS 20 (.bin .add .int (.t 16) (.t 19)), xT 10 20] [0, 1, 8, 9, 10]) (.seq (.reg [xF 21 1, xF 22 8, xS 23 (.bin .quo .int (.t 22) (xI 4)), xS 24 (.bin .mul .int (.t 23) (xI 2)), xS 25 (.bin .add .int (.t 21) (.t 24)), xT 11 25] [0, 1, 8, 9, 10, 11]) (.seq (.reg [xT 26 1, xF 27 8, xS 28 (.bin .quo .int (.t 27) (xI 4)), xS 29 (.bin .mul .int (.t 28) (xI 3)), xS 30 (.bin .add .int (.t 26) (.t 29)), xT 12 30] [0, 8, 9, 10, 11, 12]) (.seq (.seq (.reg [xF 31 8, xS 32 (.bin .geq .int (.t 31) (xI 8))] [0, 8, 9, 10, 11, 12, 32]) (.cond (.t 32)
 (.seq (.seq (.reg [xT 33 8, xS 34 (.bin .geq .int (.t 33) (xI 50))] [0, 9, 10, 11, 12, 34]) (.cond (.t 34)
 (.seq (.reg [xF 35 0, xT 36 10, xS 37 (.callh f_slices_medianAdjacentOrdered_uint64 [(.t 35), (.t 36), (.t 9)]), xT 10 37] [0, 9, 10, 11, 12]) (.seq (.reg [xF 38 0, xT 39 11, xS 40 (.callh f_slices_medianAdjacentOrdered_uint64 [(.t 38), (.t 39), (.t 9)]), xT 11 40] [0, 9, 10, 11, 12]) (.reg [xF 41 0, xT 42 12, xS 43 (.callh f_slices_medianAdjacentOrdered_uint64 [(.t 41), (.t 42), (.t 9)]), xT 12 43] [0, 9, 10, 11, 12])))
 .skip)) (.reg [xT 44 0, xT 45 10, xT 46 11, xT 47 12, xS 48 (.callh f_slices_medianOrdered_uint64 [(.t 44), (.t 45), (.t 46), (.t 47), (.t 9)]), xT 11 48] [9, 11]))
 .skip)) (.seq (.reg [xS 49 (.load 0 (.t 9))] [11, 49]) (.block 0 (.seq (.reg [xS 52 (.bin .eql .int (.t 49) (xI 0)), xT 51 52] [11, 49, 51]) (.cond (.t 51)
 (.seq (.reg [xT 53 11, xT 6 53, xS 7 (.mv (xI 1) false)] [6, 7]) .ret)
 (.seq (.reg [xS 55 (.bin .eql .int (.t 49) (xI 12)), xT 54 55] [11, 54]) (.cond (.t 54)
 (.seq (.reg [xT 56 11, xT 6 56, xS 7 (.mv (xI 2) false)] [6, 7]) .ret)
 (.seq (.reg [xT 50 11, xT 6 50, xS 7 (.mv (xI 0) false)] [6, 7]) .ret))))))))))))))
def c_slices_choosePivotOrdered_uint64 : AFunc := ⟨k_slices_choosePivotOrdered_uint64, 57, [.t 6, .t 7], [], [], []⟩
def bl_slices_reverseRangeOrdered_uint64_0 : ACode := (.seq (.seq (.reg [xF 11 6, xF 12 7, xS 13 (.bin .lss .int (.t 11) (.t 12))] [0, 6, 7, 13]) (.cond (.t 13)
 .skip
 (.exit 0))) (.block 1 (.seq (.regd [xF 14 0, xF 15 6, xF 16 0, xF 17 7, xF 18 0, xF 19 7, xS 20 (.ia (.sl 1) (.t 18) (.t 19)), xS 21 (.load 0 (.t 20)), xF 22 0, xF 23 6, xS 24 (.ia (.sl 1) (.t 22) (.t 23)), xS 25 (.load 0 (.t 24)), xS 26 (.ia (.sl 1) (.t 14) (.t 15)), ⟨none, .store 1 (.t 26) (.t 21), none⟩, xS 27 (.ia (.sl 1) (.t 16) (.t 17)), ⟨none, .store 1 (.t 27) (.t 25), none⟩] [0, 6, 7] ([], []) []) (.seq (.reg [xT 28 6, xS 29 (.bin .add .int (.t 28) (xI 1)), xT 6 29] [0, 6, 7]) (.reg [xT 30 7, xS 31 (.bin .sub .int (.t 30) (xI 1)), xT 7 31] [0, 6, 7])))))
def l_slices_reverseRangeOrdered_uint64_0 : ACode := .loop [0, 6, 7] [] bl_slices_reverseRangeOrdered_uint64_0
theorem L_slices_reverseRangeOrdered_uint64_0 {T : Table} (ks : List Kt) (e : Env) (h : Heap) (Q : Ex → Env → Heap → Prop) : Xc T l_slices_reverseRangeOrdered_uint64_0 ks e h Q = Xc T bl_slices_reverseRangeOrdered_uint64_0 (.seq l_slices_reverseRangeOrdered_uint64_0 :: ks) (e.keep [0, 6, 7]) h Q := Xc_loop ks _ e h Q _ _
def k_slices_reverseRangeOrdered_uint64 : ACode := (.seq (.reg [xT 8 1, xT 6 8] [0, 2, 6]) (.seq (.reg [xT 9 2, xS 10 (.bin .sub .int (.t 9) (xI 1)), xT 7 10] [0, 6, 7]) (.block 0 l_slices_reverseRangeOrdered_uint64_0)))
def c_slices_reverseRangeOrdered_uint64 : AFunc := ⟨k_slices_reverseRangeOrdered_uint64, 32, [], [], [], []⟩
def bl_slices_partialInsertionSortOrdered_uint64_0 : ACode := (.seq (.seq (.regd [xF 17 7, xF 18 2, xS 19 (.bin .lss .int (.t 17) (.t 18)), xF 20 19, xG 21 20 true (.mv (.t 0) false), xG 22 20 true (.mv (.t 7) false), xG 23 20 true (.ia (.sl 1) (.t 21) (.t 22)), xG 24 20 true (.load 0 (.t 23)), xG 25 20 true (.mv (.t 0) false), xG 26 20 true (.mv (.t 7) false), xG 27 20 true (.bin .sub .int (.t 26) (xI 1)), xG 28 20 true (.ia (.sl 1) (.t 25) (.t 27)), xG 29 20 true (.load 0 (.t 28)), xG 30 20 true (.callp f_cmp_Less_uint64 [(.t 24), (.t 29)] []), xG 31 20 true (.un .not (.t 30)), xS 32 (.pick (.t 20) (.t 31) (.c (.bool false)))] [0, 1, 2, 7, 8, 32] ([], []) []) (.cond (.t 32)
 .skip
 (.exit 2))) (.block 3 (.reg [xT 33 7, xS 34 (.bin .add .int (.t 33) (xI 1)), xT 7 34] [0, 1, 2, 7, 8])))
def l_slices_partialInsertionSortOrdered_uint64_0 : ACode := .loop [0, 1, 2, 7, 8] [] bl_slices_partialInsertionSortOrdered_uint64_0
theorem L_slices_partialInsertionSortOrdered_uint64_0 {T : Table} (ks : List Kt) (e : Env) (h : Heap) (Q : Ex → Env → Heap → Prop) : Xc T l_slices_partialInsertionSortOrdered_uint64_0 ks e h Q = Xc T bl_slices_partialInsertionSortOrdered_uint64_0 (.seq l_slices_partialInsertionSortOrdered_uint64_0 :: ks) (e.keep [0, 1, 2, 7, 8]) h Q := Xc_loop ks _ e h Q _ _
def bl_slices_partialInsertionSortOrdered_uint64_1 : ACode := (.seq (.seq (.reg [xF 64 9, xS 65 (.bin .geq .int (.t 64) (xI 1))] [0, 1, 2, 7, 8, 9, 65]) (.cond (.t 65)
 .skip
 (.exit 4))) (.seq (.block 5 (.seq (.seq (.regd [xF 68 0, xF 69 9, xS 70 (.ia (.sl 1) (.t 68) (.t 69)), xS 71 (.load 0 (.t 70)), xF 72 0, xF 73 9, xS 74 (.bin .sub .int (.t 73) (xI 1)), xS 75 (.ia (.sl 1) (.t 72) (.t 74)), xS 76 (.load 0 (.t 75)), xS 77 (.callp f_cmp_Less_uint64 [(.t 71), (.t 76)] []), xS 78 (.un .not (.t 77))] [0, 1, 2, 7, 8, 9, 78] ([], []) []) (.cond (.t 78)
 (.exit 4)
 .skip)) (.regd [xF 79 0, xF 80 9, xF 81 0, xF 82 9, xS 83 (.bin .sub .int (.t 82) (xI 1)), xF 84 0, xF 85 9, xS 86 (.bin .sub .int (.t 85) (xI 1)), xS 87 (.ia (.sl 1) (.t 84) (.t 86)), xS 88 (.load 0 (.t 87)), xF 89 0, xF 90 9, xS 91 (.ia (.sl 1) (.t 89) (.t 90)), xS 92 (.load 0 (.t 91)), xS 93 (.ia (.sl 1) (.t 79) (.t 80)), ⟨none, .store 1 (.t 93) (.t 88), none⟩, xS 94 (.ia (.sl 1) (.t 81) (.t 83)), ⟨none, .store 1 (.t 94) (.t 92), none⟩] [0, 1, 2, 7, 8, 9] ([], []) []))) (.reg [xT 66 9, xS 67 (.bin .sub .int (.t 66) (xI 1)), xT 9 67] [0, 1, 2, 7, 8, 9])))
def l_slices_partialInsertionSortOrdered_uint64_1 : ACode := .loop [0, 1, 2, 7, 8, 9] [] bl_slices_partialInsertionSortOrdered_uint64_1
theorem L_slices_partialInsertionSortOrdered_uint64_1 {T : Table} (ks : List Kt) (e : Env) (h : Heap) (Q : Ex → Env → Heap → Prop) : Xc T l_slices_partialInsertionSortOrdered_uint64_1 ks e h Q = Xc T bl_slices_partialInsertionSortOrdered_uint64_1 (.seq l_slices_partialInsertionSortOrdered_uint64_1 :: ks) (e.keep [0, 1, 2, 7, 8, 9]) h Q := Xc_loop ks _ e h Q _ _
def bl_slices_partialInsertionSortOrdered_uint64_2 : ACode := (.seq (.seq (.reg [xF 101 10, xF 102 2, xS 103 (.bin .lss .int (.t 101) (.t 102))] [0, 1, 2, 7, 8, 10, 103]) (.cond (.t 103)
 .skip
 (.exit 6))) (.seq (.block 7 (.seq (.seq (.regd [xF 106 0, xF 107 10, xS 108 (.ia (.sl 1) (.t 106) (.t 107)), xS 109 (.load 0 (.t 108)), xF 110 0, xF 111 10, xS 112 (.bin .sub .int (.t 111) (xI 1)), xS 113 (.ia (.sl 1) (.t 110) (.t 112)), xS 114 (.load 0 (.t 113)), xS 115 (.callp f_cmp_Less_uint64 [(.t 109), (.t 114)] []), xS 116 (.un .not (.t 115))] [0, 1, 2, 7, 8, 10, 116] ([], []) []) (.cond (.t 116)
 (.exit 6)
 .skip)) (.regd [xF 117 0, xF 118 10, xF 119 0, xF 120 10, xS 121 (.bin .sub .int (.t 120) (xI 1)), xF 122 0, xF 123 10, xS 124 (.bin .sub .int (.t 123) (xI 1)), xS 125 (.ia (.sl 1) (.t 122) (.t 124)), xS 126 (.load 0 (.t 125)), xF 127 0, xF 128 10, xS 129 (.ia (.sl 1) (.t 127) (.t 128)), xS 130 (.load 0 (.t 129)), xS 131 (.ia (.sl 1) (.t 117) (.t 118)), ⟨none, .store 1 (.t 131) (.t 126), none⟩, xS 132 (.ia (.sl 1) (.t 119) (.t 121)), ⟨none, .store 1 (.t 132) (.t 130), none⟩] [0, 1, 2, 7, 8, 10] ([], []) []))) (.reg [xT 104 10, xS 105 (.bin .add .int (.t 104) (xI 1)), xT 10 105] [0, 1, 2, 7, 8, 10])))
def l_slices_partialInsertionSortOrdered_uint64_2 : ACode := .loop [0, 1, 2, 7, 8, 10] [] bl_slices_partialInsertionSortOrdered_uint64_2
theorem L_slices_partialInsertionSortOrdered_uint64_2 {T : Table} (ks : List Kt) (e : Env) (h : Heap) (Q : Ex → Env → Heap → Prop) : Xc T l_slices_partialInsertionSortOrdered_uint64_2 ks e h Q = Xc T bl_slices_partialInsertionSortOrdered_uint64_2 (.seq l_slices_partialInsertionSortOrdered_uint64_2 :: ks) (e.keep [0, 1, 2, 7, 8, 10]) h Q := Xc_loop ks _ e h Q _ _
def bl_slices_partialInsertionSortOrdered_uint64_3 : ACode := (.seq (.seq (.reg [xF 13 8, xS 14 (.bin .lss .int (.t 13) (xI 5))] [0, 1, 2, 7, 8, 14]) (.cond (.t 14)
 .skip
 (.exit 0))) (.seq (.block 1 (.seq (.block 2 l_slices_partialInsertionSortOrdered_uint64_0) (.seq (.seq (.reg [xF 35 7, xF 36 2, xS 37 (.bin .eql .int (.t 35) (.t 36))] [0, 1, 2, 7, 8, 37]) (.cond (.t 37)
 (.seq (.reg [xS 6 (.mv (.c (.bool true)) false)] [6]) .ret)
 .skip)) (.seq (.seq (.reg [xF 38 2, xF 39 1, xS 40 (.bin .sub .int (.t 38) (.t 39)), xS 41 (.bin .lss .int (.t 40) (xI 50))] [0, 1, 2, 7, 8, 41]) (.cond (.t 41)
 (.seq (.reg [xS 6 (.mv (.c (.bool false)) false)] [6]) .ret)
 .skip)) (.seq (.regd [xF 42 0, xF 43 7, xF 44 0, xF 45 7, xS 46 (.bin .sub .int (.t 45) (xI 1)), xF 47 0, xF 48 7, xS 49 (.bin .sub .int (.t 48) (xI 1)), xS 50 (.ia (.sl 1) (.t 47) (.t 49)), xS 51 (.load 0 (.t 50)), xF 52 0, xF 53 7, xS 54 (.ia (.sl 1) (.t 52) (.t 53)), xS 55 (.load 0 (.t 54)), xS 56 (.ia (.sl 1) (.t 42) (.t 43)), ⟨none, .store 1 (.t 56) (.t 51), none⟩, xS 57 (.ia (.sl 1) (.t 44) (.t 46)), ⟨none, .store 1 (.t 57) (.t 55), none⟩] [0, 1, 2, 7, 8] ([], []) []) (.seq (.seq (.reg [xF 58 7, xF 59 1, xS 60 (.bin .sub .int (.t 58) (.t 59)), xS 61 (.bin .geq .int (.t 60) (xI 2))] [0, 1, 2, 7, 8, 61]) (.cond (.t 61)
 (.seq (.reg [xF 62 7, xS 63 (.bin .sub .int (.t 62) (xI 1)), xT 9 63] [0, 1, 2, 7, 8, 9]) (.block 4 l_slices_partialInsertionSortOrdered_uint64_1))
 .skip)) (.seq (.reg [xF 95 2, xF 96 7, xS 97 (.bin .sub .int (.t 95) (.t 96)), xS 98 (.bin .geq .int (.t 97) (xI 2))] [0, 1, 2, 7, 8, 98]) (.cond (.t 98)
 (.seq (.reg [xF 99 7, xS 100 (.bin .add .int (.t 99) (xI 1)), xT 10 100] [0, 1, 2, 7, 8, 10]) (.block 6 l_slices_partialInsertionSortOrdered_uint64_2))
 .skip)))))))) (.reg [xT 15 8, xS 16 (.bin .add .int (.t 15) (xI 1)), xT 8 16] [0, 1, 2, 7, 8])))
def l_slices_partialInsertionSortOrdered_uint64_3 : ACode := .loop [0, 1, 2, 7, 8] [] bl_slices_partialInsertionSortOrdered_uint64_3
theorem L_slices_partialInsertionSortOrdered_uint64_3 {T : Table} (ks : List Kt) (e : Env) (h : Heap) (Q : Ex → Env → Heap → Prop) : Xc T l_slices_partialInsertionSortOrdered_uint64_3 ks e h Q = Xc T bl_slices_partialInsertionSortOrdered_uint64_3 (.seq l_slices_partialInsertionSortOrdered_uint64_3 :: ks) (e.keep [0, 1, 2, 7, 8]) h Q := Xc_loop ks _ e h Q _ _
def k_slices_partialInsertionSortOrdered_uint64 : ACode := (.seq (.reg [xS 6 (.mv (.c (.bool false)) false)] [0, 1, 2]) (.seq (.reg [xF 11 1, xS 12 (.bin .add .int (.t 11) (xI 1)), xT 7 12] [0, 1, 2, 7]) (.seq (.seq (.reg [xS 8 (.mv (xI 0) false)] [0, 1, 2, 7, 8]) (.block 0 l_slices_partialInsertionSortOrdered_uint64_3)) (.seq (.reg [xS 6 (.mv (.c (.bool false)) false)] [6]) .ret))))
def c_slices_partialInsertionSortOrdered_uint64 : AFunc := ⟨k_slices_partialInsertionSortOrdered_uint64, 133, [.t 6], [], [], []⟩
def bl_slices_partitionEqualOrdered_uint64_0 : ACode := (.seq (.seq (.regd [xF 29 9, xF 30 10, xS 31 (.bin .leq .int (.t 29) (.t 30)), xF 32 31, xG 33 32 true (.mv (.t 0) false), xG 34 32 true (.mv (.t 1) false), xG 35 32 true (.ia (.sl 1) (.t 33) (.t 34)), xG 36 32 true (.load 0 (.t 35)), xG 37 32 true (.mv (.t 0) false), xG 38 32 true (.mv (.t 9) false), xG 39 32 true (.ia (.sl 1) (.t 37) (.t 38)), xG 40 32 true (.load 0 (.t 39)), xG 41 32 true (.callp f_cmp_Less_uint64 [(.t 36), (.t 40)] []), xG 42 32 true (.un .not (.t 41)), xS 43 (.pick (.t 32) (.t 42) (.c (.bool false)))] [0, 1, 9, 10, 43] ([], []) []) (.cond (.t 43)
 .skip
 (.exit 2))) (.block 3 (.reg [xT 44 9, xS 45 (.bin .add .int (.t 44) (xI 1)), xT 9 45] [0, 1, 9, 10])))
def l_slices_partitionEqualOrdered_uint64_0 : ACode := .loop [0, 1, 9, 10] [] bl_slices_partitionEqualOrdered_uint64_0
theorem L_slices_partitionEqualOrdered_uint64_0 {T : Table} (ks : List Kt) (e : Env) (h : Heap) (Q : Ex → Env → Heap → Prop) : Xc T l_slices_partitionEqualOrdered_uint64_0 ks e h Q = Xc T bl_slices_partitionEqualOrdered_uint64_0 (.seq l_slices_partitionEqualOrdered_uint64_0 :: ks) (e.keep [0, 1, 9, 10]) h Q := Xc_loop ks _ e h Q _ _
def bl_slices_partitionEqualOrdered_uint64_1 : ACode := (.seq (.seq (.regd [xF 46 9, xF 47 10, xS 48 (.bin .leq .int (.t 46) (.t 47)), xF 49 48, xG 50 49 true (.mv (.t 0) false), xG 51 49 true (.mv (.t 1) false), xG 52 49 true (.ia (.sl 1) (.t 50) (.t 51)), xG 53 49 true (.load 0 (.t 52)), xG 54 49 true (.mv (.t 0) false), xG 55 49 true (.mv (.t 10) false), xG 56 49 true (.ia (.sl 1) (.t 54) (.t 55)), xG 57 49 true (.load 0 (.t 56)), xG 58 49 true (.callp f_cmp_Less_uint64 [(.t 53), (.t 57)] []), xS 59 (.pick (.t 49) (.t 58) (.c (.bool false)))] [0, 1, 9, 10, 59] ([], []) []) (.cond (.t 59)
 .skip
 (.exit 4))) (.block 5 (.reg [xT 60 10, xS 61 (.bin .sub .int (.t 60) (xI 1)), xT 10 61] [0, 1, 9, 10])))
def l_slices_partitionEqualOrdered_uint64_1 : ACode := .loop [0, 1, 9, 10] [] bl_slices_partitionEqualOrdered_uint64_1
theorem L_slices_partitionEqualOrdered_uint64_1 {T : Table} (ks : List Kt) (e : Env) (h : Heap) (Q : Ex → Env → Heap → Prop) : Xc T l_slices_partitionEqualOrdered_uint64_1 ks e h Q = Xc T bl_slices_partitionEqualOrdered_uint64_1 (.seq l_slices_partitionEqualOrdered_uint64_1 :: ks) (e.keep [0, 1, 9, 10]) h Q := Xc_loop ks _ e h Q _ _
def bl_slices_partitionEqualOrdered_uint64_2 : ACode := (.block 1 (.seq (.block 2 l_slices_partitionEqualOrdered_uint64_0) (.seq (.block 4 l_slices_partitionEqualOrdered_uint64_1) (.seq (.seq (.reg [xF 62 9, xF 63 10, xS 64 (.bin .gtr .int (.t 62) (.t 63))] [0, 1, 9, 10, 64]) (.cond (.t 64)
 (.exit 0)
 .skip)) (.seq (.regd [xF 65 0, xF 66 9, xF 67 0, xF 68 10, xF 69 0, xF 70 10, xS 71 (.ia (.sl 1) (.t 69) (.t 70)), xS 72 (.load 0 (.t 71)), xF 73 0, xF 74 9, xS 75 (.ia (.sl 1) (.t 73) (.t 74)), xS 76 (.load 0 (.t 75)), xS 77 (.ia (.sl 1) (.t 65) (.t 66)), ⟨none, .store 1 (.t 77) (.t 72), none⟩, xS 78 (.ia (.sl 1) (.t 67) (.t 68)), ⟨none, .store 1 (.t 78) (.t 76), none⟩] [0, 1, 9, 10] ([], []) []) (.seq (.reg [xT 79 9, xS 80 (.bin .add .int (.t 79) (xI 1)), xT 9 80] [0, 1, 9, 10]) (.reg [xT 81 10, xS 82 (.bin .sub .int (.t 81) (xI 1)), xT 10 82] [0, 1, 9, 10])))))))
def l_slices_partitionEqualOrdered_uint64_2 : ACode := .loop [0, 1, 9, 10] [] bl_slices_partitionEqualOrdered_uint64_2
theorem L_slices_partitionEqualOrdered_uint64_2 {T : Table} (ks : List Kt) (e : Env) (h : Heap) (Q : Ex → Env → Heap → Prop) : Xc T l_slices_partitionEqualOrdered_uint64_2 ks e h Q = Xc T bl_slices_partitionEqualOrdered_uint64_2 (.seq l_slices_partitionEqualOrdered_uint64_2 :: ks) (e.keep [0, 1, 9, 10]) h Q := Xc_loop ks _ e h Q _ _
def k_slices_partitionEqualOrdered_uint64 : ACode := (.seq (.reg [xS 8 (.mv (xI 0) false)] [0, 1, 2, 3]) (.seq (.regd [xF 11 0, xF 12 1, xF 13 0, xF 14 3, xF 15 0, xF 16 3, xS 17 (.ia (.sl 1) (.t 15) (.t 16)), xS 18 (.load 0 (.t 17)), xF 19 0, xF 20 1, xS 21 (.ia (.sl 1) (.t 19) (.t 20)), xS 22 (.load 0 (.t 21)), xS 23 (.ia (.sl 1) (.t 11) (.t 12)), ⟨none, .store 1 (.t 23) (.t 18), none⟩, xS 24 (.ia (.sl 1) (.t 13) (.t 14)), ⟨none, .store 1 (.t 24) (.t 22), none⟩] [0, 1, 2] ([], []) []) (.seq (.reg [xF 25 1, xS 26 (.bin .add .int (.t 25) (xI 1)), xT 27 2, xS 28 (.bin .sub .int (.t 27) (xI 1)), xT 9 26, xT 10 28] [0, 1, 9, 10]) (.seq (.block 0 l_slices_partitionEqualOrdered_uint64_2) (.seq (.reg [xT 83 9, xT 8 83] [8]) .ret)))))
def c_slices_partitionEqualOrdered_uint64 : AFunc := ⟨k_slices_partitionEqualOrdered_uint64, 84, [.t 8], [], [], []⟩
def bl_slices_partitionOrdered_uint64_0 : ACode := (.seq (.seq (.regd [xF 30 10, xF 31 11, xS 32 (.bin .leq .int (.t 30) (.t 31)), xF 33 32, xG 34 33 true (.mv (.t 0) false), xG 35 33 true (.mv (.t 10) false), xG 36 33 true (.ia (.sl 1) (.t 34) (.t 35)), xG 37 33 true (.load 0 (.t 36)), xG 38 33 true (.mv (.t 0) false), xG 39 33 true (.mv (.t 1) false), xG 40 33 true (.ia (.sl 1) (.t 38) (.t 39)), xG 41 33 true (.load 0 (.t 40)), xG 42 33 true (.callp f_cmp_Less_uint64 [(.t 37), (.t 41)] []), xS 43 (.pick (.t 33) (.t 42) (.c (.bool false)))] [0, 1, 10, 11, 43] ([], []) []) (.cond (.t 43)
 .skip
 (.exit 0))) (.block 1 (.reg [xT 44 10, xS 45 (.bin .add .int (.t 44) (xI 1)), xT 10 45] [0, 1, 10, 11])))
def l_slices_partitionOrdered_uint64_0 : ACode := .loop [0, 1, 10, 11] [] bl_slices_partitionOrdered_uint64_0
theorem L_slices_partitionOrdered_uint64_0 {T : Table} (ks : List Kt) (e : Env) (h : Heap) (Q : Ex → Env → Heap → Prop) : Xc T l_slices_partitionOrdered_uint64_0 ks e h Q = Xc T bl_slices_partitionOrdered_uint64_0 (.seq l_slices_partitionOrdered_uint64_0 :: ks) (e.keep [0, 1, 10, 11]) h Q := Xc_loop ks _ e h Q _ _
def bl_slices_partitionOrdered_uint64_1 : ACode := (.seq (.seq (.regd [xF 46 10, xF 47 11, xS 48 (.bin .leq .int (.t 46) (.t 47)), xF 49 48, xG 50 49 true (.mv (.t 0) false), xG 51 49 true (.mv (.t 11) false), xG 52 49 true (.ia (.sl 1) (.t 50) (.t 51)), xG 53 49 true (.load 0 (.t 52)), xG 54 49 true (.mv (.t 0) false), xG 55 49 true (.mv (.t 1) false), xG 56 49 true (.ia (.sl 1) (.t 54) (.t 55)), xG 57 49 true (.load 0 (.t 56)), xG 58 49 true (.callp f_cmp_Less_uint64 [(.t 53), (.t 57)] []), xG 59 49 true (.un .not (.t 58)), xS 60 (.pick (.t 49) (.t 59) (.c (.bool false)))] [0, 1, 10, 11, 60] ([], []) []) (.cond (.t 60)
 .skip
 (.exit 2))) (.block 3 (.reg [xT 61 11, xS 62 (.bin .sub .int (.t 61) (xI 1)), xT 11 62] [0, 1, 10, 11])))
def l_slices_partitionOrdered_uint64_1 : ACode := .loop [0, 1, 10, 11] [] bl_slices_partitionOrdered_uint64_1
theorem L_slices_partitionOrdered_uint64_1 {T : Table} (ks : List Kt) (e : Env) (h : Heap) (Q : Ex → Env → Heap → Prop) : Xc T l_slices_partitionOrdered_uint64_1 ks e h Q = Xc T bl_slices_partitionOrdered_uint64_1 (.seq l_slices_partitionOrdered_uint64_1 :: ks) (e.keep [0, 1, 10, 11]) h Q := Xc_loop ks _ e h Q _ _
def bl_slices_partitionOrdered_uint64_2 : ACode := (.seq (.seq (.regd [xF 99 10, xF 100 11, xS 101 (.bin .leq .int (.t 99) (.t 100)), xF 102 101, xG 103 102 true (.mv (.t 0) false), xG 104 102 true (.mv (.t 10) false), xG 105 102 true (.ia (.sl 1) (.t 103) (.t 104)), xG 106 102 true (.load 0 (.t 105)), xG 107 102 true (.mv (.t 0) false), xG 108 102 true (.mv (.t 1) false), xG 109 102 true (.ia (.sl 1) (.t 107) (.t 108)), xG 110 102 true (.load 0 (.t 109)), xG 111 102 true (.callp f_cmp_Less_uint64 [(.t 106), (.t 110)] []), xS 112 (.pick (.t 102) (.t 111) (.c (.bool false)))] [0, 1, 10, 11, 112] ([], []) []) (.cond (.t 112)
 .skip
 (.exit 6))) (.block 7 (.reg [xT 113 10, xS 114 (.bin .add .int (.t 113) (xI 1)), xT 10 114] [0, 1, 10, 11])))
def l_slices_partitionOrdered_uint64_2 : ACode := .loop [0, 1, 10, 11] [] bl_slices_partitionOrdered_uint64_2
theorem L_slices_partitionOrdered_uint64_2 {T : Table} (ks : List Kt) (e : Env) (h : Heap) (Q : Ex → Env → Heap → Prop) : Xc T l_slices_partitionOrdered_uint64_2 ks e h Q = Xc T bl_slices_partitionOrdered_uint64_2 (.seq l_slices_partitionOrdered_uint64_2 :: ks) (e.keep [0, 1, 10, 11]) h Q := Xc_loop ks _ e h Q _ _
def bl_slices_partitionOrdered_uint64_3 : ACode := (.seq (.seq (.regd [xF 115 10, xF 116 11, xS 117 (.bin .leq .int (.t 115) (.t 116)), xF 118 117, xG 119 118 true (.mv (.t 0) false), xG 120 118 true (.mv (.t 11) false), xG 121 118 true (.ia (.sl 1) (.t 119) (.t 120)), xG 122 118 true (.load 0 (.t 121)), xG 123 118 true (.mv (.t 0) false), xG 124 118 true (.mv (.t 1) false), xG 125 118 true (.ia (.sl 1) (.t 123) (.t 124)), xG 126 118 true (.load 0 (.t 125)), xG 127 118 true (.callp f_cmp_Less_uint64 [(.t 122), (.t 126)] []), xG 128 118 true (.un .not (.t 127)), xS 129 (.pick (.t 118) (.t 128) (.c (.bool false)))] [0, 1, 10, 11, 129] ([], []) []) (.cond (.t 129)
 .skip
 (.exit 8))) (.block 9 (.reg [xT 130 11, xS 131 (.bin .sub .int (.t 130) (xI 1)), xT 11 131] [0, 1, 10, 11])))
def l_slices_partitionOrdered_uint64_3 : ACode := .loop [0, 1, 10, 11] [] bl_slices_partitionOrdered_uint64_3
theorem L_slices_partitionOrdered_uint64_3 {T : Table} (ks : List Kt) (e : Env) (h : Heap) (Q : Ex → Env → Heap → Prop) : Xc T l_slices_partitionOrdered_uint64_3 ks e h Q = Xc T bl_slices_partitionOrdered_uint64_3 (.seq l_slices_partitionOrdered_uint64_3 :: ks) (e.keep [0, 1, 10, 11]) h Q := Xc_loop ks _ e h Q _ _
def bl_slices_partitionOrdered_uint64_4 : ACode := (.block 5 (.seq (.block 6 l_slices_partitionOrdered_uint64_2) (.seq (.block 8 l_slices_partitionOrdered_uint64_3) (.seq (.seq (.reg [xF 132 10, xF 133 11, xS 134 (.bin .gtr .int (.t 132) (.t 133))] [0, 1, 10, 11, 134]) (.cond (.t 134)
 (.exit 4)
 .skip)) (.seq (.regd [xF 135 0, xF 136 10, xF 137 0, xF 138 11, xF 139 0, xF 140 11, xS 141 (.ia (.sl 1) (.t 139) (.t 140)), xS 142 (.load 0 (.t 141)), xF 143 0, xF 144 10, xS 145 (.ia (.sl 1) (.t 143) (.t 144)), xS 146 (.load 0 (.t 145)), xS 147 (.ia (.sl 1) (.t 135) (.t 136)), ⟨none, .store 1 (.t 147) (.t 142), none⟩, xS 148 (.ia (.sl 1) (.t 137) (.t 138)), ⟨none, .store 1 (.t 148) (.t 146), none⟩] [0, 1, 10, 11] ([], []) []) (.seq (.reg [xT 149 10, xS 150 (.bin .add .int (.t 149) (xI 1)), xT 10 150] [0, 1, 10, 11]) (.reg [xT 151 11, xS 152 (.bin .sub .int (.t 151) (xI 1)), xT 11 152] [0, 1, 10, 11])))))))
def l_slices_partitionOrdered_uint64_4 : ACode := .loop [0, 1, 10, 11] [] bl_slices_partitionOrdered_uint64_4
theorem L_slices_partitionOrdered_uint64_4 {T : Table} (ks : List Kt) (e : Env) (h : Heap) (Q : Ex → Env → Heap → Prop) : Xc T l_slices_partitionOrdered_uint64_4 ks e h Q = Xc T bl_slices_partitionOrdered_uint64_4 (.seq l_slices_partitionOrdered_uint64_4 :: ks) (e.keep [0, 1, 10, 11]) h Q := Xc_loop ks _ e h Q _ _
def k_slices_partitionOrdered_uint64 : ACode := (.seq (.reg [xS 8 (.mv (xI 0) false), xS 9 (.mv (.c (.bool false)) false)] [0, 1, 2, 3]) (.seq (.regd [xF 12 0, xF 13 1, xF 14 0, xF 15 3, xF 16 0, xF 17 3, xS 18 (.ia (.sl 1) (.t 16) (.t 17)), xS 19 (.load 0 (.t 18)), xF 20 0, xF 21 1, xS 22 (.ia (.sl 1) (.t 20) (.t 21)), xS 23 (.load 0 (.t 22)), xS 24 (.ia (.sl 1) (.t 12) (.t 13)), ⟨none, .store 1 (.t 24) (.t 19), none⟩, xS 25 (.ia (.sl 1) (.t 14) (.t 15)), ⟨none, .store 1 (.t 25) (.t 23), none⟩] [0, 1, 2] ([], []) []) (.seq (.reg [xF 26 1, xS 27 (.bin .add .int (.t 26) (xI 1)), xT 28 2, xS 29 (.bin .sub .int (.t 28) (xI 1)), xT 10 27, xT 11 29] [0, 1, 10, 11]) (.seq (.block 0 l_slices_partitionOrdered_uint64_0) (.seq (.block 2 l_slices_partitionOrdered_uint64_1) (.seq (.seq (.reg [xF 63 10, xF 64 11, xS 65 (.bin .gtr .int (.t 63) (.t 64))] [0, 1, 10, 11, 65]) (.cond (.t 65)
 (.seq (.regd [xF 66 0, xF 67 11, xF 68 0, xF 69 1, xF 70 0, xF 71 1, xS 72 (.ia (.sl 1) (.t 70) (.t 71)), xS 73 (.load 0 (.t 72)), xF 74 0, xF 75 11, xS 76 (.ia (.sl 1) (.t 74) (.t 75)), xS 77 (.load 0 (.t 76)), xS 78 (.ia (.sl 1) (.t 66) (.t 67)), ⟨none, .store 1 (.t 78) (.t 73), none⟩, xS 79 (.ia (.sl 1) (.t 68) (.t 69)), ⟨none, .store 1 (.t 79) (.t 77), none⟩] [11] ([], []) []) (.seq (.reg [xT 80 11, xT 8 80, xS 9 (.mv (.c (.bool true)) false)] [8, 9]) .ret))
 .skip)) (.seq (.regd [xF 81 0, xF 82 10, xF 83 0, xF 84 11, xF 85 0, xF 86 11, xS 87 (.ia (.sl 1) (.t 85) (.t 86)), xS 88 (.load 0 (.t 87)), xF 89 0, xF 90 10, xS 91 (.ia (.sl 1) (.t 89) (.t 90)), xS 92 (.load 0 (.t 91)), xS 93 (.ia (.sl 1) (.t 81) (.t 82)), ⟨none, .store 1 (.t 93) (.t 88), none⟩, xS 94 (.ia (.sl 1) (.t 83) (.t 84)), ⟨none, .store 1 (.t 94) (.t 92), none⟩] [0, 1, 10, 11] ([], []) []) (.seq (.reg [xT 95 10, xS 96 (.bin .add .int (.t 95) (xI 1)), xT 10 96] [0, 1, 10, 11]) (.seq (.reg [xT 97 11, xS 98 (.bin .sub .int (.t 97) (xI 1)), xT 11 98] [0, 1, 10, 11]) (.seq (.block 4 l_slices_partitionOrdered_uint64_4) (.seq (.regd [xF 153 0, xF 154 11, xF 155 0, xF 156 1, xF 157 0, xF 158 1, xS 159 (.ia (.sl 1) (.t 157) (.t 158)), xS 160 (.load 0 (.t 159)), xF 161 0, xF 162 11, xS 163 (.ia (.sl 1) (.t 161) (.t 162)), xS 164 (.load 0 (.t 163)), xS 165 (.ia (.sl 1) (.t 153) (.t 154)), ⟨none, .store 1 (.t 165) (.t 160), none⟩, xS 166 (.ia (.sl 1) (.t 155) (.t 156)), ⟨none, .store 1 (.t 166) (.t 164), none⟩] [11] ([], []) []) (.seq (.reg [xT 167 11, xT 8 167, xS 9 (.mv (.c (.bool false)) false)] [8, 9]) .ret))))))))))))
def c_slices_partitionOrdered_uint64 : AFunc := ⟨k_slices_partitionOrdered_uint64, 168, [.t 8, .t 9], [], [], []⟩
def bl_slices_pdqsortOrdered_uint64_0 : ACode := (.block 1 (.seq (.reg [xF 19 2, xF 20 1, xS 21 (.bin .sub .int (.t 19) (.t 20)), xT 10 21] [0, 1, 2, 3, 8, 9, 10]) (.seq (.seq (.reg [xF 22 10, xS 23 (.bin .leq .int (.t 22) (xI 12))] [0, 1, 2, 3, 8, 9, 10, 23]) (.cond (.t 23)
 (.seq (.reg [xT 24 0, xT 25 1, xT 26 2, xS 27 (.callh f_slices_insertionSortOrdered_uint64 [(.t 24), (.t 25), (.t 26)])] []) .ret)
 .skip)) (.seq (.seq (.reg [xF 28 3, xS 29 (.bin .eql .int (.t 28) (xI 0))] [0, 1, 2, 3, 8, 9, 10, 29]) (.cond (.t 29)
 (.seq (.reg [xT 30 0, xT 31 1, xT 32 2, xS 33 (.callh f_slices_heapSortOrdered_uint64 [(.t 30), (.t 31), (.t 32)])] []) .ret)
 .skip)) (.seq (.seq (.reg [xF 34 8, xS 35 (.un .not (.t 34))] [0, 1, 2, 3, 8, 9, 10, 35]) (.cond (.t 35)
 (.seq (.reg [xF 36 0, xF 37 1, xF 38 2, xS 39 (.callh f_slices_breakPatternsOrdered_uint64 [(.t 36), (.t 37), (.t 38)])] [0, 1, 2, 3, 8, 9, 10]) (.reg [xT 40 3, xS 41 (.bin .sub .int (.t 40) (xI 1)), xT 3 41] [0, 1, 2, 3, 8, 9, 10]))
 .skip)) (.seq (.reg [xF 43 0, xF 44 1, xF 45 2, xS 46 (.callp f_slices_choosePivotOrdered_uint64 [(.t 43), (.t 44), (.t 45)] [(0, false)]), xT 42 46, xE 47 42 0, xE 48 42 1, xT 11 47, xT 12 48] [0, 1, 2, 3, 8, 9, 10, 11, 12]) (.seq (.seq (.reg [xF 49 12, xS 50 (.bin .eql .int (.t 49) (xI 2))] [0, 1, 2, 3, 8, 9, 10, 11, 12, 50]) (.cond (.t 50)
 (.seq (.reg [xF 51 0, xF 52 1, xF 53 2, xS 54 (.callh f_slices_reverseRangeOrdered_uint64 [(.t 51), (.t 52), (.t 53)])] [0, 1, 2, 3, 8, 9, 10, 11]) (.seq (.reg [xF 55 2, xS 56 (.bin .sub .int (.t 55) (xI 1)), xT 57 11, xF 58 1, xS 59 (.bin .sub .int (.t 57) (.t 58)), xS 60 (.bin .sub .int (.t 56) (.t 59)), xT 11 60] [0, 1, 2, 3, 8, 9, 10, 11]) (.reg [xS 12 (.mv (xI 1) false)] [0, 1, 2, 3, 8, 9, 10, 11, 12])))
 .skip)) (.seq (.seq (.reg [xF 61 8, xT 62 61, xG 63 62 true (.mv (.t 9) false), xS 64 (.pick (.t 62) (.t 63) (.c (.bool false))), xT 65 64, xG 66 65 true (.mv (.t 12) true), xG 67 65 true (.bin .eql .int (.t 66) (xI 1)), xS 68 (.pick (.t 65) (.t 67) (.c (.bool false)))] [0, 1, 2, 3, 8, 9, 10, 11, 68]) (.cond (.t 68)
 (.seq (.reg [xF 69 0, xF 70 1, xF 71 2, xS 72 (.callh f_slices_partialInsertionSortOrdered_uint64 [(.t 69), (.t 70), (.t 71)])] [0, 1, 2, 3, 8, 9, 10, 11, 72]) (.cond (.t 72)
 .ret
 .skip))
 .skip)) (.seq (.seq (.regd [xF 73 1, xS 74 (.bin .gtr .int (.t 73) (xI 0)), xF 75 74, xG 76 75 true (.mv (.t 0) false), xG 77 75 true (.mv (.t 1) false), xG 78 75 true (.bin .sub .int (.t 77) (xI 1)), xG 79 75 true (.ia (.sl 1) (.t 76) (.t 78)), xG 80 75 true (.load 0 (.t 79)), xG 81 75 true (.mv (.t 0) false), xG 82 75 true (.mv (.t 11) false), xG 83 75 true (.ia (.sl 1) (.t 81) (.t 82)), xG 84 75 true (.load 0 (.t 83)), xG 85 75 true (.callp f_cmp_Less_uint64 [(.t 80), (.t 84)] []), xG 86 75 true (.un .not (.t 85)), xS 87 (.pick (.t 75) (.t 86) (.c (.bool false)))] [0, 1, 2, 3, 8, 9, 10, 11, 87] ([], []) []) (.cond (.t 87)
 (.seq (.reg [xF 88 0, xT 89 1, xF 90 2, xT 91 11, xS 92 (.callh f_slices_partitionEqualOrdered_uint64 [(.t 88), (.t 89), (.t 90), (.t 91)]), xT 13 92] [0, 2, 3, 8, 9, 13]) (.seq (.reg [xT 93 13, xT 1 93] [0, 1, 2, 3, 8, 9]) (.exit 1)))
 .skip)) (.seq (.reg [xF 95 0, xF 96 1, xF 97 2, xT 98 11, xS 99 (.callh f_slices_partitionOrdered_uint64 [(.t 95), (.t 96), (.t 97), (.t 98)]), xT 94 99, xE 100 94 0, xE 101 94 1, xT 14 100, xT 15 101] [0, 1, 2, 3, 10, 14, 15]) (.seq (.reg [xT 102 15, xT 9 102] [0, 1, 2, 3, 9, 10, 14]) (.seq (.reg [xF 103 14, xF 104 1, xS 105 (.bin .sub .int (.t 103) (.t 104)), xF 106 2, xF 107 14, xS 108 (.bin .sub .int (.t 106) (.t 107)), xT 16 105, xT 17 108] [0, 1, 2, 3, 9, 10, 14, 16, 17]) (.seq (.reg [xT 109 10, xS 110 (.bin .quo .int (.t 109) (xI 8)), xT 18 110] [0, 1, 2, 3, 9, 14, 16, 17, 18]) (.seq (.reg [xF 111 16, xF 112 17, xS 113 (.bin .lss .int (.t 111) (.t 112))] [0, 1, 2, 3, 9, 14, 16, 17, 18, 113]) (.cond (.t 113)
 (.seq (.reg [xT 114 16, xT 115 18, xS 116 (.bin .geq .int (.t 114) (.t 115)), xT 8 116] [0, 1, 2, 3, 8, 9, 14]) (.seq (.reg [xF 117 0, xT 118 1, xF 119 14, xF 120 3, xS 121 (.callh f_slices_pdqsortOrdered_uint64 [(.t 117), (.t 118), (.t 119), (.t 120)])] [0, 2, 3, 8, 9, 14]) (.reg [xT 122 14, xS 123 (.bin .add .int (.t 122) (xI 1)), xT 1 123] [0, 1, 2, 3, 8, 9])))
 (.seq (.reg [xT 124 17, xT 125 18, xS 126 (.bin .geq .int (.t 124) (.t 125)), xT 8 126] [0, 1, 2, 3, 8, 9, 14]) (.seq (.reg [xF 127 0, xF 128 14, xS 129 (.bin .add .int (.t 128) (xI 1)), xT 130 2, xF 131 3, xS 132 (.callh f_slices_pdqsortOrdered_uint64 [(.t 127), (.t 129), (.t 130), (.t 131)])] [0, 1, 3, 8, 9, 14]) (.reg [xT 133 14, xT 2 133] [0, 1, 2, 3, 8, 9]))))))))))))))))))
def l_slices_pdqsortOrdered_uint64_0 : ACode := .loop [0, 1, 2, 3, 8, 9] [] bl_slices_pdqsortOrdered_uint64_0
theorem L_slices_pdqsortOrdered_uint64_0 {T : Table} (ks : List Kt) (e : Env) (h : Heap) (Q : Ex → Env → Heap → Prop) : Xc T l_slices_pdqsortOrdered_uint64_0 ks e h Q = Xc T bl_slices_pdqsortOrdered_uint64_0 (.seq l_slices_pdqsortOrdered_uint64_0 :: ks) (e.keep [0, 1, 2, 3, 8, 9]) h Q := Xc_loop ks _ e h Q _ _
def k_slices_pdqsortOrdered_uint64 : ACode := (.seq (.reg [xS 8 (.mv (.c (.bool true)) false)] [0, 1, 2, 3, 8]) (.seq (.reg [xS 9 (.mv (.c (.bool true)) false)] [0, 1, 2, 3, 8, 9]) (.block 0 l_slices_pdqsortOrdered_uint64_0)))
def c_slices_pdqsortOrdered_uint64 : AFunc := ⟨k_slices_pdqsortOrdered_uint64, 134, [], [], [], []⟩
def k_slices_Sort_uint64_uint64 : ACode := (.seq (.reg [xF 3 0, xS 4 (.len false (.t 3)), xT 2 4] [0, 2]) (.reg [xT 5 0, xF 6 2, xT 7 2, xS 8 (.conv (.i .u64) (.t 7)), xS 9 (.callp f_math_bits_Len [(.t 8)] []), xS 10 (.callh f_slices_pdqsortOrdered_uint64 [(.t 5), (xI 0), (.t 6), (.t 9)])] []))
def c_slices_Sort_uint64_uint64 : AFunc := ⟨k_slices_Sort_uint64_uint64, 11, [], [], [], []⟩
def bm_whole_Station_numbers_0 : ACode := (.block 1 (.seq (.reg [xS 17 (.ent (.t 14)), xE 18 17 0, xT 6 18] [1, 5, 6, 14]) (.seq (.reg [xF 19 6, xF 20 1, xS 21 (.bin .lss .int (.t 19) (.t 20))] [1, 5, 6, 14, 21]) (.cond (.t 21)
 (.reg [xT 22 5, xT 23 6, xS 24 (.bsl 1 [(.t 23)] false), xS 25 (.apph 1 8 (.t 22) (.t 24)), xT 5 25] [1, 5, 14])
 .skip))))
def cm_whole_Station_numbers_0 : ACode := (.seq (.reg [xF 26 5, xS 27 (.callh f_slices_Sort_uint64_uint64 [(.t 26)])] [5]) (.seq (.reg [xT 28 5, xT 4 28] [4]) .ret))
def k_whole_Station_numbers : ACode := (.seq (.reg [xS 4 (.mv (.c (.hn 1)) false)] [0, 1]) (.seq (.reg [xS 5 (.mv (.c (.hn 1)) false)] [0, 1, 5]) (.seq (.seq (.reg [xF 7 0, xS 8 (.bin .eql .ptr (.t 7) (.c .nilp))] [0, 1, 5, 8]) (.cond (.t 8)
 (.seq (.reg [xT 9 5, xT 4 9] [4]) .ret)
 .skip)) (.mloop (.reg [xT 10 0, xS 11 (.nilck (.t 10)), xS 12 (.fa 0 (.t 11)), xS 13 (.load 0 (.t 12)), xS 14 (.rng false (.t 13))] [1, 5, 14]) 14 15 16 [1, 5, 14] [] 0 bm_whole_Station_numbers_0 cm_whole_Station_numbers_0))))
def c_whole_Station_numbers : AFunc := ⟨k_whole_Station_numbers, 29, [.t 4], [], [], [(0, false)]⟩
def bl_whole_Station_Missing_0 : ACode := (.seq (.reg [xS 16 (.bin .lss .int (.t 15) (.t 14))] [0, 1, 5, 6, 7, 13, 14, 15, 16]) (.seq (.cond (.t 16)
 .skip
 (.exit 0)) (.seq (.block 1 (.seq (.reg [xS 17 (.ia (.sl 1) (.t 13) (.t 15)), xS 18 (.load 0 (.t 17)), xT 9 18] [0, 1, 5, 6, 7, 9, 13, 14, 15]) (.seq (.reg [xF 19 7, xF 20 9, xS 21 (.callv (.t 19) [(.t 20)])] [0, 1, 5, 6, 7, 9, 13, 14, 15]) (.reg [xT 22 9, xS 23 (.bin .add .int (.t 22) (.c (.int .u64 1))), ⟨none, .store 1 (.t 6) (.t 23), none⟩] [0, 1, 5, 6, 7, 13, 14, 15])))) (.reg [xS 24 (.bin .add .int (.t 15) (xI 1)), xT 15 24] [0, 1, 5, 6, 7, 13, 14, 15]))))
def l_whole_Station_Missing_0 : ACode := .loop [0, 1, 5, 6, 7, 13, 14, 15] [] bl_whole_Station_Missing_0
theorem L_whole_Station_Missing_0 {T : Table} (ks : List Kt) (e : Env) (h : Heap) (Q : Ex → Env → Heap → Prop) : Xc T l_whole_Station_Missing_0 ks e h Q = Xc T bl_whole_Station_Missing_0 (.seq l_whole_Station_Missing_0 :: ks) (e.keep [0, 1, 5, 6, 7, 13, 14, 15]) h Q := Xc_loop ks _ e h Q _ _
def k_whole_Station_Missing : ACode := (.seq (.reg [xS 4 (.mv (.c (.hn 2)) false)] [0, 1]) (.seq (.reg [xS 5 (.alloc [(.hn 2)])] [0, 1, 5]) (.seq (.reg [xS 6 (.alloc [(.int .u64 0)]), ⟨none, .store 1 (.t 6) (.c (.int .u64 0)), none⟩] [0, 1, 5, 6]) (.seq (.reg [xS 10 (.mkfn f_whole_Station_Missing_1 [(.t 6), (.t 5)]), xT 7 10] [0, 1, 5, 6, 7]) (.seq (.seq (.reg [xF 11 0, xF 12 1, xS 13 (.callh f_whole_Station_numbers [(.t 11), (.t 12)]), xS 14 (.len false (.t 13)), xS 15 (.mv (xI 0) false)] [0, 1, 5, 6, 7, 13, 14, 15]) (.block 0 l_whole_Station_Missing_0)) (.seq (.seq (.reg [xT 25 0, xS 26 (.bin .neq .ptr (.t 25) (.c .nilp))] [1, 5, 7, 26]) (.cond (.t 26)
 (.reg [xT 27 7, xT 28 1, xS 29 (.callv (.t 27) [(.t 28)])] [5])
 .skip)) (.seq (.reg [xS 30 (.load 0 (.t 5)), xT 4 30] [4]) .ret)))))))
def c_whole_Station_Missing : AFunc := ⟨k_whole_Station_Missing, 31, [.t 4], [], [], [(0, true)]⟩
def k_seg_Fill_1 : ACode := (.seq (.reg [xS 5 (.mv (.c (.bool false)) false)] [0, 1, 2, 3]) (.seq (.regd [xS 6 (.load 0 (.t 1)), xF 7 0, xS 8 (.ia (.sl 1) (.t 6) (.t 7)), xS 9 (.load 0 (.t 8)), xS 10 (.bin .geq .int (.t 9) (xI 0)), xF 11 10, xG 12 11 true (.load 0 (.t 1)), xG 13 11 true (.mv (.t 0) false), xG 14 11 true (.ia (.sl 1) (.t 12) (.t 13)), xG 15 11 true (.load 0 (.t 14)), xG 16 11 true (.load 0 (.t 2)), xG 17 11 true (.bin .leq .int (.t 15) (.t 16)), xS 18 (.pick (.t 11) (.t 17) (.c (.bool false))), xF 19 18, xG 20 19 true (.load 0 (.t 3)), xG 21 19 true (.mv (.t 0) false), xG 22 19 true (.ia (.sl 1) (.t 20) (.t 21)), xG 23 19 true (.load 0 (.t 22)), xG 24 19 true (.len false (.t 23)), xG 25 19 true (.load 0 (.t 2)), xG 26 19 true (.load 0 (.t 1)), xG 27 19 true (.mv (.t 0) false), xG 28 19 true (.ia (.sl 1) (.t 26) (.t 27)), xG 29 19 true (.load 0 (.t 28)), xG 30 19 true (.bin .sub .int (.t 25) (.t 29)), xG 31 19 true (.bin .leq .int (.t 24) (.t 30)), xS 32 (.pick (.t 19) (.t 31) (.c (.bool false))), xT 5 32] [5] ([], []) []) .ret))
def c_seg_Fill_1 : AFunc := ⟨k_seg_Fill_1, 33, [.t 5], [], [], []⟩
def bl_slices_Index_bool_bool_0 : ACode := (.seq (.reg [xS 9 (.bin .lss .int (.t 8) (.t 7))] [0, 1, 7, 8, 9]) (.seq (.cond (.t 9)
 .skip
 (.exit 0)) (.seq (.block 1 (.seq (.reg [xF 10 8, xT 5 10] [0, 1, 5, 7, 8]) (.seq (.reg [xF 11 1, xF 12 0, xF 13 5, xS 14 (.ia (.sl 1) (.t 12) (.t 13)), xS 15 (.load 0 (.t 14)), xS 16 (.bin .eql .bool (.t 11) (.t 15))] [0, 1, 5, 7, 8, 16]) (.cond (.t 16)
 (.seq (.reg [xT 17 5, xT 4 17] [4]) .ret)
 .skip)))) (.reg [xS 18 (.bin .add .int (.t 8) (xI 1)), xT 8 18] [0, 1, 7, 8]))))
def l_slices_Index_bool_bool_0 : ACode := .loop [0, 1, 7, 8] [] bl_slices_Index_bool_bool_0
theorem L_slices_Index_bool_bool_0 {T : Table} (ks : List Kt) (e : Env) (h : Heap) (Q : Ex → Env → Heap → Prop) : Xc T l_slices_Index_bool_bool_0 ks e h Q = Xc T bl_slices_Index_bool_bool_0 (.seq l_slices_Index_bool_bool_0 :: ks) (e.keep [0, 1, 7, 8]) h Q := Xc_loop ks _ e h Q _ _
def k_slices_Index_bool_bool : ACode := (.seq (.reg [xS 4 (.mv (xI 0) false)] [0, 1]) (.seq (.seq (.reg [xF 6 0, xS 7 (.len false (.t 6)), xS 8 (.mv (xI 0) false)] [0, 1, 7, 8]) (.block 0 l_slices_Index_bool_bool_0)) (.seq (.reg [xS 4 (.mv (.c (.int .i64 (-1))) false)] [4]) .ret)))
def c_slices_Index_bool_bool : AFunc := ⟨k_slices_Index_bool_bool, 19, [.t 4], [], [], []⟩
def k_slices_Contains_bool_bool : ACode := (.seq (.reg [xS 4 (.mv (.c (.bool false)) false)] [0, 1]) (.seq (.reg [xT 5 0, xT 6 1, xS 7 (.callp f_slices_Index_bool_bool [(.t 5), (.t 6)] [(0, false)]), xS 8 (.bin .geq .int (.t 7) (xI 0)), xT 4 8] [4]) .ret))
def c_slices_Contains_bool_bool : AFunc := ⟨k_slices_Contains_bool_bool, 9, [.t 4], [], [], []⟩
def bl_seg_Fill_0 : ACode := (.seq (.reg [xS 38 (.bin .lss .int (.t 37) (.t 36))] [4, 5, 8, 9, 10, 36, 37, 38]) (.seq (.cond (.t 38)
 .skip
 (.exit 1)) (.seq (.block 2 (.seq (.reg [xF 39 37, xT 11 39] [4, 5, 8, 9, 10, 11, 36, 37]) (.seq (.reg [xF 40 10, xT 41 11, xS 42 (.callv (.t 40) [(.t 41)]), xS 43 (.un .not (.t 42))] [4, 5, 8, 9, 10, 36, 37, 43]) (.cond (.t 43)
 (.seq (.reg [xS 6 (.mv (.c (.hn 1)) false), xS 7 (.mv (xI 3) false)] [6, 7]) .ret)
 .skip)))) (.reg [xS 44 (.bin .add .int (.t 37) (xI 1)), xT 37 44] [4, 5, 8, 9, 10, 36, 37]))))
def l_seg_Fill_0 : ACode := .loop [4, 5, 8, 9, 10, 36, 37] [] bl_seg_Fill_0
theorem L_seg_Fill_0 {T : Table} (ks : List Kt) (e : Env) (h : Heap) (Q : Ex → Env → Heap → Prop) : Xc T l_seg_Fill_0 ks e h Q = Xc T bl_seg_Fill_0 (.seq l_seg_Fill_0 :: ks) (e.keep [4, 5, 8, 9, 10, 36, 37]) h Q := Xc_loop ks _ e h Q _ _
def bl_seg_Fill_1 : ACode := (.seq (.reg [xS 55 (.bin .lss .int (.t 54) (.t 53))] [4, 8, 9, 12, 45, 46, 47, 52, 53, 54, 55]) (.seq (.cond (.t 55)
 .skip
 (.exit 5)) (.seq (.block 6 (.seq (.reg [xF 56 54, xS 57 (.ia (.sl 1) (.t 52) (.t 54)), xS 58 (.load 0 (.t 57)), xT 14 56, xT 15 58] [4, 8, 9, 12, 14, 15, 45, 46, 47, 52, 53, 54]) (.seq (.reg [xS 59 (.load 0 (.t 4)), xF 60 12, xS 61 (.ia (.sl 1) (.t 59) (.t 60)), xS 62 (.load 0 (.t 61)), xT 63 14, xS 64 (.bin .add .int (.t 62) (.t 63)), xT 16 64] [4, 8, 9, 12, 15, 16, 45, 46, 47, 52, 53, 54]) (.seq (.seq (.reg [xF 65 9, xF 66 16, xS 67 (.ia (.sl 1) (.t 65) (.t 66)), xS 68 (.load 0 (.t 67)), xT 69 68, xG 70 69 true (.mv (.t 8) false), xG 71 69 true (.mv (.t 16) false), xG 72 69 true (.ia (.sl 1) (.t 70) (.t 71)), xG 73 69 true (.load 0 (.t 72)), xG 74 69 true (.mv (.t 15) false), xG 75 69 true (.bin .neq .int (.t 73) (.t 74)), xS 76 (.pick (.t 69) (.t 75) (.c (.bool false)))] [4, 8, 9, 12, 15, 16, 45, 46, 47, 52, 53, 54, 76]) (.cond (.t 76)
 (.seq (.reg [xS 6 (.mv (.c (.hn 1)) false), xS 7 (.mv (xI 6) false)] [6, 7]) .ret)
 .skip)) (.reg [xF 77 8, xF 78 16, xF 79 9, xT 80 16, xT 81 15, xS 82 (.ia (.sl 1) (.t 77) (.t 78)), ⟨none, .store 1 (.t 82) (.t 81), none⟩, xS 83 (.ia (.sl 1) (.t 79) (.t 80)), ⟨none, .store 1 (.t 83) (.c (.bool true)), none⟩] [4, 8, 9, 12, 45, 46, 47, 52, 53, 54]))))) (.reg [xS 84 (.bin .add .int (.t 54) (xI 1)), xT 54 84] [4, 8, 9, 12, 45, 46, 47, 52, 53, 54]))))
def l_seg_Fill_1 : ACode := .loop [4, 8, 9, 12, 45, 46, 47, 52, 53, 54] [] bl_seg_Fill_1
theorem L_seg_Fill_1 {T : Table} (ks : List Kt) (e : Env) (h : Heap) (Q : Ex → Env → Heap → Prop) : Xc T l_seg_Fill_1 ks e h Q = Xc T bl_seg_Fill_1 (.seq l_seg_Fill_1 :: ks) (e.keep [4, 8, 9, 12, 45, 46, 47, 52, 53, 54]) h Q := Xc_loop ks _ e h Q _ _
def bl_seg_Fill_2 : ACode := (.seq (.reg [xS 48 (.bin .lss .int (.t 47) (.t 46))] [4, 8, 9, 45, 46, 47, 48]) (.seq (.cond (.t 48)
 .skip
 (.exit 3)) (.seq (.block 4 (.seq (.reg [xF 49 47, xS 50 (.ia (.sl 1) (.t 45) (.t 47)), xS 51 (.load 0 (.t 50)), xT 12 49, xT 13 51] [4, 8, 9, 12, 13, 45, 46, 47]) (.seq (.reg [xT 52 13, xS 53 (.len false (.t 52)), xS 54 (.mv (xI 0) false)] [4, 8, 9, 12, 45, 46, 47, 52, 53, 54]) (.block 5 l_seg_Fill_1)))) (.reg [xS 85 (.bin .add .int (.t 47) (xI 1)), xT 47 85] [4, 8, 9, 45, 46, 47]))))
def l_seg_Fill_2 : ACode := .loop [4, 8, 9, 45, 46, 47] [] bl_seg_Fill_2
theorem L_seg_Fill_2 {T : Table} (ks : List Kt) (e : Env) (h : Heap) (Q : Ex → Env → Heap → Prop) : Xc T l_seg_Fill_2 ks e h Q = Xc T bl_seg_Fill_2 (.seq l_seg_Fill_2 :: ks) (e.keep [4, 8, 9, 45, 46, 47]) h Q := Xc_loop ks _ e h Q _ _
def k_seg_Fill : ACode := (.seq (.reg [xS 3 (.box (.t 0)), xS 4 (.box (.t 1)), xS 5 (.box (.t 2)), xS 6 (.mv (.c (.hn 1)) false), xS 7 (.mv (xI 0) false)] [3, 4, 5]) (.seq (.block 0 (.seq (.reg [xS 18 (.load 0 (.t 3)), xS 19 (.bin .lss .int (.t 18) (xI 0)), xT 20 19, xG 21 20 false (.load 0 (.t 3)), xG 22 20 false (.bin .gtr .int (.t 21) (xI 3192)), xS 23 (.pick (.t 20) (.c (.bool true)) (.t 22)), xT 17 23] [3, 4, 5, 17]) (.cond (.t 17)
 (.seq (.reg [xS 6 (.mv (.c (.hn 1)) false), xS 7 (.mv (xI 3) false)] [6, 7]) .ret)
 (.seq (.reg [xS 25 (.load 0 (.t 4)), xS 26 (.len false (.t 25)), xS 27 (.load 0 (.t 5)), xS 28 (.len false (.t 27)), xS 29 (.bin .neq .int (.t 26) (.t 28)), xT 24 29] [3, 4, 5, 24]) (.cond (.t 24)
 (.seq (.reg [xS 6 (.mv (.c (.hn 1)) false), xS 7 (.mv (xI 2) false)] [6, 7]) .ret)
 .skip))))) (.seq (.regd [xS 30 (.load 0 (.t 3)), xS 31 (.mksl 1 1 (.int .u8 0) (.t 30) (.t 30) true), xS 32 (.load 0 (.t 3)), xS 33 (.mksl 1 1 (.bool false) (.t 32) (.t 32) true), xF 8 31, xF 9 33] [3, 4, 5, 8, 9] ([], []) [(0, 0, 1), (2, 0, 3)]) (.seq (.reg [xS 34 (.mkfn f_seg_Fill_1 [(.t 4), (.t 3), (.t 5)]), xT 10 34] [4, 5, 8, 9, 10]) (.seq (.seq (.reg [xS 35 (.load 0 (.t 5)), xS 36 (.len false (.t 35)), xS 37 (.mv (xI 0) false)] [4, 5, 8, 9, 10, 36, 37]) (.block 1 l_seg_Fill_0)) (.seq (.seq (.reg [xS 45 (.load 0 (.t 5)), xS 46 (.len false (.t 45)), xS 47 (.mv (xI 0) false)] [4, 8, 9, 45, 46, 47]) (.block 3 l_seg_Fill_2)) (.seq (.seq (.reg [xT 86 9, xS 87 (.callp f_slices_Contains_bool_bool [(.t 86), (.c (.bool false))] [(0, false)])] [8, 87]) (.cond (.t 87)
 (.seq (.reg [xS 6 (.mv (.c (.hn 1)) false), xS 7 (.mv (xI 8) false)] [6, 7]) .ret)
 .skip)) (.seq (.reg [xT 88 8, xT 6 88, xS 7 (.mv (xI 0) false)] [6, 7]) .ret))))))))
def c_seg_Fill : AFunc := ⟨k_seg_Fill, 89, [.t 6, .t 7], [], [], [(0, false)]⟩
def bl_whole_Station_Bundle_0 : ACode := (.seq (.reg [xS 18 (.bin .lss .int (.t 17) (.t 16))] [0, 1, 6, 7, 8, 15, 16, 17, 18]) (.seq (.cond (.t 18)
 .skip
 (.exit 0)) (.seq (.block 1 (.seq (.reg [xS 19 (.ia (.sl 1) (.t 15) (.t 17)), xS 20 (.load 0 (.t 19)), xT 10 20] [0, 1, 6, 7, 8, 10, 15, 16, 17]) (.seq (.reg [xF 21 0, xS 22 (.nilck (.t 21)), xS 23 (.fa 0 (.t 22)), xS 24 (.load 0 (.t 23)), xT 25 10, xS 26 (.look .int (.t 24) (.t 25) (.agg [(.int .u64 0), (.int .u64 0), (.int .i64 0), (.int .i64 0), (.str [])]) false), xS 11 (.alloc [(.int .u64 0), (.int .u64 0), (.int .i64 0), (.int .i64 0), (.str [])]), ⟨none, .store 5 (.t 11) (.t 26), none⟩] [0, 1, 6, 7, 8, 11, 15, 16, 17]) (.seq (.reg [xS 27 (.fa 1 (.t 11)), xS 28 (.load 0 (.t 27)), xF 29 1, xS 30 (.bin .eql .int (.t 28) (.t 29))] [0, 1, 6, 7, 8, 11, 15, 16, 17, 30]) (.cond (.t 30)
 (.seq (.reg [xS 31 (.fa 3 (.t 11)), xS 32 (.load 0 (.t 31)), xT 6 32] [0, 1, 6, 7, 8, 11, 15, 16, 17]) (.seq (.reg [xT 33 7, xS 34 (.fa 2 (.t 11)), xS 35 (.load 0 (.t 34)), xS 36 (.bsl 1 [(.t 35)] false), xS 37 (.app 1 8 (.t 33) (.t 36)), xT 7 37] [0, 1, 6, 7, 8, 11, 15, 16, 17]) (.reg [xT 38 8, xS 39 (.fa 4 (.t 11)), xS 40 (.load 0 (.t 39)), xS 41 (.conv .sb (.t 40)), xS 42 (.bsl 1 [(.t 41)] false), xS 43 (.app 1 24 (.t 38) (.t 42)), xT 8 43] [0, 1, 6, 7, 8, 15, 16, 17])))
 .skip))))) (.reg [xS 44 (.bin .add .int (.t 17) (xI 1)), xT 17 44] [0, 1, 6, 7, 8, 15, 16, 17]))))
def l_whole_Station_Bundle_0 : ACode := .loop [0, 1, 6, 7, 8, 15, 16, 17] [(7, 0), (8, 0)] bl_whole_Station_Bundle_0
theorem L_whole_Station_Bundle_0 {T : Table} (ks : List Kt) (e : Env) (h : Heap) (Q : Ex → Env → Heap → Prop) : Xc T l_whole_Station_Bundle_0 ks e h Q = Xc T bl_whole_Station_Bundle_0 (.seq l_whole_Station_Bundle_0 :: ks) (e.keep [0, 1, 6, 7, 8, 15, 16, 17]) h Q := Xc_loop ks _ e h Q _ _
def k_whole_Station_Bundle : ACode := (.seq (.reg [xS 4 (.mv (.c (.ps 1 [])) false), xS 5 (.mv (xI 0) false)] [0, 1]) (.seq (.seq (.reg [xF 12 0, xS 13 (.bin .eql .ptr (.t 12) (.c .nilp))] [0, 1, 13]) (.cond (.t 13)
 (.seq (.reg [xS 4 (.mv (.c (.ps 1 [])) false), xS 5 (.mv (xI 1) false)] [4, 5]) .ret)
 .skip)) (.seq (.reg [xS 6 (.mv (xI 0) false)] [0, 1, 6]) (.seq (.reg [xS 7 (.mv (.c (.ps 1 [])) false)] [0, 1, 6, 7]) (.seq (.reg [xS 8 (.mv (.c (.ps 1 [])) false)] [0, 1, 6, 7, 8]) (.seq (.seq (.reg [xF 14 0, xS 15 (.callh f_whole_Station_numbers [(.t 14), (.c (.int .u64 2147483648))]), xS 16 (.len false (.t 15)), xS 17 (.mv (xI 0) false)] [0, 1, 6, 7, 8, 15, 16, 17]) (.block 0 l_whole_Station_Bundle_0)) (.seq (.seq (.reg [xF 45 6, xS 46 (.bin .eql .int (.t 45) (xI 0))] [6, 7, 8, 46]) (.cond (.t 46)
 (.seq (.reg [xS 4 (.mv (.c (.ps 1 [])) false), xS 5 (.mv (xI 8) false)] [4, 5]) .ret)
 .skip)) (.seq (.reg [xT 47 6, xT 48 7, xT 49 8, xS 50 (.callp f_seg_Fill [(.t 47), (.t 48), (.t 49)] []), xE 51 50 0, xE 52 50 1, xT 4 51, xT 5 52] [4, 5]) .ret))))))))
def c_whole_Station_Bundle : AFunc := ⟨k_whole_Station_Bundle, 53, [.t 4, .t 5], [], [], []⟩
def bl_slices_Compact_uint64_uint64_0 : ACode := (.seq (.seq (.reg [xF 29 5, xF 30 4, xS 31 (.len false (.t 30)), xS 32 (.bin .lss .int (.t 29) (.t 31))] [0, 3, 4, 5, 32]) (.cond (.t 32)
 .skip
 (.exit 2))) (.seq (.block 3 (.seq (.regd [xF 35 4, xF 36 5, xS 37 (.ia (.sl 1) (.t 35) (.t 36)), xS 38 (.load 0 (.t 37)), xF 39 4, xF 40 5, xS 41 (.bin .sub .int (.t 40) (xI 1)), xS 42 (.ia (.sl 1) (.t 39) (.t 41)), xS 43 (.load 0 (.t 42)), xS 44 (.bin .neq .int (.t 38) (.t 43))] [0, 3, 4, 5, 44] ([], []) []) (.cond (.t 44)
 (.seq (.reg [xF 45 0, xF 46 3, xF 47 4, xF 48 5, xS 49 (.ia (.sl 1) (.t 47) (.t 48)), xS 50 (.load 0 (.t 49)), xS 51 (.ia (.sl 1) (.t 45) (.t 46)), ⟨none, .store 1 (.t 51) (.t 50), none⟩] [0, 3, 4, 5]) (.reg [xT 52 3, xS 53 (.bin .add .int (.t 52) (xI 1)), xT 3 53] [0, 3, 4, 5]))
 .skip))) (.reg [xT 33 5, xS 34 (.bin .add .int (.t 33) (xI 1)), xT 5 34] [0, 3, 4, 5])))
def l_slices_Compact_uint64_uint64_0 : ACode := .loop [0, 3, 4, 5] [] bl_slices_Compact_uint64_uint64_0
theorem L_slices_Compact_uint64_uint64_0 {T : Table} (ks : List Kt) (e : Env) (h : Heap) (Q : Ex → Env → Heap → Prop) : Xc T l_slices_Compact_uint64_uint64_0 ks e h Q = Xc T bl_slices_Compact_uint64_uint64_0 (.seq l_slices_Compact_uint64_uint64_0 :: ks) (e.keep [0, 3, 4, 5]) h Q := Xc_loop ks _ e h Q _ _
def bl_slices_Compact_uint64_uint64_1 : ACode := (.seq (.seq (.reg [xF 10 3, xF 11 0, xS 12 (.len false (.t 11)), xS 13 (.bin .lss .int (.t 10) (.t 12))] [0, 3, 13]) (.cond (.t 13)
 .skip
 (.exit 0))) (.seq (.block 1 (.seq (.regd [xF 16 0, xF 17 3, xS 18 (.ia (.sl 1) (.t 16) (.t 17)), xS 19 (.load 0 (.t 18)), xF 20 0, xF 21 3, xS 22 (.bin .sub .int (.t 21) (xI 1)), xS 23 (.ia (.sl 1) (.t 20) (.t 22)), xS 24 (.load 0 (.t 23)), xS 25 (.bin .eql .int (.t 19) (.t 24))] [0, 3, 25] ([], []) []) (.cond (.t 25)
 (.seq (.reg [xF 26 0, xF 27 3, xS 28 (.sl (.sl 1) (.t 26) (some (.t 27)) none none false), xT 4 28] [0, 3, 4]) (.seq (.seq (.reg [xS 5 (.mv (xI 1) false)] [0, 3, 4, 5]) (.block 2 l_slices_Compact_uint64_uint64_0)) (.seq (.reg [xF 54 0, xF 55 3, xS 56 (.sl (.sl 1) (.t 54) (some (.t 55)) none none false), ⟨none, .clr 1 [(.int .u64 0)] (.t 56), none⟩] [0, 3]) (.seq (.reg [xT 57 0, xT 58 3, xS 59 (.sl (.sl 1) (.t 57) none (some (.t 58)) none false), xT 2 59] [2]) .ret))))
 .skip))) (.reg [xT 14 3, xS 15 (.bin .add .int (.t 14) (xI 1)), xT 3 15] [0, 3])))
def l_slices_Compact_uint64_uint64_1 : ACode := .loop [0, 3] [] bl_slices_Compact_uint64_uint64_1
theorem L_slices_Compact_uint64_uint64_1 {T : Table} (ks : List Kt) (e : Env) (h : Heap) (Q : Ex → Env → Heap → Prop) : Xc T l_slices_Compact_uint64_uint64_1 ks e h Q = Xc T bl_slices_Compact_uint64_uint64_1 (.seq l_slices_Compact_uint64_uint64_1 :: ks) (e.keep [0, 3]) h Q := Xc_loop ks _ e h Q _ _
def k_slices_Compact_uint64_uint64 : ACode := (.seq (.reg [xS 2 (.mv (.c (.hn 1)) false)] [0]) (.seq (.seq (.reg [xF 6 0, xS 7 (.len false (.t 6)), xS 8 (.bin .lss .int (.t 7) (xI 2))] [0, 8]) (.cond (.t 8)
 (.seq (.reg [xT 9 0, xT 2 9] [2]) .ret)
 .skip)) (.seq (.seq (.reg [xS 3 (.mv (xI 1) false)] [0, 3]) (.block 0 l_slices_Compact_uint64_uint64_1)) (.seq (.reg [xT 60 0, xT 2 60] [2]) .ret))))
def c_slices_Compact_uint64_uint64 : AFunc := ⟨k_slices_Compact_uint64_uint64, 61, [.t 2], [], [], [(0, false)]⟩
def bl_whole_Station_Ids_0 : ACode := (.seq (.reg [xS 10 (.bin .lss .int (.t 9) (.t 8))] [0, 3, 7, 8, 9, 10]) (.seq (.cond (.t 10)
 .skip
 (.exit 0)) (.seq (.block 1 (.seq (.reg [xS 11 (.ia (.sl 1) (.t 7) (.t 9)), xS 12 (.load 0 (.t 11)), xT 5 12] [0, 3, 5, 7, 8, 9]) (.reg [xT 13 3, xF 14 0, xS 15 (.nilck (.t 14)), xS 16 (.fa 0 (.t 15)), xS 17 (.load 0 (.t 16)), xT 18 5, xS 19 (.look .int (.t 17) (.t 18) (.agg [(.int .u64 0), (.int .u64 0), (.int .i64 0), (.int .i64 0), (.str [])]) false), xS 20 (.fld 1 0 (.t 19)), xS 21 (.bsl 1 [(.t 20)] false), xS 22 (.apph 1 8 (.t 13) (.t 21)), xT 3 22] [0, 3, 7, 8, 9]))) (.reg [xS 23 (.bin .add .int (.t 9) (xI 1)), xT 9 23] [0, 3, 7, 8, 9]))))
def l_whole_Station_Ids_0 : ACode := .loop [0, 3, 7, 8, 9] [] bl_whole_Station_Ids_0
theorem L_whole_Station_Ids_0 {T : Table} (ks : List Kt) (e : Env) (h : Heap) (Q : Ex → Env → Heap → Prop) : Xc T l_whole_Station_Ids_0 ks e h Q = Xc T bl_whole_Station_Ids_0 (.seq l_whole_Station_Ids_0 :: ks) (e.keep [0, 3, 7, 8, 9]) h Q := Xc_loop ks _ e h Q _ _
def k_whole_Station_Ids : ACode := (.seq (.reg [xS 2 (.mv (.c (.ps 1 [])) false)] [0]) (.seq (.reg [xS 3 (.mv (.c (.hn 1)) false)] [0, 3]) (.seq (.seq (.reg [xF 6 0, xS 7 (.callh f_whole_Station_numbers [(.t 6), (.c (.int .u64 2147483648))]), xS 8 (.len false (.t 7)), xS 9 (.mv (xI 0) false)] [0, 3, 7, 8, 9]) (.block 0 l_whole_Station_Ids_0)) (.seq (.reg [xF 24 3, xS 25 (.callh f_slices_Sort_uint64_uint64 [(.t 24)])] [3]) (.seq (.reg [xT 26 3, xS 27 (.callh f_slices_Compact_uint64_uint64 [(.t 26)]), xT 2 27] [2]) .ret)))))
def c_whole_Station_Ids : AFunc := ⟨k_whole_Station_Ids, 28, [.t 2], [], [], []⟩
def bm_whole_Station_Done_0 : ACode := (.block 1 (.seq (.reg [xS 18 (.ent (.t 15)), xE 19 18 0, xE 20 18 1, xS 7 (.alloc [(.int .u64 0), (.int .u64 0), (.int .i64 0), (.int .i64 0), (.str [])]), xT 6 19, ⟨none, .store 5 (.t 7) (.t 20), none⟩] [0, 1, 5, 6, 7, 15]) (.seq (.reg [xS 21 (.fa 1 (.t 7)), xS 22 (.load 0 (.t 21)), xF 23 1, xS 24 (.bin .eql .int (.t 22) (.t 23))] [0, 1, 5, 6, 15, 24]) (.cond (.t 24)
 (.seq (.reg [xF 25 0, xS 26 (.nilck (.t 25)), xS 27 (.fa 0 (.t 26)), xS 28 (.load 0 (.t 27)), xT 29 6, ⟨none, .mdel .int (.t 28) (.t 29), none⟩] [0, 1, 5, 15]) (.reg [xT 30 5, xS 31 (.bin .add .int (.t 30) (xI 1)), xT 5 31] [0, 1, 5, 15]))
 .skip))))
def cm_whole_Station_Done_0 : ACode := (.seq (.reg [xT 32 5, xT 4 32] [4]) .ret)
def k_whole_Station_Done : ACode := (.seq (.reg [xS 4 (.mv (xI 0) false)] [0, 1]) (.seq (.reg [xS 5 (.mv (xI 0) false)] [0, 1, 5]) (.seq (.seq (.reg [xF 8 0, xS 9 (.bin .eql .ptr (.t 8) (.c .nilp))] [0, 1, 5, 9]) (.cond (.t 9)
 (.seq (.reg [xT 10 5, xT 4 10] [4]) .ret)
 .skip)) (.mloop (.reg [xF 11 0, xS 12 (.nilck (.t 11)), xS 13 (.fa 0 (.t 12)), xS 14 (.load 0 (.t 13)), xS 15 (.rng false (.t 14))] [0, 1, 5, 15]) 15 16 17 [0, 1, 5, 15] [] 0 bm_whole_Station_Done_0 cm_whole_Station_Done_0))))
def c_whole_Station_Done : AFunc := ⟨k_whole_Station_Done, 33, [.t 4], [], [], []⟩
def k_whole_Station_Many : ACode := (.seq (.reg [xS 2 (.mv (xI 0) false)] [0]) (.seq (.seq (.reg [xF 3 0, xS 4 (.bin .eql .ptr (.t 3) (.c .nilp))] [0, 4]) (.cond (.t 4)
 (.seq (.reg [xS 2 (.mv (xI 0) false)] [2]) .ret)
 .skip)) (.seq (.reg [xT 5 0, xS 6 (.nilck (.t 5)), xS 7 (.fa 0 (.t 6)), xS 8 (.load 0 (.t 7)), xS 9 (.mlen (.t 8)), xT 2 9] [2]) .ret)))
def c_whole_Station_Many : AFunc := ⟨k_whole_Station_Many, 10, [.t 2], [], [], []⟩
def k_law46_awake : ACode := (.seq (.reg [xS 0 (.mv (.c (.bool false)) false)] []) (.seq (.reg [xS 7 (.callh f_whole_New []), xT 1 7] [1]) (.seq (.reg [xF 8 1, xS 9 (.build [(.int .u64 0), (.int .u64 0), (.int .i64 0), (.int .i64 0), (.str [])] [(0, 1, (.c (.int .u64 0))), (3, 1, (xI 1)), (4, 1, (.c (.str [97])))]), xS 10 (.callh f_whole_Station_Take [(.t 8), (.t 9)]), xT 2 10] [1, 2]) (.seq (.reg [xF 11 1, xS 12 (.build [(.int .u64 0), (.int .u64 0), (.int .i64 0), (.int .i64 0), (.str [])] [(0, 1, (.c (.int .u64 2))), (1, 1, (.c (.int .u64 1))), (3, 1, (xI 1)), (4, 1, (.c (.str [98])))]), xS 13 (.callh f_whole_Station_Take [(.t 11), (.t 12)]), xT 3 13] [1, 2, 3]) (.seq (.reg [xF 14 1, xS 15 (.callh f_whole_Station_Missing [(.t 14), (.c (.int .u64 4))]), xT 4 15] [1, 2, 3, 4]) (.seq (.reg [xF 17 1, xS 18 (.callh f_whole_Station_Bundle [(.t 17), (.c (.int .u64 1))]), xT 16 18, xE 19 16 0, xE 20 16 1, xT 5 19, xT 6 20] [1, 2, 3, 4, 5, 6]) (.seq (.reg [xT 21 2, xS 22 (.bin .eql .int (.t 21) (xI 0)), xT 23 22, xG 24 23 true (.mv (.t 3) true), xG 25 23 true (.bin .eql .int (.t 24) (xI 0)), xS 26 (.pick (.t 23) (.t 25) (.c (.bool false))), xT 27 26, xG 28 27 true (.mv (.t 4) false), xG 29 27 true (.len false (.t 28)), xG 30 27 true (.bin .eql .int (.t 29) (xI 2)), xS 31 (.pick (.t 27) (.t 30) (.c (.bool false))), xT 32 31, xG 33 32 true (.mv (.t 4) false), xG 34 32 true (.ia (.sl 2) (.t 33) (xI 0)), xG 35 32 true (.load 2 (.t 34)), xG 36 32 true (.build [(.int .u64 0), (.int .u64 0)] [(0, 1, (.c (.int .u64 1))), (1, 1, (.c (.int .u64 1)))]), xG 37 32 true (.bin .eql (.agg (.cons 0 0 .int (.cons 1 0 .int .nil))) (.t 35) (.t 36)), xS 38 (.pick (.t 32) (.t 37) (.c (.bool false))), xT 39 38, xG 40 39 true (.mv (.t 4) true), xG 41 39 true (.ia (.sl 2) (.t 40) (xI 1)), xG 42 39 true (.load 2 (.t 41)), xG 43 39 true (.build [(.int .u64 0), (.int .u64 0)] [(0, 1, (.c (.int .u64 3))), (1, 1, (.c (.int .u64 3)))]), xG 44 39 true (.bin .eql (.agg (.cons 0 0 .int (.cons 1 0 .int .nil))) (.t 42) (.t 43)), xS 45 (.pick (.t 39) (.t 44) (.c (.bool false))), xT 46 45, xG 47 46 true (.mv (.t 5) true), xG 48 46 true (.conv .bs (.t 47)), xG 49 46 true (.bin .eql .str (.t 48) (.c (.str [98]))), xS 50 (.pick (.t 46) (.t 49) (.c (.bool false))), xT 51 50, xG 52 51 true (.mv (.t 6) true), xG 53 51 true (.bin .eql .int (.t 52) (xI 0)), xS 54 (.pick (.t 51) (.t 53) (.c (.bool false))), xT 55 54, xG 56 55 true (.mv (.t 1) false), xG 57 55 true (.callh f_whole_Station_Ids [(.t 56)]), xG 58 55 true (.len false (.t 57)), xG 59 55 true (.bin .eql .int (.t 58) (xI 2)), xS 60 (.pick (.t 55) (.t 59) (.c (.bool false))), xT 61 60, xG 62 61 true (.mv (.t 1) false), xG 63 61 true (.callh f_whole_Station_Done [(.t 62), (.c (.int .u64 1))]), xG 64 61 true (.bin .eql .int (.t 63) (xI 1)), xS 65 (.pick (.t 61) (.t 64) (.c (.bool false))), xT 66 65, xG 67 66 true (.mv (.t 1) true), xG 68 66 true (.callh f_whole_Station_Many [(.t 67)]), xG 69 66 true (.bin .eql .int (.t 68) (xI 1)), xS 70 (.pick (.t 66) (.t 69) (.c (.bool false))), xT 0 70] [0]) .ret)))))))
def c_law46_awake : AFunc := ⟨k_law46_awake, 71, [.t 0], [], [], []⟩
def bl_ref34_In_0 : ACode := (.seq (.seq (.reg [xF 6 5, xF 7 0, xS 8 (.len false (.t 7)), xS 9 (.bin .lss .int (.t 6) (.t 8))] [0, 1, 5, 9]) (.cond (.t 9)
 .skip
 (.exit 0))) (.seq (.block 1 (.seq (.reg [xF 12 0, xF 13 5, xS 14 (.ia (.sl 2) (.t 12) (.t 13)), xS 15 (.ia (.arr 2 1) (.t 14) (xI 0)), xS 16 (.load 0 (.t 15)), xF 17 1, xS 18 (.bin .leq .int (.t 16) (.t 17)), xT 19 18, xG 20 19 true (.mv (.t 1) false), xG 21 19 true (.mv (.t 0) false), xG 22 19 true (.mv (.t 5) false), xG 23 19 true (.ia (.sl 2) (.t 21) (.t 22)), xG 24 19 true (.ia (.arr 2 1) (.t 23) (xI 1)), xG 25 19 true (.load 0 (.t 24)), xG 26 19 true (.bin .leq .int (.t 20) (.t 25)), xS 27 (.pick (.t 19) (.t 26) (.c (.bool false)))] [0, 1, 5, 27]) (.cond (.t 27)
 (.seq (.reg [xS 4 (.mv (.c (.bool true)) false)] [4]) .ret)
 .skip))) (.reg [xT 10 5, xS 11 (.bin .add .int (.t 10) (xI 1)), xT 5 11] [0, 1, 5])))
def l_ref34_In_0 : ACode := .loop [0, 1, 5] [] bl_ref34_In_0
theorem L_ref34_In_0 {T : Table} (ks : List Kt) (e : Env) (h : Heap) (Q : Ex → Env → Heap → Prop) : Xc T l_ref34_In_0 ks e h Q = Xc T bl_ref34_In_0 (.seq l_ref34_In_0 :: ks) (e.keep [0, 1, 5]) h Q := Xc_loop ks _ e h Q _ _
def k_ref34_In : ACode := (.seq (.reg [xS 4 (.mv (.c (.bool false)) false)] [0, 1]) (.seq (.seq (.reg [xS 5 (.mv (xI 0) false)] [0, 1, 5]) (.block 0 l_ref34_In_0)) (.seq (.reg [xS 4 (.mv (.c (.bool false)) false)] [4]) .ret)))
def c_ref34_In : AFunc := ⟨k_ref34_In, 28, [.t 4], [], [], []⟩
def bl_whole_Station_Ask_0 : ACode := (.seq (.seq (.reg [xF 19 8, xS 20 (.ia (.arr 2 1) (.t 7) (xI 1)), xS 21 (.load 0 (.t 20)), xS 22 (.bin .leq .int (.t 19) (.t 21))] [5, 7, 8, 11, 12, 13, 22]) (.cond (.t 22)
 .skip
 (.exit 2))) (.seq (.block 3 (.reg [xT 25 5, xF 26 8, xF 27 8, xS 28 (.bin .add .int (.t 27) (.c (.int .u64 256))), xS 29 (.bin .sub .int (.t 28) (.c (.int .u64 1))), xS 30 (.ia (.arr 2 1) (.t 7) (xI 1)), xS 31 (.load 0 (.t 30)), xS 32 (.mx false [(.t 29), (.t 31)]), xS 33 (.build [(.int .i64 0), (.str []), (.int .i64 0), (.int .u64 0), (.int .u64 0)] [(0, 1, (xI 4)), (3, 1, (.t 26)), (4, 1, (.t 32))]), xS 34 (.bsl 5 [(.t 33)] false), xS 35 (.app 5 48 (.t 25) (.t 34)), xT 5 35] [5, 7, 8, 11, 12, 13])) (.reg [xT 23 8, xS 24 (.bin .add .int (.t 23) (.c (.int .u64 256))), xT 8 24] [5, 7, 8, 11, 12, 13])))
def l_whole_Station_Ask_0 : ACode := .loop [5, 7, 8, 11, 12, 13] [(5, 0)] bl_whole_Station_Ask_0
theorem L_whole_Station_Ask_0 {T : Table} (ks : List Kt) (e : Env) (h : Heap) (Q : Ex → Env → Heap → Prop) : Xc T l_whole_Station_Ask_0 ks e h Q = Xc T bl_whole_Station_Ask_0 (.seq l_whole_Station_Ask_0 :: ks) (e.keep [5, 7, 8, 11, 12, 13]) h Q := Xc_loop ks _ e h Q _ _
def bl_whole_Station_Ask_1 : ACode := (.seq (.reg [xS 14 (.bin .lss .int (.t 13) (.t 12))] [5, 11, 12, 13, 14]) (.seq (.cond (.t 14)
 .skip
 (.exit 0)) (.seq (.block 1 (.seq (.reg [xS 15 (.ia (.sl 2) (.t 11) (.t 13)), xS 16 (.load 2 (.t 15)), xS 7 (.alloc [(.int .u64 0), (.int .u64 0)]), ⟨none, .store 2 (.t 7) (.t 16), none⟩] [5, 7, 11, 12, 13]) (.seq (.reg [xS 17 (.ia (.arr 2 1) (.t 7) (xI 0)), xS 18 (.load 0 (.t 17)), xT 8 18] [5, 7, 8, 11, 12, 13]) (.block 2 l_whole_Station_Ask_0)))) (.reg [xS 36 (.bin .add .int (.t 13) (xI 1)), xT 13 36] [5, 11, 12, 13]))))
def l_whole_Station_Ask_1 : ACode := .loop [5, 11, 12, 13] [(5, 0)] bl_whole_Station_Ask_1
theorem L_whole_Station_Ask_1 {T : Table} (ks : List Kt) (e : Env) (h : Heap) (Q : Ex → Env → Heap → Prop) : Xc T l_whole_Station_Ask_1 ks e h Q = Xc T bl_whole_Station_Ask_1 (.seq l_whole_Station_Ask_1 :: ks) (e.keep [5, 11, 12, 13]) h Q := Xc_loop ks _ e h Q _ _
def k_whole_Station_Ask : ACode := (.seq (.reg [xS 4 (.mv (.c (.ps 5 [])) false)] [0, 1]) (.seq (.reg [xS 5 (.mv (.c (.ps 5 [])) false)] [0, 1, 5]) (.seq (.seq (.reg [xT 9 0, xT 10 1, xS 11 (.callh f_whole_Station_Missing [(.t 9), (.t 10)]), xS 12 (.len false (.t 11)), xS 13 (.mv (xI 0) false)] [5, 11, 12, 13]) (.block 0 l_whole_Station_Ask_1)) (.seq (.reg [xT 37 5, xT 4 37] [4]) .ret))))
def c_whole_Station_Ask : AFunc := ⟨k_whole_Station_Ask, 38, [.t 4], [], [0], []⟩
def k_be_Get_1 : ACode := (.seq (.reg [xS 3 (.mv (.c (.int .u64 0)) false)] [0, 1]) (.seq (.seq (.reg [xF 4 0, xS 5 (.bin .lss .int (.t 4) (xI 0)), xT 6 5, xG 7 6 false (.mv (.t 0) false), xG 8 6 false (.load 0 (.t 1)), xG 9 6 false (.len false (.t 8)), xG 10 6 false (.bin .geq .int (.t 7) (.t 9)), xS 11 (.pick (.t 6) (.c (.bool true)) (.t 10))] [0, 1, 11]) (.cond (.t 11)
 (.seq (.reg [xS 3 (.mv (.c (.int .u64 0)) false)] [3]) .ret)
 .skip)) (.seq (.reg [xS 12 (.load 0 (.t 1)), xT 13 0, xS 14 (.ia (.sl 1) (.t 12) (.t 13)), xS 15 (.load 0 (.t 14)), xS 16 (.conv (.i .u64) (.t 15)), xT 3 16] [3]) .ret)))
def c_be_Get_1 : AFunc := ⟨k_be_Get_1, 17, [.t 3], [], [], []⟩
def k_be_width : ACode := (.seq (.reg [xS 2 (.mv (xI 0) false)] [0]) (.seq (.reg [xT 3 0, xS 4 (.mx true [(.t 3), (xI 0)]), xS 5 (.mx false [(.t 4), (xI 8)]), xT 2 5] [2]) .ret))
def c_be_width : AFunc := ⟨k_be_width, 6, [.t 2], [], [], []⟩
def bl_be_Get_0 : ACode := (.seq (.reg [xS 22 (.bin .lss .int (.t 21) (.t 20))] [1, 7, 8, 20, 21, 22]) (.seq (.cond (.t 22)
 .skip
 (.exit 0)) (.seq (.block 1 (.seq (.reg [xF 23 21, xT 9 23] [1, 7, 8, 9, 20, 21]) (.reg [xT 24 7, xS 25 (.bin .shl .int (.t 24) (.c (.int .u64 8))), xF 26 8, xF 27 1, xT 28 9, xS 29 (.bin .add .int (.t 27) (.t 28)), xS 30 (.callv (.t 26) [(.t 29)]), xS 31 (.bin .or .int (.t 25) (.t 30)), xT 7 31] [1, 7, 8, 20, 21]))) (.reg [xS 32 (.bin .add .int (.t 21) (xI 1)), xT 21 32] [1, 7, 8, 20, 21]))))
def l_be_Get_0 : ACode := .loop [1, 7, 8, 20, 21] [] bl_be_Get_0
theorem L_be_Get_0 {T : Table} (ks : List Kt) (e : Env) (h : Heap) (Q : Ex → Env → Heap → Prop) : Xc T l_be_Get_0 ks e h Q = Xc T bl_be_Get_0 (.seq l_be_Get_0 :: ks) (e.keep [1, 7, 8, 20, 21]) h Q := Xc_loop ks _ e h Q _ _
def k_be_Get : ACode := (.seq (.reg [xS 3 (.box (.t 0)), xS 6 (.mv (.c (.int .u64 0)) false)] [1, 2, 3]) (.seq (.reg [xS 7 (.mv (.c (.int .u64 0)) false)] [1, 2, 3, 7]) (.seq (.reg [xS 10 (.mkfn f_be_Get_1 [(.t 3)]), xT 8 10] [1, 2, 3, 7, 8]) (.seq (.seq (.reg [xF 11 1, xS 12 (.load 0 (.t 3)), xS 13 (.len false (.t 12)), xS 14 (.bin .gtr .int (.t 11) (.t 13))] [1, 2, 3, 7, 8, 14]) (.cond (.t 14)
 (.reg [xS 15 (.load 0 (.t 3)), xS 16 (.len false (.t 15)), xT 1 16] [1, 2, 7, 8])
 .skip)) (.seq (.reg [xT 17 1, xS 18 (.mx true [(.t 17), (.c (.int .i64 (-8)))]), xT 1 18] [1, 2, 7, 8]) (.seq (.seq (.reg [xT 19 2, xS 20 (.callp f_be_width [(.t 19)] []), xS 21 (.mv (xI 0) false)] [1, 7, 8, 20, 21]) (.block 0 l_be_Get_0)) (.seq (.reg [xT 33 7, xT 6 33] [6]) .ret)))))))
def c_be_Get : AFunc := ⟨k_be_Get, 34, [.t 6], [], [], []⟩
def k_frame_Get_1 : ACode := (.seq (.reg [xS 5 (.mv (xI 0) false)] [0, 1, 2]) (.seq (.reg [xS 6 (.load 0 (.t 2)), xT 7 0, xT 8 1, xS 9 (.callp f_be_Get [(.t 6), (.t 7), (.t 8)] [(0, false)]), xS 10 (.conv (.i .i64) (.t 9)), xT 5 10] [5]) .ret))
def c_frame_Get_1 : AFunc := ⟨k_frame_Get_1, 11, [.t 5], [], [], []⟩
def bl_crc_bits_1_0 : ACode := (.seq (.reg [xS 11 (.bin .lss .int (.t 10) (xI 8))] [0, 2, 10, 11]) (.seq (.cond (.t 11)
 .skip
 (.exit 0)) (.seq (.block 1 (.seq (.reg [xF 12 0, xS 13 (.bin .and .int (.t 12) (.c (.int .u32 1))), xS 14 (.bin .eql .int (.t 13) (.c (.int .u32 1)))] [0, 2, 10, 14]) (.cond (.t 14)
 (.reg [xT 15 0, xS 16 (.bin .shr .int (.t 15) (.c (.int .u64 1))), xS 17 (.load 0 (.t 2)), xS 18 (.bin .xor .int (.t 16) (.t 17)), xT 0 18] [0, 2, 10])
 (.reg [xT 19 0, xS 20 (.bin .shr .int (.t 19) (.c (.int .u64 1))), xT 0 20] [0, 2, 10])))) (.reg [xS 21 (.bin .add .int (.t 10) (xI 1)), xT 10 21] [0, 2, 10]))))
def l_crc_bits_1_0 : ACode := .loop [0, 2, 10] [] bl_crc_bits_1_0
theorem L_crc_bits_1_0 {T : Table} (ks : List Kt) (e : Env) (h : Heap) (Q : Ex → Env → Heap → Prop) : Xc T l_crc_bits_1_0 ks e h Q = Xc T bl_crc_bits_1_0 (.seq l_crc_bits_1_0 :: ks) (e.keep [0, 2, 10]) h Q := Xc_loop ks _ e h Q _ _
def k_crc_bits_1 : ACode := (.seq (.reg [xS 5 (.mv (.c (.int .u32 0)) false)] [0, 1, 2]) (.seq (.reg [xT 6 0, xT 7 1, xS 8 (.conv (.i .u32) (.t 7)), xS 9 (.bin .xor .int (.t 6) (.t 8)), xT 0 9] [0, 2]) (.seq (.seq (.reg [xS 10 (.mv (xI 0) false)] [0, 2, 10]) (.block 0 l_crc_bits_1_0)) (.seq (.reg [xT 22 0, xT 5 22] [5]) .ret))))
def c_crc_bits_1 : AFunc := ⟨k_crc_bits_1, 23, [.t 5], [], [], []⟩
def k_crc_bits : ACode := (.seq (.reg [xS 1 (.box (.t 0)), xS 2 (.mv (.c .nilf) false)] [1]) (.seq (.reg [xS 3 (.mkfn f_crc_bits_1 [(.t 1)]), xT 2 3] [2]) .ret))
def c_crc_bits : AFunc := ⟨k_crc_bits, 4, [.t 2], [], [], []⟩
def bl_crc_through_0 : ACode := (.seq (.reg [xS 15 (.bin .lss .int (.t 14) (.t 13))] [0, 7, 12, 13, 14, 15]) (.seq (.cond (.t 15)
 .skip
 (.exit 0)) (.seq (.block 1 (.seq (.reg [xS 16 (.ia (.sl 1) (.t 12) (.t 14)), xS 17 (.load 0 (.t 16)), xT 9 17] [0, 7, 9, 12, 13, 14]) (.reg [xF 18 7, xT 19 0, xT 20 9, xS 21 (.callv (.t 18) [(.t 19), (.t 20)]), xT 0 21] [0, 7, 12, 13, 14]))) (.reg [xS 22 (.bin .add .int (.t 14) (xI 1)), xT 14 22] [0, 7, 12, 13, 14]))))
def l_crc_through_0 : ACode := .loop [0, 7, 12, 13, 14] [] bl_crc_through_0
theorem L_crc_through_0 {T : Table} (ks : List Kt) (e : Env) (h : Heap) (Q : Ex → Env → Heap → Prop) : Xc T l_crc_through_0 ks e h Q = Xc T bl_crc_through_0 (.seq l_crc_through_0 :: ks) (e.keep [0, 7, 12, 13, 14]) h Q := Xc_loop ks _ e h Q _ _
def k_crc_through : ACode := (.seq (.reg [xS 6 (.mv (.c (.int .u32 0)) false)] [0, 1, 2]) (.seq (.reg [xT 10 1, xS 11 (.callh f_crc_bits [(.t 10)]), xT 7 11] [0, 2, 7]) (.seq (.seq (.reg [xT 12 2, xS 13 (.len false (.t 12)), xS 14 (.mv (xI 0) false)] [0, 7, 12, 13, 14]) (.block 0 l_crc_through_0)) (.seq (.reg [xT 23 0, xT 6 23] [6]) .ret))))
def c_crc_through : AFunc := ⟨k_crc_through, 24, [.t 6], [], [], []⟩
def k_crc_GoShort : ACode := (.seq (.reg [xS 4 (.mv (.c (.int .u16 0)) false)] [0, 1]) (.seq (.reg [xT 5 0, xS 6 (.un .xor (.t 5)), xS 7 (.conv (.i .u32) (.t 6)), xT 8 1, xS 9 (.callp f_crc_through [(.t 7), (.c (.int .u32 33800)), (.t 8)] [(2, false)]), xS 10 (.conv (.i .u16) (.t 9)), xS 11 (.un .xor (.t 10)), xT 4 11] [4]) .ret))
def c_crc_GoShort : AFunc := ⟨k_crc_GoShort, 12, [.t 4], [], [], []⟩
def k_crc_Short : ACode := (.seq (.reg [xS 2 (.mv (.c (.int .u16 0)) false)] [0]) (.seq (.reg [xT 3 0, xS 4 (.callp f_crc_GoShort [(.c (.int .u16 0)), (.t 3)] [(1, false)]), xT 2 4] [2]) .ret))
def c_crc_Short : AFunc := ⟨k_crc_Short, 5, [.t 2], [], [], []⟩
def k_frame_Size : ACode := (.seq (.reg [xS 1 (.box (.t 0)), xS 2 (.mv (xI 0) false)] [1]) (.seq (.seq (.reg [xS 3 (.load 5 (.t 1)), xS 4 (.callp f_frame_Check [(.t 3)] []), xS 5 (.bin .neq .int (.t 4) (xI 0))] [1, 5]) (.cond (.t 5)
 (.seq (.reg [xS 2 (.mv (xI 0) false)] [2]) .ret)
 .skip)) (.seq (.reg [xS 6 (.fa 4 (.t 1)), xS 7 (.load 0 (.t 6)), xS 8 (.len true (.t 7)), xS 9 (.bin .add .int (xI 13) (.t 8)), xS 10 (.bin .add .int (.t 9) (xI 2)), xT 2 10] [2]) .ret)))
def c_frame_Size : AFunc := ⟨k_frame_Size, 11, [.t 2], [], [], []⟩
def k_frame_Get : ACode := (.seq (.reg [xS 1 (.box (.t 0)), xS 2 (.alloc [(.int .u64 0), (.int .u64 0), (.int .i64 0), (.int .i64 0), (.str [])]), xS 3 (.mv (xI 0) false), xS 4 (.mv (xI 0) false)] [1, 2]) (.seq (.reg [xS 10 (.mkfn f_frame_Get_1 [(.t 1)]), xT 5 10] [1, 2, 5]) (.seq (.block 0 (.seq (.reg [xS 12 (.load 0 (.t 1)), xS 13 (.len false (.t 12)), xS 14 (.bin .eql .int (.t 13) (xI 0)), xT 11 14] [1, 2, 5, 11]) (.cond (.t 11)
 (.seq (.reg [xS 15 (.build [(.int .u64 0), (.int .u64 0), (.int .i64 0), (.int .i64 0), (.str [])] []), ⟨none, .store 5 (.t 2) (.t 15), none⟩, xS 3 (.mv (xI 0) false), xS 4 (.mv (xI 5) false)] [2, 3, 4]) .ret)
 (.seq (.reg [xS 17 (.load 0 (.t 1)), xS 18 (.ia (.sl 1) (.t 17) (xI 0)), xS 19 (.load 0 (.t 18)), xS 20 (.bin .neq .int (.t 19) (.c (.int .u8 26))), xT 16 20] [1, 2, 5, 16]) (.cond (.t 16)
 (.seq (.reg [xS 21 (.build [(.int .u64 0), (.int .u64 0), (.int .i64 0), (.int .i64 0), (.str [])] []), ⟨none, .store 5 (.t 2) (.t 21), none⟩, xS 3 (.mv (xI 0) false), xS 4 (.mv (xI 6) false)] [2, 3, 4]) .ret)
 (.seq (.reg [xS 23 (.load 0 (.t 1)), xS 24 (.len false (.t 23)), xS 25 (.bin .lss .int (.t 24) (xI 13)), xT 22 25] [1, 2, 5, 22]) (.cond (.t 22)
 (.seq (.reg [xS 26 (.build [(.int .u64 0), (.int .u64 0), (.int .i64 0), (.int .i64 0), (.str [])] []), ⟨none, .store 5 (.t 2) (.t 26), none⟩, xS 3 (.mv (xI 0) false), xS 4 (.mv (xI 5) false)] [2, 3, 4]) .ret)
 .skip))))))) (.seq (.regd [xS 27 (.load 0 (.t 1)), xS 28 (.callp f_be_Get [(.t 27), (xI 1), (xI 4)] [(0, false)]), xS 29 (.load 0 (.t 1)), xS 30 (.callp f_be_Get [(.t 29), (xI 5), (xI 4)] [(0, false)]), xF 31 5, xS 32 (.callv (.t 31) [(xI 9), (xI 2)]), xF 33 5, xS 34 (.callv (.t 33) [(xI 11), (xI 2)]), xS 35 (.build [(.int .u64 0), (.int .u64 0), (.int .i64 0), (.int .i64 0), (.str [])] [(0, 1, (.t 28)), (1, 1, (.t 30)), (2, 1, (.t 32)), (3, 1, (.t 34))]), xS 6 (.alloc [(.int .u64 0), (.int .u64 0), (.int .i64 0), (.int .i64 0), (.str [])]), ⟨none, .store 5 (.t 6) (.t 35), none⟩] [1, 2, 5, 6] ([], []) [(0, 0, 5), (1, 0, 5), (2, 0, 5), (3, 0, 5)]) (.seq (.reg [xS 37 (.fa 2 (.t 6)), xS 38 (.load 0 (.t 37)), xS 39 (.fa 3 (.t 6)), xS 40 (.load 0 (.t 39)), xS 41 (.callp f_frame_length [(.t 38), (.t 40)] []), xT 36 41, xE 42 36 0, xE 43 36 1, xT 7 42, xT 8 43] [1, 2, 5, 6, 7, 8]) (.seq (.seq (.reg [xT 44 7, xS 45 (.bin .add .int (xI 13) (.t 44)), xT 9 45] [1, 2, 5, 6, 8, 9]) (.block 1 (.seq (.reg [xT 52 8, xS 53 (.un .not (.t 52)), xT 51 53] [1, 2, 5, 6, 9, 51]) (.cond (.t 51)
 (.seq (.reg [xS 54 (.build [(.int .u64 0), (.int .u64 0), (.int .i64 0), (.int .i64 0), (.str [])] []), ⟨none, .store 5 (.t 2) (.t 54), none⟩, xS 3 (.mv (xI 0) false), xS 4 (.mv (xI 6) false)] [2, 3, 4]) .ret)
 (.seq (.reg [xS 56 (.load 0 (.t 1)), xS 57 (.len false (.t 56)), xF 58 9, xS 59 (.bin .add .int (.t 58) (xI 2)), xS 60 (.bin .lss .int (.t 57) (.t 59)), xT 55 60] [1, 2, 5, 6, 9, 55]) (.cond (.t 55)
 (.seq (.reg [xS 61 (.build [(.int .u64 0), (.int .u64 0), (.int .i64 0), (.int .i64 0), (.str [])] []), ⟨none, .store 5 (.t 2) (.t 61), none⟩, xS 3 (.mv (xI 0) false), xS 4 (.mv (xI 5) false)] [2, 3, 4]) .ret)
 (.seq (.regd [xF 63 5, xF 64 9, xS 65 (.callv (.t 63) [(.t 64), (xI 2)]), xS 66 (.load 0 (.t 1)), xF 67 9, xS 68 (.sl (.sl 1) (.t 66) none (some (.t 67)) none false), xS 69 (.callp f_crc_Short [(.t 68)] [(0, false)]), xS 70 (.conv (.i .i64) (.t 69)), xS 71 (.bin .neq .int (.t 65) (.t 70)), xT 62 71] [1, 2, 6, 9, 62] ([], []) [(3, 0, 10)]) (.cond (.t 62)
 (.seq (.reg [xS 72 (.build [(.int .u64 0), (.int .u64 0), (.int .i64 0), (.int .i64 0), (.str [])] []), ⟨none, .store 5 (.t 2) (.t 72), none⟩, xS 3 (.mv (xI 0) false), xS 4 (.mv (xI 7) false)] [2, 3, 4]) .ret)
 (.reg [xS 46 (.load 0 (.t 1)), xT 47 9, xS 48 (.sl (.sl 1) (.t 46) (some (xI 13)) (some (.t 47)) none false), xS 49 (.conv .bs (.t 48)), xS 50 (.fa 4 (.t 6)), ⟨none, .store 1 (.t 50) (.t 49), none⟩] [2, 6]))))))))) (.seq (.seq (.reg [xS 73 (.load 5 (.t 6)), xS 74 (.callp f_frame_Check [(.t 73)] []), xS 75 (.bin .neq .int (.t 74) (xI 0))] [2, 6, 75]) (.cond (.t 75)
 (.seq (.reg [xS 76 (.build [(.int .u64 0), (.int .u64 0), (.int .i64 0), (.int .i64 0), (.str [])] []), ⟨none, .store 5 (.t 2) (.t 76), none⟩, xS 3 (.mv (xI 0) false), xS 4 (.mv (xI 6) false)] [2, 3, 4]) .ret)
 .skip)) (.seq (.regd [xS 77 (.load 5 (.t 6)), xS 78 (.load 5 (.t 6)), xS 79 (.callp f_frame_Size [(.t 78)] []), ⟨none, .store 5 (.t 2) (.t 77), none⟩, xF 3 79, xS 4 (.mv (xI 0) false)] [2, 3, 4] ([], []) []) .ret))))))))
def c_frame_Get : AFunc := ⟨k_frame_Get, 80, [.c 2 5, .t 3, .t 4], [], [], []⟩
def bl_frame_All_0 : ACode := (.block 1 (.seq (.reg [xF 10 0, xF 11 5, xS 12 (.sl (.sl 1) (.t 10) (some (.t 11)) none none false), xS 13 (.callp f_frame_Get [(.t 12)] []), xT 9 13, xE 14 9 0, xE 15 9 1, xE 16 9 2, xS 6 (.alloc [(.int .u64 0), (.int .u64 0), (.int .i64 0), (.int .i64 0), (.str [])]), ⟨none, .store 5 (.t 6) (.t 14), none⟩, xT 7 15, xT 8 16] [0, 4, 5, 6, 7, 8]) (.seq (.seq (.reg [xT 17 8, xS 18 (.bin .neq .int (.t 17) (xI 0))] [0, 4, 5, 6, 7, 18]) (.cond (.t 18)
 (.seq (.reg [xT 19 4, xT 20 5, xT 2 19, xT 3 20] [2, 3]) .ret)
 .skip)) (.seq (.reg [xT 21 4, xS 22 (.load 5 (.t 6)), xS 23 (.bsl 5 [(.t 22)] false), xS 24 (.app 5 48 (.t 21) (.t 23)), xT 4 24] [0, 4, 5, 7]) (.reg [xT 25 5, xT 26 7, xS 27 (.bin .add .int (.t 25) (.t 26)), xT 5 27] [0, 4, 5])))))
def l_frame_All_0 : ACode := .loop [0, 4, 5] [(4, 0)] bl_frame_All_0
theorem L_frame_All_0 {T : Table} (ks : List Kt) (e : Env) (h : Heap) (Q : Ex → Env → Heap → Prop) : Xc T l_frame_All_0 ks e h Q = Xc T bl_frame_All_0 (.seq l_frame_All_0 :: ks) (e.keep [0, 4, 5]) h Q := Xc_loop ks _ e h Q _ _
def k_frame_All : ACode := (.seq (.reg [xS 2 (.mv (.c (.ps 5 [])) false), xS 3 (.mv (xI 0) false)] [0]) (.seq (.reg [xS 4 (.mv (.c (.ps 5 [])) false)] [0, 4]) (.seq (.reg [xS 5 (.mv (xI 0) false)] [0, 4, 5]) (.block 0 l_frame_All_0))))
def c_frame_All : AFunc := ⟨k_frame_All, 28, [.t 2, .t 3], [], [1], []⟩
def bl_whole_Station_Hear_0 : ACode := (.seq (.reg [xS 18 (.bin .lss .int (.t 17) (.t 16))] [0, 7, 15, 16, 17, 18]) (.seq (.cond (.t 18)
 .skip
 (.exit 0)) (.seq (.block 1 (.seq (.reg [xS 19 (.ia (.sl 5) (.t 15) (.t 17)), xS 20 (.load 5 (.t 19)), xS 9 (.alloc [(.int .u64 0), (.int .u64 0), (.int .i64 0), (.int .i64 0), (.str [])]), ⟨none, .store 5 (.t 9) (.t 20), none⟩] [0, 7, 9, 15, 16, 17]) (.seq (.reg [xF 21 0, xS 22 (.load 5 (.t 9)), xS 23 (.callh f_whole_Station_Take [(.t 21), (.t 22)]), xS 24 (.bin .eql .int (.t 23) (xI 0))] [0, 7, 15, 16, 17, 24]) (.cond (.t 24)
 (.reg [xT 25 7, xS 26 (.bin .add .int (.t 25) (xI 1)), xT 7 26] [0, 7, 15, 16, 17])
 .skip)))) (.reg [xS 27 (.bin .add .int (.t 17) (xI 1)), xT 17 27] [0, 7, 15, 16, 17]))))
def l_whole_Station_Hear_0 : ACode := .loop [0, 7, 15, 16, 17] [(15, 0)] bl_whole_Station_Hear_0
theorem L_whole_Station_Hear_0 {T : Table} (ks : List Kt) (e : Env) (h : Heap) (Q : Ex → Env → Heap → Prop) : Xc T l_whole_Station_Hear_0 ks e h Q = Xc T bl_whole_Station_Hear_0 (.seq l_whole_Station_Hear_0 :: ks) (e.keep [0, 7, 15, 16, 17]) h Q := Xc_loop ks _ e h Q _ _
def k_whole_Station_Hear : ACode := (.seq (.reg [xS 4 (.mv (xI 0) false)] [0, 1]) (.seq (.reg [xT 11 1, xS 12 (.callp f_frame_All [(.t 11)] []), xT 10 12, xE 13 10 0, xE 14 10 1, xT 5 13, xT 6 14] [0, 5]) (.seq (.reg [xS 7 (.mv (xI 0) false)] [0, 5, 7]) (.seq (.seq (.reg [xT 15 5, xS 16 (.len false (.t 15)), xS 17 (.mv (xI 0) false)] [0, 7, 15, 16, 17]) (.block 0 l_whole_Station_Hear_0)) (.seq (.reg [xT 28 7, xT 4 28] [4]) .ret)))))
def c_whole_Station_Hear : AFunc := ⟨k_whole_Station_Hear, 29, [.t 4], [], [], []⟩
def bl_law46_WholeAsks_0 : ACode := (.seq (.seq (.reg [xF 31 6, xF 32 0, xS 33 (.len false (.t 32)), xS 34 (.bin .lss .int (.t 31) (.t 33))] [0, 1, 5, 6, 34]) (.cond (.t 34)
 .skip
 (.exit 0))) (.seq (.block 1 (.seq (.seq (.reg [xF 37 0, xF 38 6, xS 39 (.ia (.sl 5) (.t 37) (.t 38)), xS 40 (.fa 4 (.t 39)), xS 41 (.load 0 (.t 40)), xS 42 (.len true (.t 41)), xS 43 (.bin .gtr .int (.t 42) (xI 300))] [0, 1, 5, 6, 43]) (.cond (.t 43)
 (.seq (.reg [xS 4 (.mv (.c (.bool true)) false)] [4]) .ret)
 .skip)) (.reg [xF 44 5, xF 45 0, xF 46 6, xS 47 (.ia (.sl 5) (.t 45) (.t 46)), xS 48 (.load 5 (.t 47)), xS 49 (.callh f_whole_Station_Take [(.t 44), (.t 48)])] [0, 1, 5, 6]))) (.reg [xT 35 6, xS 36 (.bin .add .int (.t 35) (xI 1)), xT 6 36] [0, 1, 5, 6])))
def l_law46_WholeAsks_0 : ACode := .loop [0, 1, 5, 6] [] bl_law46_WholeAsks_0
theorem L_law46_WholeAsks_0 {T : Table} (ks : List Kt) (e : Env) (h : Heap) (Q : Ex → Env → Heap → Prop) : Xc T l_law46_WholeAsks_0 ks e h Q = Xc T bl_law46_WholeAsks_0 (.seq l_law46_WholeAsks_0 :: ks) (e.keep [0, 1, 5, 6]) h Q := Xc_loop ks _ e h Q _ _
def bl_law46_WholeAsks_1 : ACode := (.seq (.seq (.reg [xF 56 11, xF 57 7, xS 58 (.len false (.t 57)), xS 59 (.bin .lss .int (.t 56) (.t 58))] [1, 5, 7, 8, 9, 10, 11, 59]) (.cond (.t 59)
 .skip
 (.exit 2))) (.seq (.block 3 (.seq (.seq (.regd [xF 62 7, xF 63 11, xS 64 (.ia (.sl 5) (.t 62) (.t 63)), xS 65 (.fa 0 (.t 64)), xS 66 (.load 0 (.t 65)), xS 67 (.bin .neq .int (.t 66) (xI 4)), xF 68 67, xG 69 68 false (.mv (.t 7) false), xG 70 68 false (.mv (.t 11) false), xG 71 68 false (.ia (.sl 5) (.t 69) (.t 70)), xG 72 68 false (.fa 3 (.t 71)), xG 73 68 false (.load 0 (.t 72)), xG 74 68 false (.mv (.t 7) false), xG 75 68 false (.mv (.t 11) false), xG 76 68 false (.ia (.sl 5) (.t 74) (.t 75)), xG 77 68 false (.fa 4 (.t 76)), xG 78 68 false (.load 0 (.t 77)), xG 79 68 false (.bin .gtr .int (.t 73) (.t 78)), xS 80 (.pick (.t 68) (.c (.bool true)) (.t 79)), xF 81 80, xG 82 81 false (.mv (.t 7) false), xG 83 81 false (.mv (.t 11) false), xG 84 81 false (.ia (.sl 5) (.t 82) (.t 83)), xG 85 81 false (.fa 4 (.t 84)), xG 86 81 false (.load 0 (.t 85)), xG 87 81 false (.mv (.t 7) false), xG 88 81 false (.mv (.t 11) false), xG 89 81 false (.ia (.sl 5) (.t 87) (.t 88)), xG 90 81 false (.fa 3 (.t 89)), xG 91 81 false (.load 0 (.t 90)), xG 92 81 false (.bin .sub .int (.t 86) (.t 91)), xG 93 81 false (.bin .gtr .int (.t 92) (.c (.int .u64 255))), xS 94 (.pick (.t 81) (.c (.bool true)) (.t 93)), xF 95 94, xG 96 95 false (.mv (.t 11) false), xG 97 95 false (.bin .gtr .int (.t 96) (xI 0)), xG 98 95 false (.mv (.t 97) false), xG 99 98 true (.mv (.t 7) false), xG 100 98 true (.mv (.t 11) false), xG 101 98 true (.ia (.sl 5) (.t 99) (.t 100)), xG 102 98 true (.fa 3 (.t 101)), xG 103 98 true (.load 0 (.t 102)), xG 104 98 true (.mv (.t 7) false), xG 105 98 true (.mv (.t 11) false), xG 106 98 true (.bin .sub .int (.t 105) (xI 1)), xG 107 98 true (.ia (.sl 5) (.t 104) (.t 106)), xG 108 98 true (.fa 4 (.t 107)), xG 109 98 true (.load 0 (.t 108)), xG 110 98 true (.bin .leq .int (.t 103) (.t 109)), xG 111 95 false (.pick (.t 98) (.t 110) (.c (.bool false))), xS 112 (.pick (.t 95) (.c (.bool true)) (.t 111)), xF 113 112, xG 114 113 false (.mv (.t 8) false), xG 115 113 false (.mv (.t 7) false), xG 116 113 false (.mv (.t 11) false), xG 117 113 false (.ia (.sl 5) (.t 115) (.t 116)), xG 118 113 false (.fa 3 (.t 117)), xG 119 113 false (.load 0 (.t 118)), xG 120 113 false (.callp f_ref34_In [(.t 114), (.t 119)] [(0, true)]), xG 121 113 false (.un .not (.t 120)), xS 122 (.pick (.t 113) (.c (.bool true)) (.t 121)), xF 123 122, xG 124 123 false (.mv (.t 8) false), xG 125 123 false (.mv (.t 7) false), xG 126 123 false (.mv (.t 11) false), xG 127 123 false (.ia (.sl 5) (.t 125) (.t 126)), xG 128 123 false (.fa 4 (.t 127)), xG 129 123 false (.load 0 (.t 128)), xG 130 123 false (.callp f_ref34_In [(.t 124), (.t 129)] [(0, true)]), xG 131 123 false (.un .not (.t 130)), xS 132 (.pick (.t 123) (.c (.bool true)) (.t 131))] [1, 5, 7, 8, 9, 10, 11, 132] ([(7, 0)], []) []) (.cond (.t 132)
 (.seq (.reg [xS 4 (.mv (.c (.bool false)) false)] [4]) .ret)
 .skip)) (.regd [xF 133 9, xF 134 7, xF 135 11, xS 136 (.ia (.sl 5) (.t 134) (.t 135)), xS 137 (.fa 4 (.t 136)), xS 138 (.load 0 (.t 137)), xF 139 7, xF 140 11, xS 141 (.ia (.sl 5) (.t 139) (.t 140)), xS 142 (.fa 3 (.t 141)), xS 143 (.load 0 (.t 142)), xS 144 (.bin .sub .int (.t 138) (.t 143)), xS 145 (.bin .add .int (.t 144) (.c (.int .u64 1))), xS 146 (.bin .add .int (.t 133) (.t 145)), xT 9 146] [1, 5, 7, 8, 9, 10, 11] ([(7, 0)], []) []))) (.reg [xT 60 11, xS 61 (.bin .add .int (.t 60) (xI 1)), xT 11 61] [1, 5, 7, 8, 9, 10, 11])))
def l_law46_WholeAsks_1 : ACode := .loop [1, 5, 7, 8, 9, 10, 11] [(7, 0)] bl_law46_WholeAsks_1
theorem L_law46_WholeAsks_1 {T : Table} (ks : List Kt) (e : Env) (h : Heap) (Q : Ex → Env → Heap → Prop) : Xc T l_law46_WholeAsks_1 ks e h Q = Xc T bl_law46_WholeAsks_1 (.seq l_law46_WholeAsks_1 :: ks) (e.keep [1, 5, 7, 8, 9, 10, 11]) h Q := Xc_loop ks _ e h Q _ _
def bl_law46_WholeAsks_2 : ACode := (.seq (.seq (.reg [xF 147 12, xF 148 8, xS 149 (.len false (.t 148)), xS 150 (.bin .lss .int (.t 147) (.t 149))] [1, 5, 8, 9, 10, 12, 150]) (.cond (.t 150)
 .skip
 (.exit 4))) (.seq (.block 5 (.regd [xF 153 10, xF 154 8, xF 155 12, xS 156 (.ia (.sl 2) (.t 154) (.t 155)), xS 157 (.ia (.arr 2 1) (.t 156) (xI 1)), xS 158 (.load 0 (.t 157)), xF 159 8, xF 160 12, xS 161 (.ia (.sl 2) (.t 159) (.t 160)), xS 162 (.ia (.arr 2 1) (.t 161) (xI 0)), xS 163 (.load 0 (.t 162)), xS 164 (.bin .sub .int (.t 158) (.t 163)), xS 165 (.bin .add .int (.t 164) (.c (.int .u64 1))), xS 166 (.bin .add .int (.t 153) (.t 165)), xT 10 166] [1, 5, 8, 9, 10, 12] ([], []) [])) (.reg [xT 151 12, xS 152 (.bin .add .int (.t 151) (xI 1)), xT 12 152] [1, 5, 8, 9, 10, 12])))
def l_law46_WholeAsks_2 : ACode := .loop [1, 5, 8, 9, 10, 12] [] bl_law46_WholeAsks_2
theorem L_law46_WholeAsks_2 {T : Table} (ks : List Kt) (e : Env) (h : Heap) (Q : Ex → Env → Heap → Prop) : Xc T l_law46_WholeAsks_2 ks e h Q = Xc T bl_law46_WholeAsks_2 (.seq l_law46_WholeAsks_2 :: ks) (e.keep [1, 5, 8, 9, 10, 12]) h Q := Xc_loop ks _ e h Q _ _
def bl_law46_WholeAsks_3 : ACode := (.seq (.seq (.reg [xF 169 14, xF 170 13, xS 171 (.len false (.t 170)), xS 172 (.bin .lss .int (.t 169) (.t 171))] [1, 9, 10, 13, 14, 172]) (.cond (.t 172)
 .skip
 (.exit 6))) (.seq (.block 7 (.seq (.regd [xF 175 13, xF 176 14, xS 177 (.ia (.sl 1) (.t 175) (.t 176)), xS 178 (.load 0 (.t 177)), xF 179 13, xF 180 14, xS 181 (.bin .sub .int (.t 180) (xI 1)), xS 182 (.ia (.sl 1) (.t 179) (.t 181)), xS 183 (.load 0 (.t 182)), xS 184 (.bin .leq .int (.t 178) (.t 183))] [1, 9, 10, 13, 14, 184] ([], []) []) (.cond (.t 184)
 (.seq (.reg [xS 4 (.mv (.c (.bool false)) false)] [4]) .ret)
 .skip))) (.reg [xT 173 14, xS 174 (.bin .add .int (.t 173) (xI 1)), xT 14 174] [1, 9, 10, 13, 14])))
def l_law46_WholeAsks_3 : ACode := .loop [1, 9, 10, 13, 14] [] bl_law46_WholeAsks_3
theorem L_law46_WholeAsks_3 {T : Table} (ks : List Kt) (e : Env) (h : Heap) (Q : Ex → Env → Heap → Prop) : Xc T l_law46_WholeAsks_3 ks e h Q = Xc T bl_law46_WholeAsks_3 (.seq l_law46_WholeAsks_3 :: ks) (e.keep [1, 9, 10, 13, 14]) h Q := Xc_loop ks _ e h Q _ _
def k_law46_WholeAsks : ACode := (.seq (.reg [xS 4 (.mv (.c (.bool false)) false)] [0, 1]) (.seq (.seq (.reg [xF 18 0, xS 19 (.len false (.t 18)), xS 20 (.bin .gtr .int (.t 19) (xI 40)), xT 21 20, xG 22 21 false (.mv (.t 1) false), xG 23 21 false (.bin .gtr .int (.t 22) (.c (.int .u64 65536))), xS 24 (.pick (.t 21) (.c (.bool true)) (.t 23)), xT 25 24, xG 26 25 false (.callp f_law46_awake [] []), xG 27 25 false (.un .not (.t 26)), xS 28 (.pick (.t 25) (.c (.bool true)) (.t 27))] [0, 1, 28]) (.cond (.t 28)
 (.seq (.reg [xS 29 (.callp f_law46_awake [] []), xT 4 29] [4]) .ret)
 .skip)) (.seq (.reg [xS 30 (.callh f_whole_New []), xT 5 30] [0, 1, 5]) (.seq (.seq (.reg [xS 6 (.mv (xI 0) false)] [0, 1, 5, 6]) (.block 0 l_law46_WholeAsks_0)) (.seq (.reg [xF 50 5, xF 51 1, xS 52 (.callh f_whole_Station_Ask [(.t 50), (.t 51)]), xT 7 52] [1, 5, 7]) (.seq (.reg [xF 53 5, xF 54 1, xS 55 (.callh f_whole_Station_Missing [(.t 53), (.t 54)]), xT 8 55] [1, 5, 7, 8]) (.seq (.reg [xS 9 (.mv (.c (.int .u64 0)) false), xS 10 (.mv (.c (.int .u64 0)) false)] [1, 5, 7, 8, 9, 10]) (.seq (.seq (.reg [xS 11 (.mv (xI 0) false)] [1, 5, 7, 8, 9, 10, 11]) (.block 2 l_law46_WholeAsks_1)) (.seq (.seq (.reg [xS 12 (.mv (xI 0) false)] [1, 5, 8, 9, 10, 12]) (.block 4 l_law46_WholeAsks_2)) (.seq (.reg [xT 167 5, xS 168 (.callh f_whole_Station_Ids [(.t 167)]), xT 13 168] [1, 9, 10, 13]) (.seq (.seq (.reg [xS 14 (.mv (xI 1) false)] [1, 9, 10, 13, 14]) (.block 6 l_law46_WholeAsks_3)) (.seq (.reg [xS 15 (.mv (.c .nilp) false)] [1, 9, 10, 15]) (.seq (.reg [xF 186 15, xF 187 1, xS 188 (.callh f_whole_Station_Bundle [(.t 186), (.t 187)]), xT 185 188, xE 189 185 0, xE 190 185 1, xT 16 189, xT 17 190] [1, 9, 10, 15, 17]) (.seq (.reg [xT 191 9, xT 192 10, xS 193 (.bin .eql .int (.t 191) (.t 192)), xT 194 193, xG 195 194 true (.mv (.t 15) false), xG 196 194 true (.build [(.int .u64 0), (.int .u64 0), (.int .i64 0), (.int .i64 0), (.str [])] []), xG 197 194 true (.callh f_whole_Station_Take [(.t 195), (.t 196)]), xG 198 194 true (.bin .eql .int (.t 197) (xI 1)), xS 199 (.pick (.t 194) (.t 198) (.c (.bool false))), xT 200 199, xG 201 200 true (.mv (.t 17) true), xG 202 200 true (.bin .eql .int (.t 201) (xI 1)), xS 203 (.pick (.t 200) (.t 202) (.c (.bool false))), xT 204 203, xG 205 204 true (.mv (.t 15) false), xG 206 204 true (.callh f_whole_Station_Many [(.t 205)]), xG 207 204 true (.mv (.t 15) false), xG 208 204 true (.mv (.t 1) false), xG 209 204 true (.callh f_whole_Station_Ask [(.t 207), (.t 208)]), xG 210 204 true (.len false (.t 209)), xG 211 204 true (.bin .add .int (.t 206) (.t 210)), xG 212 204 true (.mv (.t 15) false), xG 213 204 true (.callh f_whole_Station_Ids [(.t 212)]), xG 214 204 true (.len false (.t 213)), xG 215 204 true (.bin .add .int (.t 211) (.t 214)), xG 216 204 true (.mv (.t 15) false), xG 217 204 true (.mv (.t 1) true), xG 218 204 true (.callh f_whole_Station_Done [(.t 216), (.t 217)]), xG 219 204 true (.bin .add .int (.t 215) (.t 218)), xG 220 204 true (.mv (.t 15) true), xG 221 204 true (.callh f_whole_Station_Hear [(.t 220), (.c (.ps 1 []))]), xG 222 204 true (.bin .add .int (.t 219) (.t 221)), xG 223 204 true (.bin .eql .int (.t 222) (xI 0)), xS 224 (.pick (.t 204) (.t 223) (.c (.bool false))), xT 4 224] [4]) .ret))))))))))))))
def c_law46_WholeAsks : AFunc := ⟨k_law46_WholeAsks, 225, [.t 4], [], [], []⟩

def tab : List (Nat × AFunc) := [(f_whole_New, c_whole_New),
  (f_frame_length, c_frame_length),
  (f_frame_Check, c_frame_Check),
  (f_whole_first, c_whole_first),
  (f_whole_Station_fits, c_whole_Station_fits),
  (f_whole_Station_Take, c_whole_Station_Take),
  (f_whole_Station_Missing_1, c_whole_Station_Missing_1),
  (f_math_bits_Len32, c_math_bits_Len32),
  (f_math_bits_Len64, c_math_bits_Len64),
  (f_math_bits_Len, c_math_bits_Len),
  (f_cmp_isNaN_uint64, c_cmp_isNaN_uint64),
  (f_cmp_Less_uint64, c_cmp_Less_uint64),
  (f_slices_insertionSortOrdered_uint64, c_slices_insertionSortOrdered_uint64),
  (f_slices_siftDownOrdered_uint64, c_slices_siftDownOrdered_uint64),
  (f_slices_heapSortOrdered_uint64, c_slices_heapSortOrdered_uint64),
  (f_slices_nextPowerOfTwo, c_slices_nextPowerOfTwo),
  (f_slices_xorshift_Next, c_slices_xorshift_Next),
  (f_slices_breakPatternsOrdered_uint64, c_slices_breakPatternsOrdered_uint64),
  (f_slices_order2Ordered_uint64, c_slices_order2Ordered_uint64),
  (f_slices_medianOrdered_uint64, c_slices_medianOrdered_uint64),
  (f_slices_medianAdjacentOrdered_uint64, c_slices_medianAdjacentOrdered_uint64),
  (f_slices_choosePivotOrdered_uint64, c_slices_choosePivotOrdered_uint64),
  (f_slices_reverseRangeOrdered_uint64, c_slices_reverseRangeOrdered_uint64),
  (f_slices_partialInsertionSortOrdered_uint64, c_slices_partialInsertionSortOrdered_uint64),
  (f_slices_partitionEqualOrdered_uint64, c_slices_partitionEqualOrdered_uint64),
  (f_slices_partitionOrdered_uint64, c_slices_partitionOrdered_uint64),
  (f_slices_pdqsortOrdered_uint64, c_slices_pdqsortOrdered_uint64),
  (f_slices_Sort_uint64_uint64, c_slices_Sort_uint64_uint64),
  (f_whole_Station_numbers, c_whole_Station_numbers),
  (f_whole_Station_Missing, c_whole_Station_Missing),
  (f_seg_Fill_1, c_seg_Fill_1),
  (f_slices_Index_bool_bool, c_slices_Index_bool_bool),
  (f_slices_Contains_bool_bool, c_slices_Contains_bool_bool),
  (f_seg_Fill, c_seg_Fill),
  (f_whole_Station_Bundle, c_whole_Station_Bundle),
  (f_slices_Compact_uint64_uint64, c_slices_Compact_uint64_uint64),
  (f_whole_Station_Ids, c_whole_Station_Ids),
  (f_whole_Station_Done, c_whole_Station_Done),
  (f_whole_Station_Many, c_whole_Station_Many),
  (f_law46_awake, c_law46_awake),
  (f_ref34_In, c_ref34_In),
  (f_whole_Station_Ask, c_whole_Station_Ask),
  (f_be_Get_1, c_be_Get_1),
  (f_be_width, c_be_width),
  (f_be_Get, c_be_Get),
  (f_frame_Get_1, c_frame_Get_1),
  (f_crc_bits_1, c_crc_bits_1),
  (f_crc_bits, c_crc_bits),
  (f_crc_through, c_crc_through),
  (f_crc_GoShort, c_crc_GoShort),
  (f_crc_Short, c_crc_Short),
  (f_frame_Size, c_frame_Size),
  (f_frame_Get, c_frame_Get),
  (f_frame_All, c_frame_All),
  (f_whole_Station_Hear, c_whole_Station_Hear),
  (f_law46_WholeAsks, c_law46_WholeAsks)]
def T : Table := fun f => tab.lookup f
theorem t_whole_New : T f_whole_New = some c_whole_New := rfl
theorem t_frame_length : T f_frame_length = some c_frame_length := rfl
theorem t_frame_Check : T f_frame_Check = some c_frame_Check := rfl
theorem t_whole_first : T f_whole_first = some c_whole_first := rfl
theorem t_whole_Station_fits : T f_whole_Station_fits = some c_whole_Station_fits := rfl
theorem t_whole_Station_Take : T f_whole_Station_Take = some c_whole_Station_Take := rfl
theorem t_whole_Station_Missing_1 : T f_whole_Station_Missing_1 = some c_whole_Station_Missing_1 := rfl
theorem t_math_bits_Len32 : T f_math_bits_Len32 = some c_math_bits_Len32 := rfl
theorem t_math_bits_Len64 : T f_math_bits_Len64 = some c_math_bits_Len64 := rfl
theorem t_math_bits_Len : T f_math_bits_Len = some c_math_bits_Len := rfl
theorem t_cmp_isNaN_uint64 : T f_cmp_isNaN_uint64 = some c_cmp_isNaN_uint64 := rfl
theorem t_cmp_Less_uint64 : T f_cmp_Less_uint64 = some c_cmp_Less_uint64 := rfl
theorem t_slices_insertionSortOrdered_uint64 : T f_slices_insertionSortOrdered_uint64 = some c_slices_insertionSortOrdered_uint64 := rfl
theorem t_slices_siftDownOrdered_uint64 : T f_slices_siftDownOrdered_uint64 = some c_slices_siftDownOrdered_uint64 := rfl
theorem t_slices_heapSortOrdered_uint64 : T f_slices_heapSortOrdered_uint64 = some c_slices_heapSortOrdered_uint64 := rfl
theorem t_slices_nextPowerOfTwo : T f_slices_nextPowerOfTwo = some c_slices_nextPowerOfTwo := rfl
theorem t_slices_xorshift_Next : T f_slices_xorshift_Next = some c_slices_xorshift_Next := rfl
theorem t_slices_breakPatternsOrdered_uint64 : T f_slices_breakPatternsOrdered_uint64 = some c_slices_breakPatternsOrdered_uint64 := rfl
theorem t_slices_order2Ordered_uint64 : T f_slices_order2Ordered_uint64 = some c_slices_order2Ordered_uint64 := rfl
theorem t_slices_medianOrdered_uint64 : T f_slices_medianOrdered_uint64 = some c_slices_medianOrdered_uint64 := rfl
theorem t_slices_medianAdjacentOrdered_uint64 : T f_slices_medianAdjacentOrdered_uint64 = some c_slices_medianAdjacentOrdered_uint64 := rfl
theorem t_slices_choosePivotOrdered_uint64 : T f_slices_choosePivotOrdered_uint64 = some c_slices_choosePivotOrdered_uint64 := rfl
theorem t_slices_reverseRangeOrdered_uint64 : T f_slices_reverseRangeOrdered_uint64 = some c_slices_reverseRangeOrdered_uint64 := rfl
theorem t_slices_partialInsertionSortOrdered_uint64 : T f_slices_partialInsertionSortOrdered_uint64 = some c_slices_partialInsertionSortOrdered_uint64 := rfl
theorem t_slices_partitionEqualOrdered_uint64 : T f_slices_partitionEqualOrdered_uint64 = some c_slices_partitionEqualOrdered_uint64 := rfl
theorem t_slices_partitionOrdered_uint64 : T f_slices_partitionOrdered_uint64 = some c_slices_partitionOrdered_uint64 := rfl
theorem t_slices_pdqsortOrdered_uint64 : T f_slices_pdqsortOrdered_uint64 = some c_slices_pdqsortOrdered_uint64 := rfl
theorem t_slices_Sort_uint64_uint64 : T f_slices_Sort_uint64_uint64 = some c_slices_Sort_uint64_uint64 := rfl
theorem t_whole_Station_numbers : T f_whole_Station_numbers = some c_whole_Station_numbers := rfl
theorem t_whole_Station_Missing : T f_whole_Station_Missing = some c_whole_Station_Missing := rfl
theorem t_seg_Fill_1 : T f_seg_Fill_1 = some c_seg_Fill_1 := rfl
theorem t_slices_Index_bool_bool : T f_slices_Index_bool_bool = some c_slices_Index_bool_bool := rfl
theorem t_slices_Contains_bool_bool : T f_slices_Contains_bool_bool = some c_slices_Contains_bool_bool := rfl
theorem t_seg_Fill : T f_seg_Fill = some c_seg_Fill := rfl
theorem t_whole_Station_Bundle : T f_whole_Station_Bundle = some c_whole_Station_Bundle := rfl
theorem t_slices_Compact_uint64_uint64 : T f_slices_Compact_uint64_uint64 = some c_slices_Compact_uint64_uint64 := rfl
theorem t_whole_Station_Ids : T f_whole_Station_Ids = some c_whole_Station_Ids := rfl
theorem t_whole_Station_Done : T f_whole_Station_Done = some c_whole_Station_Done := rfl
theorem t_whole_Station_Many : T f_whole_Station_Many = some c_whole_Station_Many := rfl
theorem t_law46_awake : T f_law46_awake = some c_law46_awake := rfl
theorem t_ref34_In : T f_ref34_In = some c_ref34_In := rfl
theorem t_whole_Station_Ask : T f_whole_Station_Ask = some c_whole_Station_Ask := rfl
theorem t_be_Get_1 : T f_be_Get_1 = some c_be_Get_1 := rfl
theorem t_be_width : T f_be_width = some c_be_width := rfl
theorem t_be_Get : T f_be_Get = some c_be_Get := rfl
theorem t_frame_Get_1 : T f_frame_Get_1 = some c_frame_Get_1 := rfl
theorem t_crc_bits_1 : T f_crc_bits_1 = some c_crc_bits_1 := rfl
theorem t_crc_bits : T f_crc_bits = some c_crc_bits := rfl
theorem t_crc_through : T f_crc_through = some c_crc_through := rfl
theorem t_crc_GoShort : T f_crc_GoShort = some c_crc_GoShort := rfl
theorem t_crc_Short : T f_crc_Short = some c_crc_Short := rfl
theorem t_frame_Size : T f_frame_Size = some c_frame_Size := rfl
theorem t_frame_Get : T f_frame_Get = some c_frame_Get := rfl
theorem t_frame_All : T f_frame_All = some c_frame_All := rfl
theorem t_whole_Station_Hear : T f_whole_Station_Hear = some c_whole_Station_Hear := rfl
theorem t_law46_WholeAsks : T f_law46_WholeAsks = some c_law46_WholeAsks := rfl
end Ev
