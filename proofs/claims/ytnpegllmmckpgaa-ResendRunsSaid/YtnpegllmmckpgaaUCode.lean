/- The code of the functions that the claim reaches, in the evaluator's form; what it is held against stands in the text of the checks. No condition. -/
import Derived.Test.YtnpegllmmckpgaaEv9
/-! The code of the functions, as the evaluator takes it. -/
set_option linter.all false
namespace Ev
open Go

abbrev f_law34_ResendRuns : Nat := 4
abbrev f_law34_Ask_light : Nat := 5
abbrev f_law34_awake : Nat := 6
abbrev f_index_New : Nat := 7
abbrev f_resend_Range : Nat := 8
abbrev f_resend_One : Nat := 11
abbrev f_resend_Runs : Nat := 12
abbrev f_ref34_In : Nat := 13
abbrev f_ref34_Apart : Nat := 14
abbrev f_resend_Count : Nat := 15
abbrev f_resend_Merge : Nat := 16
abbrev f_index_Index_Put : Nat := 17
abbrev f_index_Index_Frame : Nat := 20
abbrev f_resend_Runs_1 : Nat := 21
abbrev f_slices_DeleteFunc_2_uint64_2_uint64 : Nat := 22
abbrev f_slices_Clone_2_uint64_2_uint64 : Nat := 23
abbrev f_resend_Merge_1 : Nat := 24
abbrev f_slices_SortFunc_2_uint64_2_uint64 : Nat := 25
abbrev f_resend_Merge_2 : Nat := 26
abbrev f_cmp_Compare_uint64 : Nat := 27
abbrev f_meta_Check : Nat := 28
abbrev f_index_Index_place : Nat := 29
abbrev f_slices_Insert_api_Record_api_Record : Nat := 30
abbrev f_index_copyOf : Nat := 31
abbrev f_index_Index_some : Nat := 33
abbrev f_index_Index_Frame_1 : Nat := 34
abbrev f_index_Frames : Nat := 35
abbrev f_slices_IndexFunc_2_uint64_2_uint64 : Nat := 36
abbrev f_slices_pdqsortCmpFunc_2_uint64 : Nat := 37
abbrev f_math_bits_Len : Nat := 38
abbrev f_cmp_isNaN_uint64 : Nat := 39
abbrev f_meta_Check_1 : Nat := 40
abbrev f_slices_BinarySearchFunc_api_Record_api_Record_uint64 : Nat := 41
abbrev f_index_Index_place_1 : Nat := 42
abbrev f_slices_Clone_int_int : Nat := 45
abbrev f_slices_insertionSortCmpFunc_2_uint64 : Nat := 46
abbrev f_slices_heapSortCmpFunc_2_uint64 : Nat := 47
abbrev f_slices_breakPatternsCmpFunc_2_uint64 : Nat := 48
abbrev f_slices_choosePivotCmpFunc_2_uint64 : Nat := 49
abbrev f_slices_reverseRangeCmpFunc_2_uint64 : Nat := 50
abbrev f_slices_partialInsertionSortCmpFunc_2_uint64 : Nat := 51
abbrev f_slices_partitionEqualCmpFunc_2_uint64 : Nat := 52
abbrev f_slices_partitionCmpFunc_2_uint64 : Nat := 53
abbrev f_math_bits_Len32 : Nat := 54
abbrev f_math_bits_Len64 : Nat := 55
abbrev f_slices_siftDownCmpFunc_2_uint64 : Nat := 57
abbrev f_slices_nextPowerOfTwo : Nat := 58
abbrev f_slices_xorshift_Next : Nat := 59
abbrev f_slices_medianAdjacentCmpFunc_2_uint64 : Nat := 60
abbrev f_slices_medianCmpFunc_2_uint64 : Nat := 61
abbrev f_slices_order2CmpFunc_2_uint64 : Nat := 63
abbrev xI (n : Int) : A := .c (.int .i64 n)
abbrev xT (d n : Nat) : AOpr := ⟨some d, .mv (.t n) true, none⟩
abbrev xF (d n : Nat) : AOpr := ⟨some d, .mv (.t n) false, none⟩
abbrev xE (d n i : Nat) : AOpr := ⟨some d, .ext (.t n) i, none⟩
abbrev xS (d : Nat) (o : AOp) : AOpr := ⟨some d, o, none⟩
abbrev xG (d g : Nat) (b : Bool) (o : AOp) : AOpr := ⟨some d, o, some (g, b)⟩
def bl_law34_Ask_light_0 : ACode := (.seq (.seq (.reg [xF 4 3, xS 5 (.fa 0 (.t 1)), xS 6 (.load 0 (.t 5)), xS 7 (.len false (.t 6)), xS 8 (.bin .lss .int (.t 4) (.t 7))] [1, 3, 8]) (.cond (.t 8)
 .skip
 (.exit 0))) (.seq (.block 1 (.seq (.reg [xS 11 (.fa 0 (.t 1)), xS 12 (.load 0 (.t 11)), xF 13 3, xS 14 (.ia (.sl 8) (.t 12) (.t 13)), xS 15 (.fa 7 (.t 14)), xS 16 (.load 0 (.t 15)), xS 17 (.len false (.t 16)), xS 18 (.bin .gtr .int (.t 17) (xI 30))] [1, 3, 18]) (.cond (.t 18)
 (.seq (.reg [xS 2 (.mv (.c (.bool false)) false)] [2]) .ret)
 .skip))) (.reg [xT 9 3, xS 10 (.bin .add .int (.t 9) (xI 1)), xT 3 10] [1, 3])))
def l_law34_Ask_light_0 : ACode := .loop [1, 3] [] bl_law34_Ask_light_0
theorem L_law34_Ask_light_0 {T : Table} (ks : List Kt) (e : Env) (h : Heap) (Q : Ex → Env → Heap → Prop) : Xc T l_law34_Ask_light_0 ks e h Q = Xc T bl_law34_Ask_light_0 (.seq l_law34_Ask_light_0 :: ks) (e.keep [1, 3]) h Q := Xc_loop ks _ e h Q _ _
def k_law34_Ask_light : ACode := (.seq (.reg [xS 1 (.box (.t 0)), xS 2 (.mv (.c (.bool false)) false)] [1]) (.seq (.seq (.reg [xS 3 (.mv (xI 0) false)] [1, 3]) (.block 0 l_law34_Ask_light_0)) (.seq (.reg [xS 19 (.fa 0 (.t 1)), xS 20 (.load 0 (.t 19)), xS 21 (.len false (.t 20)), xS 22 (.bin .leq .int (.t 21) (xI 20)), xT 2 22] [2]) .ret)))
def c_law34_Ask_light : AFunc := ⟨k_law34_Ask_light, 23, [.t 2], [], [], []⟩
def k_meta_Check_1 : ACode := (.seq (.reg [xS 2 (.mv (.c (.bool false)) false)] [0]) (.seq (.reg [xF 3 0, xS 4 (.bin .geq .int (.t 3) (xI 1)), xT 5 4, xG 6 5 true (.mv (.t 0) true), xG 7 5 true (.bin .leq .int (.t 6) (xI 65535)), xS 8 (.pick (.t 5) (.t 7) (.c (.bool false))), xT 2 8] [2]) .ret))
def c_meta_Check_1 : AFunc := ⟨k_meta_Check_1, 9, [.t 2], [], [], []⟩
def bl_meta_Check_0 : ACode := (.seq (.reg [xS 57 (.bin .lss .int (.t 56) (.t 55))] [3, 4, 54, 55, 56, 57]) (.seq (.cond (.t 57)
 .skip
 (.exit 0)) (.seq (.block 1 (.seq (.reg [xS 58 (.ia (.sl 1) (.t 54) (.t 56)), xS 59 (.load 0 (.t 58)), xT 6 59] [3, 4, 6, 54, 55, 56]) (.reg [xT 60 4, xT 61 60, xG 62 61 true (.mv (.t 3) false), xG 63 61 true (.mv (.t 6) true), xG 64 61 true (.callv (.t 62) [(.t 63)]), xS 65 (.pick (.t 61) (.t 64) (.c (.bool false))), xT 4 65] [3, 4, 54, 55, 56]))) (.reg [xS 66 (.bin .add .int (.t 56) (xI 1)), xT 56 66] [3, 4, 54, 55, 56]))))
def l_meta_Check_0 : ACode := .loop [3, 4, 54, 55, 56] [] bl_meta_Check_0
theorem L_meta_Check_0 {T : Table} (ks : List Kt) (e : Env) (h : Heap) (Q : Ex → Env → Heap → Prop) : Xc T l_meta_Check_0 ks e h Q = Xc T bl_meta_Check_0 (.seq l_meta_Check_0 :: ks) (e.keep [3, 4, 54, 55, 56]) h Q := Xc_loop ks _ e h Q _ _
def k_meta_Check : ACode := (.seq (.reg [xS 1 (.box (.t 0)), xS 2 (.mv (xI 0) false)] [1]) (.seq (.reg [xS 3 (.mv (.c (.fn f_meta_Check_1 [])) false)] [1, 3]) (.seq (.reg [xS 7 (.fa 0 (.t 1)), xS 8 (.load 0 (.t 7)), xS 9 (.bin .lss .int (.t 8) (.c (.int .u64 2147483648))), xT 10 9, xG 11 10 true (.fa 1 (.t 1)), xG 12 10 true (.load 0 (.t 11)), xG 13 10 true (.bin .lss .int (.t 12) (.c (.int .u64 2147483648))), xS 14 (.pick (.t 10) (.t 13) (.c (.bool false))), xT 15 14, xG 16 15 true (.fa 2 (.t 1)), xG 17 15 true (.load 0 (.t 16)), xG 18 15 true (.bin .geq .int (.t 17) (xI 0)), xS 19 (.pick (.t 15) (.t 18) (.c (.bool false))), xT 20 19, xG 21 20 true (.fa 2 (.t 1)), xG 22 20 true (.load 0 (.t 21)), xG 23 20 true (.bin .leq .int (.t 22) (xI 2)), xS 24 (.pick (.t 20) (.t 23) (.c (.bool false))), xT 25 24, xG 26 25 true (.fa 3 (.t 1)), xG 27 25 true (.load 0 (.t 26)), xG 28 25 true (.bin .geq .int (.t 27) (xI 1)), xS 29 (.pick (.t 25) (.t 28) (.c (.bool false))), xT 30 29, xG 31 30 true (.fa 3 (.t 1)), xG 32 30 true (.load 0 (.t 31)), xG 33 30 true (.bin .leq .int (.t 32) (xI 3192)), xS 34 (.pick (.t 30) (.t 33) (.c (.bool false))), xT 35 34, xG 36 35 true (.mv (.t 3) false), xG 37 35 true (.fa 6 (.t 1)), xG 38 35 true (.load 0 (.t 37)), xG 39 35 true (.callv (.t 36) [(.t 38)]), xS 40 (.pick (.t 35) (.t 39) (.c (.bool false))), xT 41 40, xG 42 41 true (.fa 7 (.t 1)), xG 43 41 true (.load 0 (.t 42)), xG 44 41 true (.len false (.t 43)), xG 45 41 true (.bin .geq .int (.t 44) (xI 1)), xS 46 (.pick (.t 41) (.t 45) (.c (.bool false))), xT 47 46, xG 48 47 true (.fa 7 (.t 1)), xG 49 47 true (.load 0 (.t 48)), xG 50 47 true (.len false (.t 49)), xG 51 47 true (.bin .leq .int (.t 50) (xI 14)), xS 52 (.pick (.t 47) (.t 51) (.c (.bool false))), xT 4 52] [1, 3, 4]) (.seq (.seq (.reg [xS 53 (.fa 7 (.t 1)), xS 54 (.load 0 (.t 53)), xS 55 (.len false (.t 54)), xS 56 (.mv (xI 0) false)] [3, 4, 54, 55, 56]) (.block 0 l_meta_Check_0)) (.seq (.seq (.reg [xT 67 4, xS 68 (.un .not (.t 67))] [68]) (.cond (.t 68)
 (.seq (.reg [xS 2 (.mv (xI 3) false)] [2]) .ret)
 .skip)) (.seq (.reg [xS 2 (.mv (xI 0) false)] [2]) .ret))))))
def c_meta_Check : AFunc := ⟨k_meta_Check, 69, [.t 2], [], [], []⟩
def bl_slices_BinarySearchFunc_api_Record_api_Record_uint64_0 : ACode := (.seq (.seq (.reg [xF 15 9, xF 16 10, xS 17 (.bin .lss .int (.t 15) (.t 16))] [0, 1, 2, 8, 9, 10, 17]) (.cond (.t 17)
 .skip
 (.exit 0))) (.block 1 (.seq (.reg [xF 18 9, xF 19 10, xS 20 (.bin .add .int (.t 18) (.t 19)), xS 21 (.conv (.i .u64) (.t 20)), xS 22 (.bin .shr .int (.t 21) (.c (.int .u64 1))), xS 23 (.conv (.i .i64) (.t 22)), xT 11 23] [0, 1, 2, 8, 9, 10, 11]) (.seq (.reg [xF 24 2, xF 25 0, xF 26 11, xS 27 (.ia (.sl 8) (.t 25) (.t 26)), xS 28 (.load 8 (.t 27)), xF 29 1, xS 30 (.callv (.t 24) [(.t 28), (.t 29)]), xS 31 (.bin .lss .int (.t 30) (xI 0))] [0, 1, 2, 8, 9, 10, 11, 31]) (.cond (.t 31)
 (.reg [xT 32 11, xS 33 (.bin .add .int (.t 32) (xI 1)), xT 9 33] [0, 1, 2, 8, 9, 10])
 (.reg [xT 34 11, xT 10 34] [0, 1, 2, 8, 9, 10]))))))
def l_slices_BinarySearchFunc_api_Record_api_Record_uint64_0 : ACode := .loop [0, 1, 2, 8, 9, 10] [] bl_slices_BinarySearchFunc_api_Record_api_Record_uint64_0
theorem L_slices_BinarySearchFunc_api_Record_api_Record_uint64_0 {T : Table} (ks : List Kt) (e : Env) (h : Heap) (Q : Ex → Env → Heap → Prop) : Xc T l_slices_BinarySearchFunc_api_Record_api_Record_uint64_0 ks e h Q = Xc T bl_slices_BinarySearchFunc_api_Record_api_Record_uint64_0 (.seq l_slices_BinarySearchFunc_api_Record_api_Record_uint64_0 :: ks) (e.keep [0, 1, 2, 8, 9, 10]) h Q := Xc_loop ks _ e h Q _ _
def k_slices_BinarySearchFunc_api_Record_api_Record_uint64 : ACode := (.seq (.reg [xS 6 (.mv (xI 0) false), xS 7 (.mv (.c (.bool false)) false)] [0, 1, 2]) (.seq (.reg [xF 12 0, xS 13 (.len false (.t 12)), xT 8 13] [0, 1, 2, 8]) (.seq (.reg [xF 14 8, xS 9 (.mv (xI 0) false), xT 10 14] [0, 1, 2, 8, 9, 10]) (.seq (.block 0 l_slices_BinarySearchFunc_api_Record_api_Record_uint64_0) (.seq (.reg [xF 35 9, xF 36 9, xT 37 8, xS 38 (.bin .lss .int (.t 36) (.t 37)), xT 39 38, xG 40 39 true (.mv (.t 2) true), xG 41 39 true (.mv (.t 0) true), xG 42 39 true (.mv (.t 9) true), xG 43 39 true (.ia (.sl 8) (.t 41) (.t 42)), xG 44 39 true (.load 8 (.t 43)), xG 45 39 true (.mv (.t 1) true), xG 46 39 true (.callv (.t 40) [(.t 44), (.t 45)]), xG 47 39 true (.bin .eql .int (.t 46) (xI 0)), xS 48 (.pick (.t 39) (.t 47) (.c (.bool false))), xT 6 35, xT 7 48] [6, 7]) .ret)))))
def c_slices_BinarySearchFunc_api_Record_api_Record_uint64 : AFunc := ⟨k_slices_BinarySearchFunc_api_Record_api_Record_uint64, 49, [.t 6, .t 7], [], [], []⟩
def k_index_Index_place : ACode := (.seq (.reg [xS 4 (.mv (xI 0) false), xS 5 (.mv (.c (.bool false)) false)] [0, 1]) (.seq (.seq (.reg [xF 6 0, xS 7 (.bin .eql .ptr (.t 6) (.c .nilp))] [0, 1, 7]) (.cond (.t 7)
 (.seq (.reg [xS 4 (.mv (xI 0) false), xS 5 (.mv (.c (.bool false)) false)] [4, 5]) .ret)
 .skip)) (.seq (.reg [xT 8 0, xS 9 (.nilck (.t 8)), xS 10 (.fa 0 (.t 9)), xS 11 (.load 0 (.t 10)), xT 12 1, xS 13 (.callh f_slices_BinarySearchFunc_api_Record_api_Record_uint64 [(.t 11), (.t 12), (.c (.fn f_index_Index_place_1 []))]), xE 14 13 0, xE 15 13 1, xT 4 14, xT 5 15] [4, 5]) .ret)))
def c_index_Index_place : AFunc := ⟨k_index_Index_place, 16, [.t 4, .t 5], [], [], []⟩
def k_slices_Clone_int_int : ACode := (.seq (.reg [xS 2 (.mv (.c (.ps 1 [])) false)] [0]) (.nilc [xF 3 0] (.t 3) 4 false [0]
 (.seq (.reg [xS 2 (.mv (.c (.ps 1 [])) false)] [2]) .ret)
 .skip
 (.seq (.reg [xS 5 (.bsl 1 [] false), xT 6 0, xS 7 (.app 1 8 (.t 5) (.t 6)), xT 2 7] [2]) .ret)))
def c_slices_Clone_int_int : AFunc := ⟨k_slices_Clone_int_int, 8, [.t 2], [], [0], []⟩
def k_index_copyOf : ACode := (.seq (.reg [xS 1 (.box (.t 0)), xS 2 (.alloc [(.int .u64 0), (.int .u64 0), (.int .i64 0), (.int .i64 0), (.int .u64 0), (.bool false), (.int .i64 0), (.ps 1 [])])] [1, 2]) (.seq (.reg [xS 3 (.fa 7 (.t 1)), xS 4 (.load 0 (.t 3)), xS 5 (.callp f_slices_Clone_int_int [(.t 4)] []), xS 6 (.fa 7 (.t 1)), ⟨none, .store 1 (.t 6) (.t 5), none⟩] [1, 2]) (.seq (.reg [xS 7 (.load 8 (.t 1)), ⟨none, .store 8 (.t 2) (.t 7), none⟩] [2]) .ret)))
def c_index_copyOf : AFunc := ⟨k_index_copyOf, 8, [.c 2 8], [], [], []⟩
def k_slices_Insert_api_Record_api_Record : ACode := (.seq (.reg [xS 6 (.mv (.c (.hn 8)) false)] [0, 1, 2]) (.seq (.reg [xF 10 0, xF 11 1, xS 12 (.sl (.sl 8) (.t 10) (some (.t 11)) none none false)] [0, 1, 2]) (.seq (.reg [xF 13 2, xS 14 (.len false (.t 13)), xT 7 14] [0, 1, 2, 7]) (.seq (.seq (.reg [xF 15 7, xS 16 (.bin .eql .int (.t 15) (xI 0))] [0, 1, 2, 7, 16]) (.cond (.t 16)
 (.seq (.reg [xT 17 0, xT 6 17] [6]) .ret)
 .skip)) (.seq (.reg [xF 18 0, xS 19 (.len false (.t 18)), xT 8 19] [0, 1, 2, 7, 8]) (.seq (.seq (.reg [xF 20 1, xF 21 8, xS 22 (.bin .eql .int (.t 20) (.t 21))] [0, 1, 2, 7, 8, 22]) (.cond (.t 22)
 (.seq (.reg [xT 23 0, xT 24 2, xS 25 (.apph 8 80 (.t 23) (.t 24)), xT 6 25] [6]) .ret)
 .skip)) (.ins 8 80 [(.int .u64 0), (.int .u64 0), (.int .i64 0), (.int .i64 0), (.int .u64 0), (.bool false), (.int .i64 0), (.ps 1 [])] 0)))))))
def c_slices_Insert_api_Record_api_Record : AFunc := ⟨k_slices_Insert_api_Record_api_Record, 95, [.t 6], [], [], []⟩
def k_index_Index_Put : ACode := (.seq (.reg [xS 3 (.box (.t 1)), xS 4 (.mv (xI 0) false)] [0, 3]) (.seq (.seq (.reg [xF 8 0, xS 9 (.bin .eql .ptr (.t 8) (.c .nilp))] [0, 3, 9]) (.cond (.t 9)
 (.seq (.reg [xS 4 (.mv (xI 1) false)] [4]) .ret)
 .skip)) (.seq (.seq (.reg [xS 10 (.load 8 (.t 3)), xS 11 (.callp f_meta_Check [(.t 10)] []), xT 5 11] [0, 3, 5]) (.seq (.reg [xF 12 5, xS 13 (.bin .neq .int (.t 12) (xI 0))] [0, 3, 5, 13]) (.cond (.t 13)
 (.seq (.reg [xT 14 5, xT 4 14] [4]) .ret)
 .skip))) (.seq (.reg [xF 16 0, xS 17 (.fa 0 (.t 3)), xS 18 (.load 0 (.t 17)), xS 19 (.callh f_index_Index_place [(.t 16), (.t 18)]), xT 15 19, xE 20 15 0, xE 21 15 1, xT 6 20, xT 7 21] [0, 3, 6, 7]) (.seq (.seq (.reg [xT 22 7] [0, 3, 6, 22]) (.cond (.t 22)
 (.seq (.reg [xS 4 (.mv (xI 15) false)] [4]) .ret)
 .skip)) (.seq (.regd [xF 23 0, xF 24 0, xS 25 (.nilck (.t 24)), xS 26 (.fa 0 (.t 25)), xS 27 (.load 0 (.t 26)), xF 28 6, xS 29 (.load 8 (.t 3)), xS 30 (.callp f_index_copyOf [(.t 29)] []), xS 31 (.bsl 8 [(.t 30)] false), xS 32 (.callh f_slices_Insert_api_Record_api_Record [(.t 27), (.t 28), (.t 31)]), xS 33 (.nilck (.t 23)), xS 34 (.fa 0 (.t 33)), ⟨none, .store 1 (.t 34) (.t 32), none⟩] [] ([], [(8, [(31, 0)])]) []) (.seq (.reg [xS 4 (.mv (xI 0) false)] [4]) .ret)))))))
def c_index_Index_Put : AFunc := ⟨k_index_Index_Put, 35, [.t 4], [], [], []⟩
def bl_index_New_0 : ACode := (.seq (.reg [xS 11 (.bin .lss .int (.t 10) (.t 9))] [3, 8, 9, 10, 11]) (.seq (.cond (.t 11)
 .skip
 (.exit 0)) (.seq (.block 1 (.seq (.reg [xS 12 (.ia (.sl 8) (.t 8) (.t 10)), xS 13 (.load 8 (.t 12)), xS 5 (.alloc [(.int .u64 0), (.int .u64 0), (.int .i64 0), (.int .i64 0), (.int .u64 0), (.bool false), (.int .i64 0), (.ps 1 [])]), ⟨none, .store 8 (.t 5) (.t 13), none⟩] [3, 5, 8, 9, 10]) (.reg [xF 14 3, xS 15 (.load 8 (.t 5)), xS 16 (.callh f_index_Index_Put [(.t 14), (.t 15)])] [3, 8, 9, 10]))) (.reg [xS 17 (.bin .add .int (.t 10) (xI 1)), xT 10 17] [3, 8, 9, 10]))))
def l_index_New_0 : ACode := .loop [3, 8, 9, 10] [] bl_index_New_0
theorem L_index_New_0 {T : Table} (ks : List Kt) (e : Env) (h : Heap) (Q : Ex → Env → Heap → Prop) : Xc T l_index_New_0 ks e h Q = Xc T bl_index_New_0 (.seq l_index_New_0 :: ks) (e.keep [3, 8, 9, 10]) h Q := Xc_loop ks _ e h Q _ _
def k_index_New : ACode := (.seq (.reg [xS 2 (.mv (.c .nilp) false)] [0]) (.seq (.reg [xS 6 (.build [(.hn 8)] []), xS 7 (.box (.t 6)), xT 3 7] [0, 3]) (.seq (.seq (.reg [xT 8 0, xS 9 (.len false (.t 8)), xS 10 (.mv (xI 0) false)] [3, 8, 9, 10]) (.block 0 l_index_New_0)) (.seq (.reg [xT 18 3, xT 2 18] [2]) .ret))))
def c_index_New : AFunc := ⟨k_index_New, 19, [.t 2], [], [], []⟩
def k_index_Frames : ACode := (.seq (.reg [xS 2 (.mv (xI 0) false)] [0]) (.seq (.seq (.reg [xF 3 0, xS 4 (.bin .lss .int (.t 3) (xI 1))] [0, 4]) (.cond (.t 4)
 (.seq (.reg [xS 2 (.mv (xI 0) false)] [2]) .ret)
 .skip)) (.seq (.reg [xT 5 0, xS 6 (.bin .sub .int (.t 5) (xI 1)), xS 7 (.bin .quo .int (.t 6) (xI 100)), xS 8 (.bin .add .int (.t 7) (xI 1)), xT 2 8] [2]) .ret)))
def c_index_Frames : AFunc := ⟨k_index_Frames, 9, [.t 2], [], [], []⟩
def k_index_Index_Frame_1 : ACode := (.seq (.reg [xS 2 (.box (.t 0)), xS 3 (.mv (.c (.bool false)) false)] [1, 2]) (.seq (.regd [xS 4 (.load 0 (.t 1)), xS 5 (.fa 1 (.t 2)), xS 6 (.load 0 (.t 5)), xS 7 (.bin .geq .int (.t 4) (.t 6)), xF 8 7, xG 9 8 true (.load 0 (.t 1)), xG 10 8 true (.fa 1 (.t 2)), xG 11 8 true (.load 0 (.t 10)), xG 12 8 true (.bin .sub .int (.t 9) (.t 11)), xG 13 8 true (.fa 3 (.t 2)), xG 14 8 true (.load 0 (.t 13)), xG 15 8 true (.callp f_index_Frames [(.t 14)] []), xG 16 8 true (.conv (.i .u64) (.t 15)), xG 17 8 true (.bin .lss .int (.t 12) (.t 16)), xS 18 (.pick (.t 8) (.t 17) (.c (.bool false))), xT 3 18] [3] ([], []) []) .ret))
def c_index_Index_Frame_1 : AFunc := ⟨k_index_Index_Frame_1, 19, [.t 3], [], [], []⟩
def bl_index_Index_some_0 : ACode := (.seq (.reg [xS 17 (.bin .lss .int (.t 16) (.t 15))] [1, 5, 14, 15, 16, 17]) (.seq (.cond (.t 17)
 .skip
 (.exit 0)) (.seq (.block 1 (.seq (.reg [xS 18 (.ia (.sl 8) (.t 14) (.t 16)), xS 19 (.load 8 (.t 18)), xS 7 (.alloc [(.int .u64 0), (.int .u64 0), (.int .i64 0), (.int .i64 0), (.int .u64 0), (.bool false), (.int .i64 0), (.ps 1 [])]), ⟨none, .store 8 (.t 7) (.t 19), none⟩] [1, 5, 7, 14, 15, 16]) (.seq (.reg [xF 20 1, xS 21 (.load 8 (.t 7)), xS 22 (.callv (.t 20) [(.t 21)])] [1, 5, 7, 14, 15, 16, 22]) (.cond (.t 22)
 (.reg [xT 23 5, xS 24 (.load 8 (.t 7)), xS 25 (.callp f_index_copyOf [(.t 24)] []), xS 26 (.bsl 8 [(.t 25)] false), xS 27 (.app 8 80 (.t 23) (.t 26)), xT 5 27] [1, 5, 14, 15, 16])
 .skip)))) (.reg [xS 28 (.bin .add .int (.t 16) (xI 1)), xT 16 28] [1, 5, 14, 15, 16]))))
def l_index_Index_some_0 : ACode := .loop [1, 5, 14, 15, 16] [(5, 0)] bl_index_Index_some_0
theorem L_index_Index_some_0 {T : Table} (ks : List Kt) (e : Env) (h : Heap) (Q : Ex → Env → Heap → Prop) : Xc T l_index_Index_some_0 ks e h Q = Xc T bl_index_Index_some_0 (.seq l_index_Index_some_0 :: ks) (e.keep [1, 5, 14, 15, 16]) h Q := Xc_loop ks _ e h Q _ _
def k_index_Index_some : ACode := (.seq (.reg [xS 4 (.mv (.c (.ps 8 [])) false)] [0, 1]) (.seq (.reg [xS 5 (.mv (.c (.ps 8 [])) false)] [0, 1, 5]) (.seq (.seq (.reg [xF 8 0, xS 9 (.bin .eql .ptr (.t 8) (.c .nilp))] [0, 1, 5, 9]) (.cond (.t 9)
 (.seq (.reg [xT 10 5, xT 4 10] [4]) .ret)
 .skip)) (.seq (.seq (.reg [xT 11 0, xS 12 (.nilck (.t 11)), xS 13 (.fa 0 (.t 12)), xS 14 (.load 0 (.t 13)), xS 15 (.len false (.t 14)), xS 16 (.mv (xI 0) false)] [1, 5, 14, 15, 16]) (.block 0 l_index_Index_some_0)) (.seq (.reg [xT 29 5, xT 4 29] [4]) .ret)))))
def c_index_Index_some : AFunc := ⟨k_index_Index_some, 30, [.t 4], [], [0], []⟩
def k_index_Index_Frame : ACode := (.seq (.reg [xS 3 (.box (.t 1)), xS 4 (.alloc [(.int .u64 0), (.int .u64 0), (.int .i64 0), (.int .i64 0), (.int .u64 0), (.bool false), (.int .i64 0), (.ps 1 [])]), xS 5 (.mv (xI 0) false), xS 6 (.mv (.c (.bool false)) false)] [0, 3, 4]) (.seq (.reg [xT 8 0, xS 9 (.mkfn f_index_Index_Frame_1 [(.t 3)]), xS 10 (.callh f_index_Index_some [(.t 8), (.t 9)]), xT 7 10] [3, 4, 7]) (.seq (.seq (.reg [xF 11 7, xS 12 (.len false (.t 11)), xS 13 (.bin .eql .int (.t 12) (xI 0))] [3, 4, 7, 13]) (.cond (.t 13)
 (.seq (.reg [xS 14 (.build [(.int .u64 0), (.int .u64 0), (.int .i64 0), (.int .i64 0), (.int .u64 0), (.bool false), (.int .i64 0), (.ps 1 [])] []), ⟨none, .store 8 (.t 4) (.t 14), none⟩, xS 5 (.mv (xI 0) false), xS 6 (.mv (.c (.bool false)) false)] [4, 5, 6]) .ret)
 .skip)) (.seq (.regd [xF 15 7, xS 16 (.ia (.sl 8) (.t 15) (xI 0)), xS 17 (.load 8 (.t 16)), xS 18 (.load 0 (.t 3)), xF 19 7, xS 20 (.ia (.sl 8) (.t 19) (xI 0)), xS 21 (.fa 1 (.t 20)), xS 22 (.load 0 (.t 21)), xS 23 (.bin .sub .int (.t 18) (.t 22)), xS 24 (.conv (.i .i64) (.t 23)), ⟨none, .store 8 (.t 4) (.t 17), none⟩, xF 5 24, xS 6 (.mv (.c (.bool true)) false)] [4, 5, 6] ([(7, 0)], []) [(3, 0, 13), (7, 0, 13)]) .ret))))
def c_index_Index_Frame : AFunc := ⟨k_index_Index_Frame, 25, [.c 4 8, .t 5, .t 6], [], [], []⟩
def k_resend_One : ACode := (.seq (.reg [xS 6 (.alloc [(.int .u64 0), (.int .i64 0), (.int .u64 0), (.int .i64 0)])] [0, 1, 2, 6]) (.seq (.reg [xT 11 0, xF 12 1, xS 13 (.callh f_index_Index_Frame [(.t 11), (.t 12)]), xT 10 13, xE 14 10 0, xE 15 10 1, xE 16 10 2, xS 7 (.alloc [(.int .u64 0), (.int .u64 0), (.int .i64 0), (.int .i64 0), (.int .u64 0), (.bool false), (.int .i64 0), (.ps 1 [])]), ⟨none, .store 8 (.t 7) (.t 14), none⟩, xT 8 15, xT 9 16] [1, 2, 6, 7, 8, 9]) (.seq (.block 0 (.seq (.reg [xT 18 9, xT 17 18] [1, 2, 6, 7, 8, 17]) (.cond (.t 17)
 (.seq (.reg [xT 19 1, xS 20 (.fa 0 (.t 7)), xS 21 (.load 0 (.t 20)), xT 22 8, xS 23 (.build [(.int .u64 0), (.int .i64 0), (.int .u64 0), (.int .i64 0)] [(0, 1, (.t 19)), (2, 1, (.t 21)), (3, 1, (.t 22))]), ⟨none, .store 4 (.t 6) (.t 23), none⟩] [6]) .ret)
 (.seq (.reg [xF 25 1, xT 26 2, xS 27 (.bin .lss .int (.t 25) (.t 26)), xT 24 27] [1, 6, 24]) (.cond (.t 24)
 (.seq (.reg [xT 28 1, xS 29 (.build [(.int .u64 0), (.int .i64 0), (.int .u64 0), (.int .i64 0)] [(0, 1, (.t 28)), (1, 1, (xI 1))]), ⟨none, .store 4 (.t 6) (.t 29), none⟩] [6]) .ret)
 .skip))))) (.seq (.reg [xT 30 1, xS 31 (.build [(.int .u64 0), (.int .i64 0), (.int .u64 0), (.int .i64 0)] [(0, 1, (.t 30)), (1, 1, (xI 2))]), ⟨none, .store 4 (.t 6) (.t 31), none⟩] [6]) .ret))))
def c_resend_One : AFunc := ⟨k_resend_One, 32, [.c 6 4], [], [], []⟩
def bl_resend_Range_0 : ACode := (.seq (.reg [xS 26 (.bin .lss .int (.t 25) (.t 24))] [0, 1, 2, 10, 24, 25, 26]) (.seq (.cond (.t 26)
 .skip
 (.exit 0)) (.seq (.block 1 (.seq (.reg [xF 27 25, xT 11 27] [0, 1, 2, 10, 11, 24, 25]) (.reg [xT 28 10, xF 29 0, xF 30 2, xT 31 11, xS 32 (.bin .add .int (.t 30) (.t 31)), xF 33 1, xS 34 (.callh f_resend_One [(.t 29), (.t 32), (.t 33)]), xS 35 (.bsl 4 [(.t 34)] false), xS 36 (.app 4 32 (.t 28) (.t 35)), xT 10 36] [0, 1, 2, 10, 24, 25]))) (.reg [xS 37 (.bin .add .int (.t 25) (.c (.int .u64 1))), xT 25 37] [0, 1, 2, 10, 24, 25]))))
def l_resend_Range_0 : ACode := .loop [0, 1, 2, 10, 24, 25] [(10, 0)] bl_resend_Range_0
theorem L_resend_Range_0 {T : Table} (ks : List Kt) (e : Env) (h : Heap) (Q : Ex → Env → Heap → Prop) : Xc T l_resend_Range_0 ks e h Q = Xc T bl_resend_Range_0 (.seq l_resend_Range_0 :: ks) (e.keep [0, 1, 2, 10, 24, 25]) h Q := Xc_loop ks _ e h Q _ _
def k_resend_Range : ACode := (.seq (.reg [xS 8 (.mv (.c (.ps 4 [])) false), xS 9 (.mv (xI 0) false)] [0, 1, 2, 3]) (.seq (.seq (.reg [xF 12 2, xF 13 3, xS 14 (.bin .gtr .int (.t 12) (.t 13)), xT 15 14, xG 16 15 false (.mv (.t 3) false), xG 17 15 false (.mv (.t 2) false), xG 18 15 false (.bin .sub .int (.t 16) (.t 17)), xG 19 15 false (.bin .geq .int (.t 18) (.c (.int .u64 256))), xS 20 (.pick (.t 15) (.c (.bool true)) (.t 19))] [0, 1, 2, 3, 20]) (.cond (.t 20)
 (.seq (.reg [xS 8 (.mv (.c (.ps 4 [])) false), xS 9 (.mv (xI 3) false)] [8, 9]) .ret)
 .skip)) (.seq (.reg [xS 10 (.mv (.c (.ps 4 [])) false)] [0, 1, 2, 3, 10]) (.seq (.seq (.reg [xT 21 3, xF 22 2, xS 23 (.bin .sub .int (.t 21) (.t 22)), xS 24 (.bin .add .int (.t 23) (.c (.int .u64 1))), xS 25 (.mv (.c (.int .u64 0)) false)] [0, 1, 2, 10, 24, 25]) (.block 0 l_resend_Range_0)) (.seq (.reg [xT 38 10, xT 8 38, xS 9 (.mv (xI 0) false)] [8, 9]) .ret)))))
def c_resend_Range : AFunc := ⟨k_resend_Range, 39, [.t 8, .t 9], [], [1], []⟩
def k_resend_Runs_1 : ACode := (.seq (.seq (.reg [xS 5 (.load 0 (.t 1)), xS 6 (.len false (.t 5)), xS 7 (.bin .sub .int (.t 6) (xI 1)), xT 4 7] [0, 1, 2, 4]) (.seq (.reg [xS 8 (.load 0 (.t 2)), xT 9 8, xG 10 9 true (.mv (.t 0) false), xG 11 9 true (.bin .gtr .int (.t 10) (.c (.int .u64 0))), xS 12 (.pick (.t 9) (.t 11) (.c (.bool false))), xT 13 12, xG 14 13 true (.load 0 (.t 1)), xG 15 13 true (.mv (.t 4) false), xG 16 13 true (.ia (.sl 2) (.t 14) (.t 15)), xG 17 13 true (.ia (.arr 2 1) (.t 16) (xI 1)), xG 18 13 true (.load 0 (.t 17)), xG 19 13 true (.mv (.t 0) false), xG 20 13 true (.bin .sub .int (.t 19) (.c (.int .u64 1))), xG 21 13 true (.bin .eql .int (.t 18) (.t 20)), xS 22 (.pick (.t 13) (.t 21) (.c (.bool false)))] [0, 1, 2, 4, 22]) (.cond (.t 22)
 (.seq (.reg [xS 23 (.load 0 (.t 1)), xT 24 4, xT 25 0, xS 26 (.ia (.sl 2) (.t 23) (.t 24)), xS 27 (.ia (.arr 2 1) (.t 26) (xI 1)), ⟨none, .store 1 (.t 27) (.t 25), none⟩] []) .ret)
 .skip))) (.seq (.reg [xS 28 (.load 0 (.t 1)), xF 29 0, xT 30 0, xS 31 (.build [(.int .u64 0), (.int .u64 0)] [(0, 1, (.t 29)), (1, 1, (.t 30))]), xS 32 (.bsl 2 [(.t 31)] false), xS 33 (.apph 2 16 (.t 28) (.t 32)), ⟨none, .store 1 (.t 1) (.t 33), none⟩] [2]) (.reg [⟨none, .store 1 (.t 2) (.c (.bool true)), none⟩] [])))
def c_resend_Runs_1 : AFunc := ⟨k_resend_Runs_1, 34, [], [], [], []⟩
def bl_resend_Runs_0 : ACode := (.seq (.reg [xS 12 (.bin .lss .int (.t 11) (.t 10))] [3, 4, 5, 9, 10, 11, 12]) (.seq (.cond (.t 12)
 .skip
 (.exit 0)) (.seq (.block 1 (.seq (.reg [xS 13 (.ia (.sl 4) (.t 9) (.t 11)), xS 14 (.load 4 (.t 13)), xS 7 (.alloc [(.int .u64 0), (.int .i64 0), (.int .u64 0), (.int .i64 0)]), ⟨none, .store 4 (.t 7) (.t 14), none⟩] [3, 4, 5, 7, 9, 10, 11]) (.seq (.seq (.reg [xS 15 (.fa 1 (.t 7)), xS 16 (.load 0 (.t 15)), xS 17 (.bin .eql .int (.t 16) (xI 0))] [3, 4, 5, 7, 9, 10, 11, 17]) (.cond (.t 17)
 (.seq (.reg [⟨none, .store 1 (.t 4) (.c (.bool false)), none⟩] [3, 4, 5, 9, 10, 11]) (.exit 1))
 .skip)) (.reg [xF 18 5, xS 19 (.fa 0 (.t 7)), xS 20 (.load 0 (.t 19)), xS 21 (.callv (.t 18) [(.t 20)])] [3, 4, 5, 9, 10, 11])))) (.reg [xS 22 (.bin .add .int (.t 11) (xI 1)), xT 11 22] [3, 4, 5, 9, 10, 11]))))
def l_resend_Runs_0 : ACode := .loop [3, 4, 5, 9, 10, 11] [] bl_resend_Runs_0
theorem L_resend_Runs_0 {T : Table} (ks : List Kt) (e : Env) (h : Heap) (Q : Ex → Env → Heap → Prop) : Xc T l_resend_Runs_0 ks e h Q = Xc T bl_resend_Runs_0 (.seq l_resend_Runs_0 :: ks) (e.keep [3, 4, 5, 9, 10, 11]) h Q := Xc_loop ks _ e h Q _ _
def k_resend_Runs : ACode := (.seq (.reg [xS 2 (.mv (.c (.hn 2)) false)] [0]) (.seq (.reg [xS 3 (.alloc [(.hn 2)])] [0, 3]) (.seq (.reg [xS 4 (.alloc [(.bool false)]), ⟨none, .store 1 (.t 4) (.c (.bool false)), none⟩] [0, 3, 4]) (.seq (.reg [xS 8 (.mkfn f_resend_Runs_1 [(.t 3), (.t 4)]), xT 5 8] [0, 3, 4, 5]) (.seq (.seq (.reg [xT 9 0, xS 10 (.len false (.t 9)), xS 11 (.mv (xI 0) false)] [3, 4, 5, 9, 10, 11]) (.block 0 l_resend_Runs_0)) (.seq (.reg [xS 23 (.load 0 (.t 3)), xT 2 23] [2]) .ret))))))
def c_resend_Runs : AFunc := ⟨k_resend_Runs, 24, [.t 2], [], [], [(0, true)]⟩
def k_slices_Clone_2_uint64_2_uint64 : ACode := (.seq (.reg [xS 2 (.mv (.c (.hn 2)) false)] [0]) (.nilc [xF 3 0] (.t 3) 4 false [0]
 (.seq (.reg [xS 2 (.mv (.c (.hn 2)) false)] [2]) .ret)
 .skip
 (.seq (.reg [xS 5 (.bsl 2 [] true), xT 6 0, xS 7 (.apph 2 16 (.t 5) (.t 6)), xT 2 7] [2]) .ret)))
def c_slices_Clone_2_uint64_2_uint64 : AFunc := ⟨k_slices_Clone_2_uint64_2_uint64, 8, [.t 2], [], [], []⟩
def bl_slices_IndexFunc_2_uint64_2_uint64_0 : ACode := (.seq (.reg [xS 9 (.bin .lss .int (.t 8) (.t 7))] [0, 1, 7, 8, 9]) (.seq (.cond (.t 9)
 .skip
 (.exit 0)) (.seq (.block 1 (.seq (.reg [xF 10 8, xT 5 10] [0, 1, 5, 7, 8]) (.seq (.reg [xF 11 1, xF 12 0, xF 13 5, xS 14 (.ia (.sl 2) (.t 12) (.t 13)), xS 15 (.load 2 (.t 14)), xS 16 (.callv (.t 11) [(.t 15)])] [0, 1, 5, 7, 8, 16]) (.cond (.t 16)
 (.seq (.reg [xT 17 5, xT 4 17] [4]) .ret)
 .skip)))) (.reg [xS 18 (.bin .add .int (.t 8) (xI 1)), xT 8 18] [0, 1, 7, 8]))))
def l_slices_IndexFunc_2_uint64_2_uint64_0 : ACode := .loop [0, 1, 7, 8] [] bl_slices_IndexFunc_2_uint64_2_uint64_0
theorem L_slices_IndexFunc_2_uint64_2_uint64_0 {T : Table} (ks : List Kt) (e : Env) (h : Heap) (Q : Ex → Env → Heap → Prop) : Xc T l_slices_IndexFunc_2_uint64_2_uint64_0 ks e h Q = Xc T bl_slices_IndexFunc_2_uint64_2_uint64_0 (.seq l_slices_IndexFunc_2_uint64_2_uint64_0 :: ks) (e.keep [0, 1, 7, 8]) h Q := Xc_loop ks _ e h Q _ _
def k_slices_IndexFunc_2_uint64_2_uint64 : ACode := (.seq (.reg [xS 4 (.mv (xI 0) false)] [0, 1]) (.seq (.seq (.reg [xF 6 0, xS 7 (.len false (.t 6)), xS 8 (.mv (xI 0) false)] [0, 1, 7, 8]) (.block 0 l_slices_IndexFunc_2_uint64_2_uint64_0)) (.seq (.reg [xS 4 (.mv (.c (.int .i64 (-1))) false)] [4]) .ret)))
def c_slices_IndexFunc_2_uint64_2_uint64 : AFunc := ⟨k_slices_IndexFunc_2_uint64_2_uint64, 19, [.t 4], [], [], []⟩
def bl_slices_DeleteFunc_2_uint64_2_uint64_0 : ACode := (.seq (.seq (.reg [xF 16 6, xF 17 0, xS 18 (.len false (.t 17)), xS 19 (.bin .lss .int (.t 16) (.t 18))] [0, 1, 5, 6, 19]) (.cond (.t 19)
 .skip
 (.exit 0))) (.seq (.block 1 (.seq (.reg [xF 22 0, xF 23 6, xS 24 (.ia (.sl 2) (.t 22) (.t 23)), xS 25 (.load 2 (.t 24)), xS 7 (.alloc [(.int .u64 0), (.int .u64 0)]), ⟨none, .store 2 (.t 7) (.t 25), none⟩] [0, 1, 5, 6, 7]) (.seq (.reg [xF 26 1, xS 27 (.load 2 (.t 7)), xS 28 (.callv (.t 26) [(.t 27)]), xS 29 (.un .not (.t 28))] [0, 1, 5, 6, 7, 29]) (.cond (.t 29)
 (.seq (.reg [xF 30 0, xF 31 5, xS 32 (.load 2 (.t 7)), xS 33 (.ia (.sl 2) (.t 30) (.t 31)), ⟨none, .store 2 (.t 33) (.t 32), none⟩] [0, 1, 5, 6]) (.reg [xT 34 5, xS 35 (.bin .add .int (.t 34) (xI 1)), xT 5 35] [0, 1, 5, 6]))
 .skip)))) (.reg [xT 20 6, xS 21 (.bin .add .int (.t 20) (xI 1)), xT 6 21] [0, 1, 5, 6])))
def l_slices_DeleteFunc_2_uint64_2_uint64_0 : ACode := .loop [0, 1, 5, 6] [] bl_slices_DeleteFunc_2_uint64_2_uint64_0
theorem L_slices_DeleteFunc_2_uint64_2_uint64_0 {T : Table} (ks : List Kt) (e : Env) (h : Heap) (Q : Ex → Env → Heap → Prop) : Xc T l_slices_DeleteFunc_2_uint64_2_uint64_0 ks e h Q = Xc T bl_slices_DeleteFunc_2_uint64_2_uint64_0 (.seq l_slices_DeleteFunc_2_uint64_2_uint64_0 :: ks) (e.keep [0, 1, 5, 6]) h Q := Xc_loop ks _ e h Q _ _
def k_slices_DeleteFunc_2_uint64_2_uint64 : ACode := (.seq (.reg [xS 4 (.mv (.c (.hn 2)) false)] [0, 1]) (.seq (.reg [xF 8 0, xF 9 1, xS 10 (.callh f_slices_IndexFunc_2_uint64_2_uint64 [(.t 8), (.t 9)]), xT 5 10] [0, 1, 5]) (.seq (.seq (.reg [xF 11 5, xS 12 (.bin .eql .int (.t 11) (.c (.int .i64 (-1))))] [0, 1, 5, 12]) (.cond (.t 12)
 (.seq (.reg [xT 13 0, xT 4 13] [4]) .ret)
 .skip)) (.seq (.seq (.reg [xF 14 5, xS 15 (.bin .add .int (.t 14) (xI 1)), xT 6 15] [0, 1, 5, 6]) (.block 0 l_slices_DeleteFunc_2_uint64_2_uint64_0)) (.seq (.reg [xF 36 0, xF 37 5, xS 38 (.sl (.sl 2) (.t 36) (some (.t 37)) none none false), ⟨none, .clr 2 [(.int .u64 0), (.int .u64 0)] (.t 38), none⟩] [0, 5]) (.seq (.reg [xT 39 0, xT 40 5, xS 41 (.sl (.sl 2) (.t 39) none (some (.t 40)) none false), xT 4 41] [4]) .ret))))))
def c_slices_DeleteFunc_2_uint64_2_uint64 : AFunc := ⟨k_slices_DeleteFunc_2_uint64_2_uint64, 42, [.t 4], [], [], []⟩
def k_math_bits_Len32 : ACode := (.seq (.reg [xS 2 (.mv (xI 0) false)] [0, 2]) (.seq (.seq (.reg [xF 3 0, xS 4 (.bin .geq .int (.t 3) (.c (.int .u32 65536)))] [0, 2, 4]) (.cond (.t 4)
 (.seq (.reg [xT 5 0, xS 6 (.bin .shr .int (.t 5) (.c (.int .u64 16))), xT 0 6] [0]) (.reg [xS 2 (.mv (xI 16) false)] [0, 2]))
 .skip)) (.seq (.seq (.reg [xF 7 0, xS 8 (.bin .geq .int (.t 7) (.c (.int .u32 256)))] [0, 2, 8]) (.cond (.t 8)
 (.seq (.reg [xT 9 0, xS 10 (.bin .shr .int (.t 9) (.c (.int .u64 8))), xT 0 10] [0, 2]) (.reg [xT 11 2, xS 12 (.bin .add .int (.t 11) (xI 8)), xT 2 12] [0, 2]))
 .skip)) (.seq (.reg [xT 13 2, xT 14 0, xS 15 (.conv (.i .u8) (.t 14)), xS 16 (.idx .str 0 (.c (.str [0, 1, 2, 2, 3, 3, 3, 3, 4, 4, 4, 4, 4, 4, 4, 4, 5, 5, 5, 5, 5, 5, 5, 5, 5, 5, 5, 5, 5, 5, 5, 5, 6, 6, 6, 6, 6, 6, 6, 6, 6, 6, 6, 6, 6, 6, 6, 6, 6, 6, 6, 6, 6, 6, 6, 6, 6, 6, 6, 6, 6, 6, 6, 6, 7, 7, 7, 7, 7, 7, 7, 7, 7, 7, 7, 7, 7, 7, 7, 7, 7, 7, 7, 7, 7, 7, 7, 7, 7, 7, 7, 7, 7, 7, 7, 7, 7, 7, 7, 7, 7, 7, 7, 7, 7, 7, 7, 7, 7, 7, 7, 7, 7, 7, 7, 7, 7, 7, 7, 7, 7, 7, 7, 7, 7, 7, 7, 7, 8, 8, 8, 8, 8, 8, 8, 8, 8, 8, 8, 8, 8, 8, 8, 8, 8, 8, 8, 8, 8, 8, 8, 8, 8, 8, 8, 8, 8, 8, 8, 8, 8, 8, 8, 8, 8, 8, 8, 8, 8, 8, 8, 8, 8, 8, 8, 8, 8, 8, 8, 8, 8, 8, 8, 8, 8, 8, 8, 8, 8, 8, 8, 8, 8, 8, 8, 8, 8, 8, 8, 8, 8, 8, 8, 8, 8, 8, 8, 8, 8, 8, 8, 8, 8, 8, 8, 8, 8, 8, 8, 8, 8, 8, 8, 8, 8, 8, 8, 8, 8, 8, 8, 8, 8, 8, 8, 8, 8, 8, 8, 8, 8, 8, 8, 8, 8, 8, 8, 8, 8, 8, 8, 8, 8, 8, 8, 8])) (.t 15)), xS 17 (.conv (.i .i64) (.t 16)), xS 18 (.bin .add .int (.t 13) (.t 17)), xT 2 18] [2]) .ret))))
def c_math_bits_Len32 : AFunc := ⟨k_math_bits_Len32, 19, [.t 2], [], [], []⟩
def k_math_bits_Len64 : ACode := (.seq (.reg [xS 2 (.mv (xI 0) false)] [0, 2]) (.seq (.seq (.reg [xF 3 0, xS 4 (.bin .geq .int (.t 3) (.c (.int .u64 4294967296)))] [0, 2, 4]) (.cond (.t 4)
 (.seq (.reg [xT 5 0, xS 6 (.bin .shr .int (.t 5) (.c (.int .u64 32))), xT 0 6] [0]) (.reg [xS 2 (.mv (xI 32) false)] [0, 2]))
 .skip)) (.seq (.seq (.reg [xF 7 0, xS 8 (.bin .geq .int (.t 7) (.c (.int .u64 65536)))] [0, 2, 8]) (.cond (.t 8)
 (.seq (.reg [xT 9 0, xS 10 (.bin .shr .int (.t 9) (.c (.int .u64 16))), xT 0 10] [0, 2]) (.reg [xT 11 2, xS 12 (.bin .add .int (.t 11) (xI 16)), xT 2 12] [0, 2]))
 .skip)) (.seq (.seq (.reg [xF 13 0, xS 14 (.bin .geq .int (.t 13) (.c (.int .u64 256)))] [0, 2, 14]) (.cond (.t 14)
 (.seq (.reg [xT 15 0, xS 16 (.bin .shr .int (.t 15) (.c (.int .u64 8))), xT 0 16] [0, 2]) (.reg [xT 17 2, xS 18 (.bin .add .int (.t 17) (xI 8)), xT 2 18] [0, 2]))
 .skip)) (.seq (.reg [xT 19 2, xT 20 0, xS 21 (.conv (.i .u8) (.t 20)), xS 22 (.idx .str 0 (.c (.str [0, 1, 2, 2, 3, 3, 3, 3, 4, 4, 4, 4, 4, 4, 4, 4, 5, 5, 5, 5, 5, 5, 5, 5, 5, 5, 5, 5, 5, 5, 5, 5, 6, 6, 6, 6, 6, 6, 6, 6, 6, 6, 6, 6, 6, 6, 6, 6, 6, 6, 6, 6, 6, 6, 6, 6, 6, 6, 6, 6, 6, 6, 6, 6, 7, 7, 7, 7, 7, 7, 7, 7, 7, 7, 7, 7, 7, 7, 7, 7, 7, 7, 7, 7, 7, 7, 7, 7, 7, 7, 7, 7, 7, 7, 7, 7, 7, 7, 7, 7, 7, 7, 7, 7, 7, 7, 7, 7, 7, 7, 7, 7, 7, 7, 7, 7, 7, 7, 7, 7, 7, 7, 7, 7, 7, 7, 7, 7, 8, 8, 8, 8, 8, 8, 8, 8, 8, 8, 8, 8, 8, 8, 8, 8, 8, 8, 8, 8, 8, 8, 8, 8, 8, 8, 8, 8, 8, 8, 8, 8, 8, 8, 8, 8, 8, 8, 8, 8, 8, 8, 8, 8, 8, 8, 8, 8, 8, 8, 8, 8, 8, 8, 8, 8, 8, 8, 8, 8, 8, 8, 8, 8, 8, 8, 8, 8, 8, 8, 8, 8, 8, 8, 8, 8, 8, 8, 8, 8, 8, 8, 8, 8, 8, 8, 8, 8, 8, 8, 8, 8, 8, 8, 8, 8, 8, 8, 8, 8, 8, 8, 8, 8, 8, 8, 8, 8, 8, 8, 8, 8, 8, 8, 8, 8, 8, 8, 8, 8, 8, 8, 8, 8, 8, 8, 8, 8])) (.t 21)), xS 23 (.conv (.i .i64) (.t 22)), xS 24 (.bin .add .int (.t 19) (.t 23)), xT 2 24] [2]) .ret)))))
def c_math_bits_Len64 : AFunc := ⟨k_math_bits_Len64, 25, [.t 2], [], [], []⟩
def k_math_bits_Len : ACode := (.seq (.reg [xS 2 (.mv (xI 0) false)] [0]) (.seq (.cond (.c (.bool false))
 (.seq (.reg [xT 3 0, xS 4 (.conv (.i .u32) (.t 3)), xS 5 (.callp f_math_bits_Len32 [(.t 4)] []), xT 2 5] [2]) .ret)
 .skip) (.seq (.reg [xT 6 0, xS 7 (.callp f_math_bits_Len64 [(.t 6)] []), xT 2 7] [2]) .ret)))
def c_math_bits_Len : AFunc := ⟨k_math_bits_Len, 8, [.t 2], [], [], []⟩
def bl_slices_insertionSortCmpFunc_2_uint64_0 : ACode := (.seq (.seq (.regd [xF 18 9, xF 19 1, xS 20 (.bin .gtr .int (.t 18) (.t 19)), xF 21 20, xG 22 21 true (.mv (.t 3) false), xG 23 21 true (.mv (.t 0) false), xG 24 21 true (.mv (.t 9) false), xG 25 21 true (.ia (.sl 2) (.t 23) (.t 24)), xG 26 21 true (.load 2 (.t 25)), xG 27 21 true (.mv (.t 0) false), xG 28 21 true (.mv (.t 9) false), xG 29 21 true (.bin .sub .int (.t 28) (xI 1)), xG 30 21 true (.ia (.sl 2) (.t 27) (.t 29)), xG 31 21 true (.load 2 (.t 30)), xG 32 21 true (.callv (.t 22) [(.t 26), (.t 31)]), xG 33 21 true (.bin .lss .int (.t 32) (xI 0)), xS 34 (.pick (.t 21) (.t 33) (.c (.bool false)))] [0, 1, 2, 3, 8, 9, 34] ([], []) []) (.cond (.t 34)
 .skip
 (.exit 2))) (.seq (.block 3 (.regd [xF 37 0, xF 38 9, xF 39 0, xF 40 9, xS 41 (.bin .sub .int (.t 40) (xI 1)), xF 42 0, xF 43 9, xS 44 (.bin .sub .int (.t 43) (xI 1)), xS 45 (.ia (.sl 2) (.t 42) (.t 44)), xS 46 (.load 2 (.t 45)), xF 47 0, xF 48 9, xS 49 (.ia (.sl 2) (.t 47) (.t 48)), xS 50 (.load 2 (.t 49)), xS 51 (.ia (.sl 2) (.t 37) (.t 38)), ⟨none, .store 2 (.t 51) (.t 46), none⟩, xS 52 (.ia (.sl 2) (.t 39) (.t 41)), ⟨none, .store 2 (.t 52) (.t 50), none⟩] [0, 1, 2, 3, 8, 9] ([], []) [])) (.reg [xT 35 9, xS 36 (.bin .sub .int (.t 35) (xI 1)), xT 9 36] [0, 1, 2, 3, 8, 9])))
def l_slices_insertionSortCmpFunc_2_uint64_0 : ACode := .loop [0, 1, 2, 3, 8, 9] [] bl_slices_insertionSortCmpFunc_2_uint64_0
theorem L_slices_insertionSortCmpFunc_2_uint64_0 {T : Table} (ks : List Kt) (e : Env) (h : Heap) (Q : Ex → Env → Heap → Prop) : Xc T l_slices_insertionSortCmpFunc_2_uint64_0 ks e h Q = Xc T bl_slices_insertionSortCmpFunc_2_uint64_0 (.seq l_slices_insertionSortCmpFunc_2_uint64_0 :: ks) (e.keep [0, 1, 2, 3, 8, 9]) h Q := Xc_loop ks _ e h Q _ _
def bl_slices_insertionSortCmpFunc_2_uint64_1 : ACode := (.seq (.seq (.reg [xF 12 8, xF 13 2, xS 14 (.bin .lss .int (.t 12) (.t 13))] [0, 1, 2, 3, 8, 14]) (.cond (.t 14)
 .skip
 (.exit 0))) (.seq (.block 1 (.seq (.reg [xF 17 8, xT 9 17] [0, 1, 2, 3, 8, 9]) (.block 2 l_slices_insertionSortCmpFunc_2_uint64_0))) (.reg [xT 15 8, xS 16 (.bin .add .int (.t 15) (xI 1)), xT 8 16] [0, 1, 2, 3, 8])))
def l_slices_insertionSortCmpFunc_2_uint64_1 : ACode := .loop [0, 1, 2, 3, 8] [] bl_slices_insertionSortCmpFunc_2_uint64_1
theorem L_slices_insertionSortCmpFunc_2_uint64_1 {T : Table} (ks : List Kt) (e : Env) (h : Heap) (Q : Ex → Env → Heap → Prop) : Xc T l_slices_insertionSortCmpFunc_2_uint64_1 ks e h Q = Xc T bl_slices_insertionSortCmpFunc_2_uint64_1 (.seq l_slices_insertionSortCmpFunc_2_uint64_1 :: ks) (e.keep [0, 1, 2, 3, 8]) h Q := Xc_loop ks _ e h Q _ _
def k_slices_insertionSortCmpFunc_2_uint64 : ACode := (.seq (.reg [xF 10 1, xS 11 (.bin .add .int (.t 10) (xI 1)), xT 8 11] [0, 1, 2, 3, 8]) (.block 0 l_slices_insertionSortCmpFunc_2_uint64_1))
def c_slices_insertionSortCmpFunc_2_uint64 : AFunc := ⟨k_slices_insertionSortCmpFunc_2_uint64, 53, [], [], [], []⟩
def bl_slices_siftDownCmpFunc_2_uint64_0 : ACode := (.block 1 (.seq (.reg [xF 13 10, xS 14 (.bin .mul .int (xI 2) (.t 13)), xS 15 (.bin .add .int (.t 14) (xI 1)), xT 11 15] [0, 2, 3, 4, 10, 11]) (.seq (.seq (.reg [xF 16 11, xF 17 2, xS 18 (.bin .geq .int (.t 16) (.t 17))] [0, 2, 3, 4, 10, 11, 18]) (.cond (.t 18)
 (.exit 0)
 .skip)) (.seq (.seq (.regd [xF 19 11, xS 20 (.bin .add .int (.t 19) (xI 1)), xF 21 2, xS 22 (.bin .lss .int (.t 20) (.t 21)), xF 23 22, xG 24 23 true (.mv (.t 4) false), xG 25 23 true (.mv (.t 0) false), xG 26 23 true (.mv (.t 3) false), xG 27 23 true (.mv (.t 11) false), xG 28 23 true (.bin .add .int (.t 26) (.t 27)), xG 29 23 true (.ia (.sl 2) (.t 25) (.t 28)), xG 30 23 true (.load 2 (.t 29)), xG 31 23 true (.mv (.t 0) false), xG 32 23 true (.mv (.t 3) false), xG 33 23 true (.mv (.t 11) false), xG 34 23 true (.bin .add .int (.t 32) (.t 33)), xG 35 23 true (.bin .add .int (.t 34) (xI 1)), xG 36 23 true (.ia (.sl 2) (.t 31) (.t 35)), xG 37 23 true (.load 2 (.t 36)), xG 38 23 true (.callv (.t 24) [(.t 30), (.t 37)]), xG 39 23 true (.bin .lss .int (.t 38) (xI 0)), xS 40 (.pick (.t 23) (.t 39) (.c (.bool false)))] [0, 2, 3, 4, 10, 11, 40] ([], []) []) (.cond (.t 40)
 (.reg [xT 41 11, xS 42 (.bin .add .int (.t 41) (xI 1)), xT 11 42] [0, 2, 3, 4, 10, 11])
 .skip)) (.seq (.seq (.regd [xF 43 4, xF 44 0, xF 45 3, xF 46 10, xS 47 (.bin .add .int (.t 45) (.t 46)), xS 48 (.ia (.sl 2) (.t 44) (.t 47)), xS 49 (.load 2 (.t 48)), xF 50 0, xF 51 3, xF 52 11, xS 53 (.bin .add .int (.t 51) (.t 52)), xS 54 (.ia (.sl 2) (.t 50) (.t 53)), xS 55 (.load 2 (.t 54)), xS 56 (.callv (.t 43) [(.t 49), (.t 55)]), xS 57 (.bin .lss .int (.t 56) (xI 0)), xS 58 (.un .not (.t 57))] [0, 2, 3, 4, 10, 11, 58] ([], []) []) (.cond (.t 58)
 .ret
 .skip)) (.seq (.regd [xF 59 0, xF 60 3, xF 61 10, xS 62 (.bin .add .int (.t 60) (.t 61)), xF 63 0, xF 64 3, xF 65 11, xS 66 (.bin .add .int (.t 64) (.t 65)), xF 67 0, xF 68 3, xF 69 11, xS 70 (.bin .add .int (.t 68) (.t 69)), xS 71 (.ia (.sl 2) (.t 67) (.t 70)), xS 72 (.load 2 (.t 71)), xF 73 0, xF 74 3, xF 75 10, xS 76 (.bin .add .int (.t 74) (.t 75)), xS 77 (.ia (.sl 2) (.t 73) (.t 76)), xS 78 (.load 2 (.t 77)), xS 79 (.ia (.sl 2) (.t 59) (.t 62)), ⟨none, .store 2 (.t 79) (.t 72), none⟩, xS 80 (.ia (.sl 2) (.t 63) (.t 66)), ⟨none, .store 2 (.t 80) (.t 78), none⟩] [0, 2, 3, 4, 11] ([], []) []) (.reg [xT 81 11, xT 10 81] [0, 2, 3, 4, 10])))))))
def l_slices_siftDownCmpFunc_2_uint64_0 : ACode := .loop [0, 2, 3, 4, 10] [] bl_slices_siftDownCmpFunc_2_uint64_0
theorem L_slices_siftDownCmpFunc_2_uint64_0 {T : Table} (ks : List Kt) (e : Env) (h : Heap) (Q : Ex → Env → Heap → Prop) : Xc T l_slices_siftDownCmpFunc_2_uint64_0 ks e h Q = Xc T bl_slices_siftDownCmpFunc_2_uint64_0 (.seq l_slices_siftDownCmpFunc_2_uint64_0 :: ks) (e.keep [0, 2, 3, 4, 10]) h Q := Xc_loop ks _ e h Q _ _
def k_slices_siftDownCmpFunc_2_uint64 : ACode := (.seq (.reg [xT 12 1, xT 10 12] [0, 2, 3, 4, 10]) (.block 0 l_slices_siftDownCmpFunc_2_uint64_0))
def c_slices_siftDownCmpFunc_2_uint64 : AFunc := ⟨k_slices_siftDownCmpFunc_2_uint64, 82, [], [], [], []⟩
def bl_slices_heapSortCmpFunc_2_uint64_0 : ACode := (.seq (.seq (.reg [xF 20 11, xS 21 (.bin .geq .int (.t 20) (xI 0))] [0, 3, 8, 9, 10, 11, 21]) (.cond (.t 21)
 .skip
 (.exit 0))) (.seq (.block 1 (.reg [xF 24 0, xF 25 11, xF 26 10, xF 27 8, xF 28 3, xS 29 (.callh f_slices_siftDownCmpFunc_2_uint64 [(.t 24), (.t 25), (.t 26), (.t 27), (.t 28)])] [0, 3, 8, 9, 10, 11])) (.reg [xT 22 11, xS 23 (.bin .sub .int (.t 22) (xI 1)), xT 11 23] [0, 3, 8, 9, 10, 11])))
def l_slices_heapSortCmpFunc_2_uint64_0 : ACode := .loop [0, 3, 8, 9, 10, 11] [] bl_slices_heapSortCmpFunc_2_uint64_0
theorem L_slices_heapSortCmpFunc_2_uint64_0 {T : Table} (ks : List Kt) (e : Env) (h : Heap) (Q : Ex → Env → Heap → Prop) : Xc T l_slices_heapSortCmpFunc_2_uint64_0 ks e h Q = Xc T bl_slices_heapSortCmpFunc_2_uint64_0 (.seq l_slices_heapSortCmpFunc_2_uint64_0 :: ks) (e.keep [0, 3, 8, 9, 10, 11]) h Q := Xc_loop ks _ e h Q _ _
def bl_slices_heapSortCmpFunc_2_uint64_1 : ACode := (.seq (.seq (.reg [xF 32 12, xS 33 (.bin .geq .int (.t 32) (xI 0))] [0, 3, 8, 9, 12, 33]) (.cond (.t 33)
 .skip
 (.exit 2))) (.seq (.block 3 (.seq (.regd [xF 36 0, xF 37 8, xF 38 0, xF 39 8, xF 40 12, xS 41 (.bin .add .int (.t 39) (.t 40)), xF 42 0, xF 43 8, xF 44 12, xS 45 (.bin .add .int (.t 43) (.t 44)), xS 46 (.ia (.sl 2) (.t 42) (.t 45)), xS 47 (.load 2 (.t 46)), xF 48 0, xF 49 8, xS 50 (.ia (.sl 2) (.t 48) (.t 49)), xS 51 (.load 2 (.t 50)), xS 52 (.ia (.sl 2) (.t 36) (.t 37)), ⟨none, .store 2 (.t 52) (.t 47), none⟩, xS 53 (.ia (.sl 2) (.t 38) (.t 41)), ⟨none, .store 2 (.t 53) (.t 51), none⟩] [0, 3, 8, 9, 12] ([], []) []) (.reg [xF 54 0, xF 55 9, xF 56 12, xF 57 8, xF 58 3, xS 59 (.callh f_slices_siftDownCmpFunc_2_uint64 [(.t 54), (.t 55), (.t 56), (.t 57), (.t 58)])] [0, 3, 8, 9, 12]))) (.reg [xT 34 12, xS 35 (.bin .sub .int (.t 34) (xI 1)), xT 12 35] [0, 3, 8, 9, 12])))
def l_slices_heapSortCmpFunc_2_uint64_1 : ACode := .loop [0, 3, 8, 9, 12] [] bl_slices_heapSortCmpFunc_2_uint64_1
theorem L_slices_heapSortCmpFunc_2_uint64_1 {T : Table} (ks : List Kt) (e : Env) (h : Heap) (Q : Ex → Env → Heap → Prop) : Xc T l_slices_heapSortCmpFunc_2_uint64_1 ks e h Q = Xc T bl_slices_heapSortCmpFunc_2_uint64_1 (.seq l_slices_heapSortCmpFunc_2_uint64_1 :: ks) (e.keep [0, 3, 8, 9, 12]) h Q := Xc_loop ks _ e h Q _ _
def k_slices_heapSortCmpFunc_2_uint64 : ACode := (.seq (.reg [xF 13 1, xT 8 13] [0, 1, 2, 3, 8]) (.seq (.reg [xS 9 (.mv (xI 0) false)] [0, 1, 2, 3, 8, 9]) (.seq (.reg [xT 14 2, xT 15 1, xS 16 (.bin .sub .int (.t 14) (.t 15)), xT 10 16] [0, 3, 8, 9, 10]) (.seq (.seq (.reg [xF 17 10, xS 18 (.bin .sub .int (.t 17) (xI 1)), xS 19 (.bin .quo .int (.t 18) (xI 2)), xT 11 19] [0, 3, 8, 9, 10, 11]) (.block 0 l_slices_heapSortCmpFunc_2_uint64_0)) (.seq (.reg [xT 30 10, xS 31 (.bin .sub .int (.t 30) (xI 1)), xT 12 31] [0, 3, 8, 9, 12]) (.block 2 l_slices_heapSortCmpFunc_2_uint64_1))))))
def c_slices_heapSortCmpFunc_2_uint64 : AFunc := ⟨k_slices_heapSortCmpFunc_2_uint64, 60, [], [], [], []⟩
def k_slices_nextPowerOfTwo : ACode := (.seq (.reg [xS 2 (.mv (.c (.int .u64 0)) false)] [0]) (.seq (.reg [xT 3 0, xS 4 (.conv (.i .u64) (.t 3)), xS 5 (.callp f_math_bits_Len [(.t 4)] []), xS 6 (.bin .shl .int (.c (.int .u64 1)) (.t 5)), xT 2 6] [2]) .ret))
def c_slices_nextPowerOfTwo : AFunc := ⟨k_slices_nextPowerOfTwo, 7, [.t 2], [], [], []⟩
def k_slices_xorshift_Next : ACode := (.seq (.reg [xS 2 (.mv (.c (.int .u64 0)) false)] [0]) (.seq (.regd [xF 3 0, xS 4 (.nilck (.t 3)), xS 5 (.load 0 (.t 4)), xF 6 0, xS 7 (.nilck (.t 6)), xS 8 (.load 0 (.t 7)), xS 9 (.bin .shl .int (.t 8) (.c (.int .u64 13))), xS 10 (.bin .xor .int (.t 5) (.t 9)), xS 11 (.nilck (.t 3)), ⟨none, .store 1 (.t 11) (.t 10), none⟩] [0] ([], []) []) (.seq (.regd [xF 12 0, xS 13 (.nilck (.t 12)), xS 14 (.load 0 (.t 13)), xF 15 0, xS 16 (.nilck (.t 15)), xS 17 (.load 0 (.t 16)), xS 18 (.bin .shr .int (.t 17) (.c (.int .u64 7))), xS 19 (.bin .xor .int (.t 14) (.t 18)), xS 20 (.nilck (.t 12)), ⟨none, .store 1 (.t 20) (.t 19), none⟩] [0] ([], []) []) (.seq (.regd [xF 21 0, xS 22 (.nilck (.t 21)), xS 23 (.load 0 (.t 22)), xF 24 0, xS 25 (.nilck (.t 24)), xS 26 (.load 0 (.t 25)), xS 27 (.bin .shl .int (.t 26) (.c (.int .u64 17))), xS 28 (.bin .xor .int (.t 23) (.t 27)), xS 29 (.nilck (.t 21)), ⟨none, .store 1 (.t 29) (.t 28), none⟩] [0] ([], []) []) (.seq (.reg [xT 30 0, xS 31 (.nilck (.t 30)), xS 32 (.load 0 (.t 31)), xT 2 32] [2]) .ret)))))
def c_slices_xorshift_Next : AFunc := ⟨k_slices_xorshift_Next, 33, [.t 2], [], [], []⟩
def bl_slices_breakPatternsCmpFunc_2_uint64_0 : ACode := (.seq (.seq (.reg [xF 28 11, xF 29 1, xF 30 8, xS 31 (.bin .quo .int (.t 30) (xI 4)), xS 32 (.bin .mul .int (.t 31) (xI 2)), xS 33 (.bin .add .int (.t 29) (.t 32)), xS 34 (.bin .add .int (.t 33) (xI 1)), xS 35 (.bin .leq .int (.t 28) (.t 34))] [0, 1, 8, 9, 10, 11, 35]) (.cond (.t 35)
 .skip
 (.exit 0))) (.seq (.block 1 (.seq (.reg [xS 38 (.callh f_slices_xorshift_Next [(.t 9)]), xF 39 10, xS 40 (.bin .sub .int (.t 39) (.c (.int .u64 1))), xS 41 (.bin .and .int (.t 38) (.t 40)), xS 42 (.conv (.i .i64) (.t 41)), xT 12 42] [0, 1, 8, 9, 10, 11, 12]) (.seq (.seq (.reg [xF 43 12, xF 44 8, xS 45 (.bin .geq .int (.t 43) (.t 44))] [0, 1, 8, 9, 10, 11, 12, 45]) (.cond (.t 45)
 (.reg [xT 46 12, xF 47 8, xS 48 (.bin .sub .int (.t 46) (.t 47)), xT 12 48] [0, 1, 8, 9, 10, 11, 12])
 .skip)) (.regd [xF 49 0, xF 50 11, xF 51 0, xF 52 1, xF 53 12, xS 54 (.bin .add .int (.t 52) (.t 53)), xF 55 0, xF 56 1, xF 57 12, xS 58 (.bin .add .int (.t 56) (.t 57)), xS 59 (.ia (.sl 2) (.t 55) (.t 58)), xS 60 (.load 2 (.t 59)), xF 61 0, xF 62 11, xS 63 (.ia (.sl 2) (.t 61) (.t 62)), xS 64 (.load 2 (.t 63)), xS 65 (.ia (.sl 2) (.t 49) (.t 50)), ⟨none, .store 2 (.t 65) (.t 60), none⟩, xS 66 (.ia (.sl 2) (.t 51) (.t 54)), ⟨none, .store 2 (.t 66) (.t 64), none⟩] [0, 1, 8, 9, 10, 11] ([], []) [])))) (.reg [xT 36 11, xS 37 (.bin .add .int (.t 36) (xI 1)), xT 11 37] [0, 1, 8, 9, 10, 11])))
def l_slices_breakPatternsCmpFunc_2_uint64_0 : ACode := .loop [0, 1, 8, 9, 10, 11] [] bl_slices_breakPatternsCmpFunc_2_uint64_0
theorem L_slices_breakPatternsCmpFunc_2_uint64_0 {T : Table} (ks : List Kt) (e : Env) (h : Heap) (Q : Ex → Env → Heap → Prop) : Xc T l_slices_breakPatternsCmpFunc_2_uint64_0 ks e h Q = Xc T bl_slices_breakPatternsCmpFunc_2_uint64_0 (.seq l_slices_breakPatternsCmpFunc_2_uint64_0 :: ks) (e.keep [0, 1, 8, 9, 10, 11]) h Q := Xc_loop ks _ e h Q _ _
def k_slices_breakPatternsCmpFunc_2_uint64 : ACode := (.seq (.reg [xT 13 2, xF 14 1, xS 15 (.bin .sub .int (.t 13) (.t 14)), xT 8 15] [0, 1, 8]) (.seq (.reg [xF 16 8, xS 17 (.bin .geq .int (.t 16) (xI 8))] [0, 1, 8, 17]) (.cond (.t 17)
 (.seq (.reg [xF 18 8, xS 19 (.conv (.i .u64) (.t 18)), xS 9 (.alloc [(.int .u64 0)]), ⟨none, .store 1 (.t 9) (.t 19), none⟩] [0, 1, 8, 9]) (.seq (.reg [xF 20 8, xS 21 (.callp f_slices_nextPowerOfTwo [(.t 20)] []), xT 10 21] [0, 1, 8, 9, 10]) (.seq (.reg [xF 22 1, xF 23 8, xS 24 (.bin .quo .int (.t 23) (xI 4)), xS 25 (.bin .mul .int (.t 24) (xI 2)), xS 26 (.bin .add .int (.t 22) (.t 25)), xS 27 (.bin .sub .int (.t 26) (xI 1)), xT 11 27] [0, 1, 8, 9, 10, 11]) (.block 0 l_slices_breakPatternsCmpFunc_2_uint64_0))))
 .skip)))
def c_slices_breakPatternsCmpFunc_2_uint64 : AFunc := ⟨k_slices_breakPatternsCmpFunc_2_uint64, 67, [], [], [], []⟩
def k_slices_order2CmpFunc_2_uint64 : ACode := (.seq (.reg [xS 10 (.mv (xI 0) false), xS 11 (.mv (xI 0) false)] [0, 1, 2, 3, 4]) (.seq (.seq (.regd [xF 12 4, xF 13 0, xF 14 2, xS 15 (.ia (.sl 2) (.t 13) (.t 14)), xS 16 (.load 2 (.t 15)), xF 17 0, xF 18 1, xS 19 (.ia (.sl 2) (.t 17) (.t 18)), xS 20 (.load 2 (.t 19)), xS 21 (.callv (.t 12) [(.t 16), (.t 20)]), xS 22 (.bin .lss .int (.t 21) (xI 0))] [1, 2, 3, 22] ([], []) []) (.cond (.t 22)
 (.seq (.reg [xT 23 3, xS 24 (.nilck (.t 23)), xS 25 (.load 0 (.t 24)), xS 26 (.bin .add .int (.t 25) (xI 1)), xS 27 (.nilck (.t 23)), ⟨none, .store 1 (.t 27) (.t 26), none⟩] [1, 2]) (.seq (.reg [xT 28 2, xT 29 1, xT 10 28, xT 11 29] [10, 11]) .ret))
 .skip)) (.seq (.reg [xT 30 1, xT 31 2, xT 10 30, xT 11 31] [10, 11]) .ret)))
def c_slices_order2CmpFunc_2_uint64 : AFunc := ⟨k_slices_order2CmpFunc_2_uint64, 32, [.t 10, .t 11], [], [], []⟩
def k_slices_medianCmpFunc_2_uint64 : ACode := (.seq (.reg [xS 12 (.mv (xI 0) false)] [0, 1, 2, 3, 4, 5]) (.seq (.reg [xF 14 0, xT 15 1, xT 16 2, xF 17 4, xF 18 5, xS 19 (.callh f_slices_order2CmpFunc_2_uint64 [(.t 14), (.t 15), (.t 16), (.t 17), (.t 18)]), xT 13 19, xE 20 13 0, xE 21 13 1, xT 1 20, xT 2 21] [0, 1, 2, 3, 4, 5]) (.seq (.reg [xF 23 0, xT 24 2, xT 25 3, xF 26 4, xF 27 5, xS 28 (.callh f_slices_order2CmpFunc_2_uint64 [(.t 23), (.t 24), (.t 25), (.t 26), (.t 27)]), xT 22 28, xE 29 22 0, xE 30 22 1, xT 2 29, xT 3 30] [0, 1, 2, 4, 5]) (.seq (.reg [xT 32 0, xT 33 1, xT 34 2, xT 35 4, xT 36 5, xS 37 (.callh f_slices_order2CmpFunc_2_uint64 [(.t 32), (.t 33), (.t 34), (.t 35), (.t 36)]), xT 31 37, xE 38 31 0, xE 39 31 1, xT 1 38, xT 2 39] [2]) (.seq (.reg [xT 40 2, xT 12 40] [12]) .ret)))))
def c_slices_medianCmpFunc_2_uint64 : AFunc := ⟨k_slices_medianCmpFunc_2_uint64, 41, [.t 12], [], [], []⟩
def k_slices_medianAdjacentCmpFunc_2_uint64 : ACode := (.seq (.reg [xS 8 (.mv (xI 0) false)] [0, 1, 2, 3]) (.seq (.reg [xT 9 0, xF 10 1, xS 11 (.bin .sub .int (.t 10) (xI 1)), xF 12 1, xT 13 1, xS 14 (.bin .add .int (.t 13) (xI 1)), xT 15 2, xT 16 3, xS 17 (.callh f_slices_medianCmpFunc_2_uint64 [(.t 9), (.t 11), (.t 12), (.t 14), (.t 15), (.t 16)]), xT 8 17] [8]) .ret))
def c_slices_medianAdjacentCmpFunc_2_uint64 : AFunc := ⟨k_slices_medianAdjacentCmpFunc_2_uint64, 18, [.t 8], [], [], []⟩
def k_slices_choosePivotCmpFunc_2_uint64 : ACode := (.seq (.reg [xS 8 (.mv (xI 0) false), xS 9 (.mv (xI 0) false)] [0, 1, 2, 3]) (.seq (.reg [xT 15 2, xF 16 1, xS 17 (.bin .sub .int (.t 15) (.t 16)), xT 10 17] [0, 1, 3, 10]) (.seq (.reg [xS 11 (.alloc [(.int .i64 0)])] [0, 1, 3, 10, 11]) (.seq (.reg [xF 18 1, xF 19 10, xS 20 (.bin .quo .int (.t 19) (xI 4)), xS 21 (.bin .mul .int (.t 20) (xI 1)), xS 22 (.bin .add .int (.t 18) (.t 21)), xT 12 22] [0, 1, 3, 10, 11, 12]) (.seq (.reg [xF 23 1, xF 24 10, xS 25 (.bin .quo .int (.t 24) (xI 4)), xS 26 (.bin .mul .int (.t 25) (xI 2)), xS 27 (.bin .add .int (.t 23) (.t 26)), xT 13 27] [0, 1, 3, 10, 11, 12, 13]) (.seq (.reg [xT 28 1, xF 29 10, xS 30 (.bin .quo .int (.t 29) (xI 4)), xS 31 (.bin .mul .int (.t 30) (xI 3)), xS 32 (.bin .add .int (.t 28) (.t 31)), xT 14 32] [0, 3, 10, 11, 12, 13, 14]) (.seq (.seq (.reg [xF 33 10, xS 34 (.bin .geq .int (.t 33) (xI 8))] [0, 3, 10, 11, 12, 13, 14, 34]) (.cond (.t 34)
 (.seq (.seq (.reg [xT 35 10, xS 36 (.bin .geq .int (.t 35) (xI 50))] [0, 3, 11, 12, 13, 14, 36]) (.cond (.t 36)
 (.seq (.reg [xF 37 0, xT 38 12, xF 39 3, xS 40 (.callh f_slices_medianAdjacentCmpFunc_2_uint64 [(.t 37), (.t 38), (.t 11), (.t 39)]), xT 12 40] [0, 3, 11, 12, 13, 14]) (.seq (.reg [xF 41 0, xT 42 13, xF 43 3, xS 44 (.callh f_slices_medianAdjacentCmpFunc_2_uint64 [(.t 41), (.t 42), (.t 11), (.t 43)]), xT 13 44] [0, 3, 11, 12, 13, 14]) (.reg [xF 45 0, xT 46 14, xF 47 3, xS 48 (.callh f_slices_medianAdjacentCmpFunc_2_uint64 [(.t 45), (.t 46), (.t 11), (.t 47)]), xT 14 48] [0, 3, 11, 12, 13, 14])))
 .skip)) (.reg [xT 49 0, xT 50 12, xT 51 13, xT 52 14, xT 53 3, xS 54 (.callh f_slices_medianCmpFunc_2_uint64 [(.t 49), (.t 50), (.t 51), (.t 52), (.t 11), (.t 53)]), xT 13 54] [11, 13]))
 .skip)) (.seq (.reg [xS 55 (.load 0 (.t 11))] [13, 55]) (.block 0 (.seq (.reg [xS 58 (.bin .eql .int (.t 55) (xI 0)), xT 57 58] [13, 55, 57]) (.cond (.t 57)
 (.seq (.reg [xT 59 13, xT 8 59, xS 9 (.mv (xI 1) false)] [8, 9]) .ret)
 (.seq (.reg [xS 61 (.bin .eql .int (.t 55) (xI 12)), xT 60 61] [13, 60]) (.cond (.t 60)
 (.seq (.reg [xT 62 13, xT 8 62, xS 9 (.mv (xI 2) false)] [8, 9]) .ret)
 (.seq (.reg [xT 56 13, xT 8 56, xS 9 (.mv (xI 0) false)] [8, 9]) .ret))))))))))))))
def c_slices_choosePivotCmpFunc_2_uint64 : AFunc := ⟨k_slices_choosePivotCmpFunc_2_uint64, 63, [.t 8, .t 9], [], [], []⟩
def bl_slices_reverseRangeCmpFunc_2_uint64_0 : ACode := (.seq (.seq (.reg [xF 13 8, xF 14 9, xS 15 (.bin .lss .int (.t 13) (.t 14))] [0, 8, 9, 15]) (.cond (.t 15)
 .skip
 (.exit 0))) (.block 1 (.seq (.regd [xF 16 0, xF 17 8, xF 18 0, xF 19 9, xF 20 0, xF 21 9, xS 22 (.ia (.sl 2) (.t 20) (.t 21)), xS 23 (.load 2 (.t 22)), xF 24 0, xF 25 8, xS 26 (.ia (.sl 2) (.t 24) (.t 25)), xS 27 (.load 2 (.t 26)), xS 28 (.ia (.sl 2) (.t 16) (.t 17)), ⟨none, .store 2 (.t 28) (.t 23), none⟩, xS 29 (.ia (.sl 2) (.t 18) (.t 19)), ⟨none, .store 2 (.t 29) (.t 27), none⟩] [0, 8, 9] ([], []) []) (.seq (.reg [xT 30 8, xS 31 (.bin .add .int (.t 30) (xI 1)), xT 8 31] [0, 8, 9]) (.reg [xT 32 9, xS 33 (.bin .sub .int (.t 32) (xI 1)), xT 9 33] [0, 8, 9])))))
def l_slices_reverseRangeCmpFunc_2_uint64_0 : ACode := .loop [0, 8, 9] [] bl_slices_reverseRangeCmpFunc_2_uint64_0
theorem L_slices_reverseRangeCmpFunc_2_uint64_0 {T : Table} (ks : List Kt) (e : Env) (h : Heap) (Q : Ex → Env → Heap → Prop) : Xc T l_slices_reverseRangeCmpFunc_2_uint64_0 ks e h Q = Xc T bl_slices_reverseRangeCmpFunc_2_uint64_0 (.seq l_slices_reverseRangeCmpFunc_2_uint64_0 :: ks) (e.keep [0, 8, 9]) h Q := Xc_loop ks _ e h Q _ _
def k_slices_reverseRangeCmpFunc_2_uint64 : ACode := (.seq (.reg [xT 10 1, xT 8 10] [0, 2, 8]) (.seq (.reg [xT 11 2, xS 12 (.bin .sub .int (.t 11) (xI 1)), xT 9 12] [0, 8, 9]) (.block 0 l_slices_reverseRangeCmpFunc_2_uint64_0)))
def c_slices_reverseRangeCmpFunc_2_uint64 : AFunc := ⟨k_slices_reverseRangeCmpFunc_2_uint64, 34, [], [], [], []⟩
def bl_slices_partialInsertionSortCmpFunc_2_uint64_0 : ACode := (.seq (.seq (.regd [xF 19 9, xF 20 2, xS 21 (.bin .lss .int (.t 19) (.t 20)), xF 22 21, xG 23 22 true (.mv (.t 3) false), xG 24 22 true (.mv (.t 0) false), xG 25 22 true (.mv (.t 9) false), xG 26 22 true (.ia (.sl 2) (.t 24) (.t 25)), xG 27 22 true (.load 2 (.t 26)), xG 28 22 true (.mv (.t 0) false), xG 29 22 true (.mv (.t 9) false), xG 30 22 true (.bin .sub .int (.t 29) (xI 1)), xG 31 22 true (.ia (.sl 2) (.t 28) (.t 30)), xG 32 22 true (.load 2 (.t 31)), xG 33 22 true (.callv (.t 23) [(.t 27), (.t 32)]), xG 34 22 true (.bin .lss .int (.t 33) (xI 0)), xG 35 22 true (.un .not (.t 34)), xS 36 (.pick (.t 22) (.t 35) (.c (.bool false)))] [0, 1, 2, 3, 9, 10, 36] ([], []) []) (.cond (.t 36)
 .skip
 (.exit 2))) (.block 3 (.reg [xT 37 9, xS 38 (.bin .add .int (.t 37) (xI 1)), xT 9 38] [0, 1, 2, 3, 9, 10])))
def l_slices_partialInsertionSortCmpFunc_2_uint64_0 : ACode := .loop [0, 1, 2, 3, 9, 10] [] bl_slices_partialInsertionSortCmpFunc_2_uint64_0
theorem L_slices_partialInsertionSortCmpFunc_2_uint64_0 {T : Table} (ks : List Kt) (e : Env) (h : Heap) (Q : Ex → Env → Heap → Prop) : Xc T l_slices_partialInsertionSortCmpFunc_2_uint64_0 ks e h Q = Xc T bl_slices_partialInsertionSortCmpFunc_2_uint64_0 (.seq l_slices_partialInsertionSortCmpFunc_2_uint64_0 :: ks) (e.keep [0, 1, 2, 3, 9, 10]) h Q := Xc_loop ks _ e h Q _ _
def bl_slices_partialInsertionSortCmpFunc_2_uint64_1 : ACode := (.seq (.seq (.reg [xF 68 11, xS 69 (.bin .geq .int (.t 68) (xI 1))] [0, 1, 2, 3, 9, 10, 11, 69]) (.cond (.t 69)
 .skip
 (.exit 4))) (.seq (.block 5 (.seq (.seq (.regd [xF 72 3, xF 73 0, xF 74 11, xS 75 (.ia (.sl 2) (.t 73) (.t 74)), xS 76 (.load 2 (.t 75)), xF 77 0, xF 78 11, xS 79 (.bin .sub .int (.t 78) (xI 1)), xS 80 (.ia (.sl 2) (.t 77) (.t 79)), xS 81 (.load 2 (.t 80)), xS 82 (.callv (.t 72) [(.t 76), (.t 81)]), xS 83 (.bin .lss .int (.t 82) (xI 0)), xS 84 (.un .not (.t 83))] [0, 1, 2, 3, 9, 10, 11, 84] ([], []) []) (.cond (.t 84)
 (.exit 4)
 .skip)) (.regd [xF 85 0, xF 86 11, xF 87 0, xF 88 11, xS 89 (.bin .sub .int (.t 88) (xI 1)), xF 90 0, xF 91 11, xS 92 (.bin .sub .int (.t 91) (xI 1)), xS 93 (.ia (.sl 2) (.t 90) (.t 92)), xS 94 (.load 2 (.t 93)), xF 95 0, xF 96 11, xS 97 (.ia (.sl 2) (.t 95) (.t 96)), xS 98 (.load 2 (.t 97)), xS 99 (.ia (.sl 2) (.t 85) (.t 86)), ⟨none, .store 2 (.t 99) (.t 94), none⟩, xS 100 (.ia (.sl 2) (.t 87) (.t 89)), ⟨none, .store 2 (.t 100) (.t 98), none⟩] [0, 1, 2, 3, 9, 10, 11] ([], []) []))) (.reg [xT 70 11, xS 71 (.bin .sub .int (.t 70) (xI 1)), xT 11 71] [0, 1, 2, 3, 9, 10, 11])))
def l_slices_partialInsertionSortCmpFunc_2_uint64_1 : ACode := .loop [0, 1, 2, 3, 9, 10, 11] [] bl_slices_partialInsertionSortCmpFunc_2_uint64_1
theorem L_slices_partialInsertionSortCmpFunc_2_uint64_1 {T : Table} (ks : List Kt) (e : Env) (h : Heap) (Q : Ex → Env → Heap → Prop) : Xc T l_slices_partialInsertionSortCmpFunc_2_uint64_1 ks e h Q = Xc T bl_slices_partialInsertionSortCmpFunc_2_uint64_1 (.seq l_slices_partialInsertionSortCmpFunc_2_uint64_1 :: ks) (e.keep [0, 1, 2, 3, 9, 10, 11]) h Q := Xc_loop ks _ e h Q _ _
def bl_slices_partialInsertionSortCmpFunc_2_uint64_2 : ACode := (.seq (.seq (.reg [xF 107 12, xF 108 2, xS 109 (.bin .lss .int (.t 107) (.t 108))] [0, 1, 2, 3, 9, 10, 12, 109]) (.cond (.t 109)
 .skip
 (.exit 6))) (.seq (.block 7 (.seq (.seq (.regd [xF 112 3, xF 113 0, xF 114 12, xS 115 (.ia (.sl 2) (.t 113) (.t 114)), xS 116 (.load 2 (.t 115)), xF 117 0, xF 118 12, xS 119 (.bin .sub .int (.t 118) (xI 1)), xS 120 (.ia (.sl 2) (.t 117) (.t 119)), xS 121 (.load 2 (.t 120)), xS 122 (.callv (.t 112) [(.t 116), (.t 121)]), xS 123 (.bin .lss .int (.t 122) (xI 0)), xS 124 (.un .not (.t 123))] [0, 1, 2, 3, 9, 10, 12, 124] ([], []) []) (.cond (.t 124)
 (.exit 6)
 .skip)) (.regd [xF 125 0, xF 126 12, xF 127 0, xF 128 12, xS 129 (.bin .sub .int (.t 128) (xI 1)), xF 130 0, xF 131 12, xS 132 (.bin .sub .int (.t 131) (xI 1)), xS 133 (.ia (.sl 2) (.t 130) (.t 132)), xS 134 (.load 2 (.t 133)), xF 135 0, xF 136 12, xS 137 (.ia (.sl 2) (.t 135) (.t 136)), xS 138 (.load 2 (.t 137)), xS 139 (.ia (.sl 2) (.t 125) (.t 126)), ⟨none, .store 2 (.t 139) (.t 134), none⟩, xS 140 (.ia (.sl 2) (.t 127) (.t 129)), ⟨none, .store 2 (.t 140) (.t 138), none⟩] [0, 1, 2, 3, 9, 10, 12] ([], []) []))) (.reg [xT 110 12, xS 111 (.bin .add .int (.t 110) (xI 1)), xT 12 111] [0, 1, 2, 3, 9, 10, 12])))
def l_slices_partialInsertionSortCmpFunc_2_uint64_2 : ACode := .loop [0, 1, 2, 3, 9, 10, 12] [] bl_slices_partialInsertionSortCmpFunc_2_uint64_2
theorem L_slices_partialInsertionSortCmpFunc_2_uint64_2 {T : Table} (ks : List Kt) (e : Env) (h : Heap) (Q : Ex → Env → Heap → Prop) : Xc T l_slices_partialInsertionSortCmpFunc_2_uint64_2 ks e h Q = Xc T bl_slices_partialInsertionSortCmpFunc_2_uint64_2 (.seq l_slices_partialInsertionSortCmpFunc_2_uint64_2 :: ks) (e.keep [0, 1, 2, 3, 9, 10, 12]) h Q := Xc_loop ks _ e h Q _ _
def bl_slices_partialInsertionSortCmpFunc_2_uint64_3 : ACode := (.seq (.seq (.reg [xF 15 10, xS 16 (.bin .lss .int (.t 15) (xI 5))] [0, 1, 2, 3, 9, 10, 16]) (.cond (.t 16)
 .skip
 (.exit 0))) (.seq (.block 1 (.seq (.block 2 l_slices_partialInsertionSortCmpFunc_2_uint64_0) (.seq (.seq (.reg [xF 39 9, xF 40 2, xS 41 (.bin .eql .int (.t 39) (.t 40))] [0, 1, 2, 3, 9, 10, 41]) (.cond (.t 41)
 (.seq (.reg [xS 8 (.mv (.c (.bool true)) false)] [8]) .ret)
 .skip)) (.seq (.seq (.reg [xF 42 2, xF 43 1, xS 44 (.bin .sub .int (.t 42) (.t 43)), xS 45 (.bin .lss .int (.t 44) (xI 50))] [0, 1, 2, 3, 9, 10, 45]) (.cond (.t 45)
 (.seq (.reg [xS 8 (.mv (.c (.bool false)) false)] [8]) .ret)
 .skip)) (.seq (.regd [xF 46 0, xF 47 9, xF 48 0, xF 49 9, xS 50 (.bin .sub .int (.t 49) (xI 1)), xF 51 0, xF 52 9, xS 53 (.bin .sub .int (.t 52) (xI 1)), xS 54 (.ia (.sl 2) (.t 51) (.t 53)), xS 55 (.load 2 (.t 54)), xF 56 0, xF 57 9, xS 58 (.ia (.sl 2) (.t 56) (.t 57)), xS 59 (.load 2 (.t 58)), xS 60 (.ia (.sl 2) (.t 46) (.t 47)), ⟨none, .store 2 (.t 60) (.t 55), none⟩, xS 61 (.ia (.sl 2) (.t 48) (.t 50)), ⟨none, .store 2 (.t 61) (.t 59), none⟩] [0, 1, 2, 3, 9, 10] ([], []) []) (.seq (.seq (.reg [xF 62 9, xF 63 1, xS 64 (.bin .sub .int (.t 62) (.t 63)), xS 65 (.bin .geq .int (.t 64) (xI 2))] [0, 1, 2, 3, 9, 10, 65]) (.cond (.t 65)
 (.seq (.reg [xF 66 9, xS 67 (.bin .sub .int (.t 66) (xI 1)), xT 11 67] [0, 1, 2, 3, 9, 10, 11]) (.block 4 l_slices_partialInsertionSortCmpFunc_2_uint64_1))
 .skip)) (.seq (.reg [xF 101 2, xF 102 9, xS 103 (.bin .sub .int (.t 101) (.t 102)), xS 104 (.bin .geq .int (.t 103) (xI 2))] [0, 1, 2, 3, 9, 10, 104]) (.cond (.t 104)
 (.seq (.reg [xF 105 9, xS 106 (.bin .add .int (.t 105) (xI 1)), xT 12 106] [0, 1, 2, 3, 9, 10, 12]) (.block 6 l_slices_partialInsertionSortCmpFunc_2_uint64_2))
 .skip)))))))) (.reg [xT 17 10, xS 18 (.bin .add .int (.t 17) (xI 1)), xT 10 18] [0, 1, 2, 3, 9, 10])))
def l_slices_partialInsertionSortCmpFunc_2_uint64_3 : ACode := .loop [0, 1, 2, 3, 9, 10] [] bl_slices_partialInsertionSortCmpFunc_2_uint64_3
theorem L_slices_partialInsertionSortCmpFunc_2_uint64_3 {T : Table} (ks : List Kt) (e : Env) (h : Heap) (Q : Ex → Env → Heap → Prop) : Xc T l_slices_partialInsertionSortCmpFunc_2_uint64_3 ks e h Q = Xc T bl_slices_partialInsertionSortCmpFunc_2_uint64_3 (.seq l_slices_partialInsertionSortCmpFunc_2_uint64_3 :: ks) (e.keep [0, 1, 2, 3, 9, 10]) h Q := Xc_loop ks _ e h Q _ _
def k_slices_partialInsertionSortCmpFunc_2_uint64 : ACode := (.seq (.reg [xS 8 (.mv (.c (.bool false)) false)] [0, 1, 2, 3]) (.seq (.reg [xF 13 1, xS 14 (.bin .add .int (.t 13) (xI 1)), xT 9 14] [0, 1, 2, 3, 9]) (.seq (.seq (.reg [xS 10 (.mv (xI 0) false)] [0, 1, 2, 3, 9, 10]) (.block 0 l_slices_partialInsertionSortCmpFunc_2_uint64_3)) (.seq (.reg [xS 8 (.mv (.c (.bool false)) false)] [8]) .ret))))
def c_slices_partialInsertionSortCmpFunc_2_uint64 : AFunc := ⟨k_slices_partialInsertionSortCmpFunc_2_uint64, 141, [.t 8], [], [], []⟩
def bl_slices_partitionEqualCmpFunc_2_uint64_0 : ACode := (.seq (.seq (.regd [xF 31 11, xF 32 12, xS 33 (.bin .leq .int (.t 31) (.t 32)), xF 34 33, xG 35 34 true (.mv (.t 4) false), xG 36 34 true (.mv (.t 0) false), xG 37 34 true (.mv (.t 1) false), xG 38 34 true (.ia (.sl 2) (.t 36) (.t 37)), xG 39 34 true (.load 2 (.t 38)), xG 40 34 true (.mv (.t 0) false), xG 41 34 true (.mv (.t 11) false), xG 42 34 true (.ia (.sl 2) (.t 40) (.t 41)), xG 43 34 true (.load 2 (.t 42)), xG 44 34 true (.callv (.t 35) [(.t 39), (.t 43)]), xG 45 34 true (.bin .lss .int (.t 44) (xI 0)), xG 46 34 true (.un .not (.t 45)), xS 47 (.pick (.t 34) (.t 46) (.c (.bool false)))] [0, 1, 4, 11, 12, 47] ([], []) []) (.cond (.t 47)
 .skip
 (.exit 2))) (.block 3 (.reg [xT 48 11, xS 49 (.bin .add .int (.t 48) (xI 1)), xT 11 49] [0, 1, 4, 11, 12])))
def l_slices_partitionEqualCmpFunc_2_uint64_0 : ACode := .loop [0, 1, 4, 11, 12] [] bl_slices_partitionEqualCmpFunc_2_uint64_0
theorem L_slices_partitionEqualCmpFunc_2_uint64_0 {T : Table} (ks : List Kt) (e : Env) (h : Heap) (Q : Ex → Env → Heap → Prop) : Xc T l_slices_partitionEqualCmpFunc_2_uint64_0 ks e h Q = Xc T bl_slices_partitionEqualCmpFunc_2_uint64_0 (.seq l_slices_partitionEqualCmpFunc_2_uint64_0 :: ks) (e.keep [0, 1, 4, 11, 12]) h Q := Xc_loop ks _ e h Q _ _
def bl_slices_partitionEqualCmpFunc_2_uint64_1 : ACode := (.seq (.seq (.regd [xF 50 11, xF 51 12, xS 52 (.bin .leq .int (.t 50) (.t 51)), xF 53 52, xG 54 53 true (.mv (.t 4) false), xG 55 53 true (.mv (.t 0) false), xG 56 53 true (.mv (.t 1) false), xG 57 53 true (.ia (.sl 2) (.t 55) (.t 56)), xG 58 53 true (.load 2 (.t 57)), xG 59 53 true (.mv (.t 0) false), xG 60 53 true (.mv (.t 12) false), xG 61 53 true (.ia (.sl 2) (.t 59) (.t 60)), xG 62 53 true (.load 2 (.t 61)), xG 63 53 true (.callv (.t 54) [(.t 58), (.t 62)]), xG 64 53 true (.bin .lss .int (.t 63) (xI 0)), xS 65 (.pick (.t 53) (.t 64) (.c (.bool false)))] [0, 1, 4, 11, 12, 65] ([], []) []) (.cond (.t 65)
 .skip
 (.exit 4))) (.block 5 (.reg [xT 66 12, xS 67 (.bin .sub .int (.t 66) (xI 1)), xT 12 67] [0, 1, 4, 11, 12])))
def l_slices_partitionEqualCmpFunc_2_uint64_1 : ACode := .loop [0, 1, 4, 11, 12] [] bl_slices_partitionEqualCmpFunc_2_uint64_1
theorem L_slices_partitionEqualCmpFunc_2_uint64_1 {T : Table} (ks : List Kt) (e : Env) (h : Heap) (Q : Ex → Env → Heap → Prop) : Xc T l_slices_partitionEqualCmpFunc_2_uint64_1 ks e h Q = Xc T bl_slices_partitionEqualCmpFunc_2_uint64_1 (.seq l_slices_partitionEqualCmpFunc_2_uint64_1 :: ks) (e.keep [0, 1, 4, 11, 12]) h Q := Xc_loop ks _ e h Q _ _
def bl_slices_partitionEqualCmpFunc_2_uint64_2 : ACode := (.block 1 (.seq (.block 2 l_slices_partitionEqualCmpFunc_2_uint64_0) (.seq (.block 4 l_slices_partitionEqualCmpFunc_2_uint64_1) (.seq (.seq (.reg [xF 68 11, xF 69 12, xS 70 (.bin .gtr .int (.t 68) (.t 69))] [0, 1, 4, 11, 12, 70]) (.cond (.t 70)
 (.exit 0)
 .skip)) (.seq (.regd [xF 71 0, xF 72 11, xF 73 0, xF 74 12, xF 75 0, xF 76 12, xS 77 (.ia (.sl 2) (.t 75) (.t 76)), xS 78 (.load 2 (.t 77)), xF 79 0, xF 80 11, xS 81 (.ia (.sl 2) (.t 79) (.t 80)), xS 82 (.load 2 (.t 81)), xS 83 (.ia (.sl 2) (.t 71) (.t 72)), ⟨none, .store 2 (.t 83) (.t 78), none⟩, xS 84 (.ia (.sl 2) (.t 73) (.t 74)), ⟨none, .store 2 (.t 84) (.t 82), none⟩] [0, 1, 4, 11, 12] ([], []) []) (.seq (.reg [xT 85 11, xS 86 (.bin .add .int (.t 85) (xI 1)), xT 11 86] [0, 1, 4, 11, 12]) (.reg [xT 87 12, xS 88 (.bin .sub .int (.t 87) (xI 1)), xT 12 88] [0, 1, 4, 11, 12])))))))
def l_slices_partitionEqualCmpFunc_2_uint64_2 : ACode := .loop [0, 1, 4, 11, 12] [] bl_slices_partitionEqualCmpFunc_2_uint64_2
theorem L_slices_partitionEqualCmpFunc_2_uint64_2 {T : Table} (ks : List Kt) (e : Env) (h : Heap) (Q : Ex → Env → Heap → Prop) : Xc T l_slices_partitionEqualCmpFunc_2_uint64_2 ks e h Q = Xc T bl_slices_partitionEqualCmpFunc_2_uint64_2 (.seq l_slices_partitionEqualCmpFunc_2_uint64_2 :: ks) (e.keep [0, 1, 4, 11, 12]) h Q := Xc_loop ks _ e h Q _ _
def k_slices_partitionEqualCmpFunc_2_uint64 : ACode := (.seq (.reg [xS 10 (.mv (xI 0) false)] [0, 1, 2, 3, 4]) (.seq (.regd [xF 13 0, xF 14 1, xF 15 0, xF 16 3, xF 17 0, xF 18 3, xS 19 (.ia (.sl 2) (.t 17) (.t 18)), xS 20 (.load 2 (.t 19)), xF 21 0, xF 22 1, xS 23 (.ia (.sl 2) (.t 21) (.t 22)), xS 24 (.load 2 (.t 23)), xS 25 (.ia (.sl 2) (.t 13) (.t 14)), ⟨none, .store 2 (.t 25) (.t 20), none⟩, xS 26 (.ia (.sl 2) (.t 15) (.t 16)), ⟨none, .store 2 (.t 26) (.t 24), none⟩] [0, 1, 2, 4] ([], []) []) (.seq (.reg [xF 27 1, xS 28 (.bin .add .int (.t 27) (xI 1)), xT 29 2, xS 30 (.bin .sub .int (.t 29) (xI 1)), xT 11 28, xT 12 30] [0, 1, 4, 11, 12]) (.seq (.block 0 l_slices_partitionEqualCmpFunc_2_uint64_2) (.seq (.reg [xT 89 11, xT 10 89] [10]) .ret)))))
def c_slices_partitionEqualCmpFunc_2_uint64 : AFunc := ⟨k_slices_partitionEqualCmpFunc_2_uint64, 90, [.t 10], [], [], []⟩
def bl_slices_partitionCmpFunc_2_uint64_0 : ACode := (.seq (.seq (.regd [xF 32 12, xF 33 13, xS 34 (.bin .leq .int (.t 32) (.t 33)), xF 35 34, xG 36 35 true (.mv (.t 4) false), xG 37 35 true (.mv (.t 0) false), xG 38 35 true (.mv (.t 12) false), xG 39 35 true (.ia (.sl 2) (.t 37) (.t 38)), xG 40 35 true (.load 2 (.t 39)), xG 41 35 true (.mv (.t 0) false), xG 42 35 true (.mv (.t 1) false), xG 43 35 true (.ia (.sl 2) (.t 41) (.t 42)), xG 44 35 true (.load 2 (.t 43)), xG 45 35 true (.callv (.t 36) [(.t 40), (.t 44)]), xG 46 35 true (.bin .lss .int (.t 45) (xI 0)), xS 47 (.pick (.t 35) (.t 46) (.c (.bool false)))] [0, 1, 4, 12, 13, 47] ([], []) []) (.cond (.t 47)
 .skip
 (.exit 0))) (.block 1 (.reg [xT 48 12, xS 49 (.bin .add .int (.t 48) (xI 1)), xT 12 49] [0, 1, 4, 12, 13])))
def l_slices_partitionCmpFunc_2_uint64_0 : ACode := .loop [0, 1, 4, 12, 13] [] bl_slices_partitionCmpFunc_2_uint64_0
theorem L_slices_partitionCmpFunc_2_uint64_0 {T : Table} (ks : List Kt) (e : Env) (h : Heap) (Q : Ex → Env → Heap → Prop) : Xc T l_slices_partitionCmpFunc_2_uint64_0 ks e h Q = Xc T bl_slices_partitionCmpFunc_2_uint64_0 (.seq l_slices_partitionCmpFunc_2_uint64_0 :: ks) (e.keep [0, 1, 4, 12, 13]) h Q := Xc_loop ks _ e h Q _ _
def bl_slices_partitionCmpFunc_2_uint64_1 : ACode := (.seq (.seq (.regd [xF 50 12, xF 51 13, xS 52 (.bin .leq .int (.t 50) (.t 51)), xF 53 52, xG 54 53 true (.mv (.t 4) false), xG 55 53 true (.mv (.t 0) false), xG 56 53 true (.mv (.t 13) false), xG 57 53 true (.ia (.sl 2) (.t 55) (.t 56)), xG 58 53 true (.load 2 (.t 57)), xG 59 53 true (.mv (.t 0) false), xG 60 53 true (.mv (.t 1) false), xG 61 53 true (.ia (.sl 2) (.t 59) (.t 60)), xG 62 53 true (.load 2 (.t 61)), xG 63 53 true (.callv (.t 54) [(.t 58), (.t 62)]), xG 64 53 true (.bin .lss .int (.t 63) (xI 0)), xG 65 53 true (.un .not (.t 64)), xS 66 (.pick (.t 53) (.t 65) (.c (.bool false)))] [0, 1, 4, 12, 13, 66] ([], []) []) (.cond (.t 66)
 .skip
 (.exit 2))) (.block 3 (.reg [xT 67 13, xS 68 (.bin .sub .int (.t 67) (xI 1)), xT 13 68] [0, 1, 4, 12, 13])))
def l_slices_partitionCmpFunc_2_uint64_1 : ACode := .loop [0, 1, 4, 12, 13] [] bl_slices_partitionCmpFunc_2_uint64_1
theorem L_slices_partitionCmpFunc_2_uint64_1 {T : Table} (ks : List Kt) (e : Env) (h : Heap) (Q : Ex → Env → Heap → Prop) : Xc T l_slices_partitionCmpFunc_2_uint64_1 ks e h Q = Xc T bl_slices_partitionCmpFunc_2_uint64_1 (.seq l_slices_partitionCmpFunc_2_uint64_1 :: ks) (e.keep [0, 1, 4, 12, 13]) h Q := Xc_loop ks _ e h Q _ _
def bl_slices_partitionCmpFunc_2_uint64_2 : ACode := (.seq (.seq (.regd [xF 105 12, xF 106 13, xS 107 (.bin .leq .int (.t 105) (.t 106)), xF 108 107, xG 109 108 true (.mv (.t 4) false), xG 110 108 true (.mv (.t 0) false), xG 111 108 true (.mv (.t 12) false), xG 112 108 true (.ia (.sl 2) (.t 110) (.t 111)), xG 113 108 true (.load 2 (.t 112)), xG 114 108 true (.mv (.t 0) false), xG 115 108 true (.mv (.t 1) false), xG 116 108 true (.ia (.sl 2) (.t 114) (.t 115)), xG 117 108 true (.load 2 (.t 116)), xG 118 108 true (.callv (.t 109) [(.t 113), (.t 117)]), xG 119 108 true (.bin .lss .int (.t 118) (xI 0)), xS 120 (.pick (.t 108) (.t 119) (.c (.bool false)))] [0, 1, 4, 12, 13, 120] ([], []) []) (.cond (.t 120)
 .skip
 (.exit 6))) (.block 7 (.reg [xT 121 12, xS 122 (.bin .add .int (.t 121) (xI 1)), xT 12 122] [0, 1, 4, 12, 13])))
def l_slices_partitionCmpFunc_2_uint64_2 : ACode := .loop [0, 1, 4, 12, 13] [] bl_slices_partitionCmpFunc_2_uint64_2
theorem L_slices_partitionCmpFunc_2_uint64_2 {T : Table} (ks : List Kt) (e : Env) (h : Heap) (Q : Ex → Env → Heap → Prop) : Xc T l_slices_partitionCmpFunc_2_uint64_2 ks e h Q = Xc T bl_slices_partitionCmpFunc_2_uint64_2 (.seq l_slices_partitionCmpFunc_2_uint64_2 :: ks) (e.keep [0, 1, 4, 12, 13]) h Q := Xc_loop ks _ e h Q _ _
def bl_slices_partitionCmpFunc_2_uint64_3 : ACode := (.seq (.seq (.regd [xF 123 12, xF 124 13, xS 125 (.bin .leq .int (.t 123) (.t 124)), xF 126 125, xG 127 126 true (.mv (.t 4) false), xG 128 126 true (.mv (.t 0) false), xG 129 126 true (.mv (.t 13) false), xG 130 126 true (.ia (.sl 2) (.t 128) (.t 129)), xG 131 126 true (.load 2 (.t 130)), xG 132 126 true (.mv (.t 0) false), xG 133 126 true (.mv (.t 1) false), xG 134 126 true (.ia (.sl 2) (.t 132) (.t 133)), xG 135 126 true (.load 2 (.t 134)), xG 136 126 true (.callv (.t 127) [(.t 131), (.t 135)]), xG 137 126 true (.bin .lss .int (.t 136) (xI 0)), xG 138 126 true (.un .not (.t 137)), xS 139 (.pick (.t 126) (.t 138) (.c (.bool false)))] [0, 1, 4, 12, 13, 139] ([], []) []) (.cond (.t 139)
 .skip
 (.exit 8))) (.block 9 (.reg [xT 140 13, xS 141 (.bin .sub .int (.t 140) (xI 1)), xT 13 141] [0, 1, 4, 12, 13])))
def l_slices_partitionCmpFunc_2_uint64_3 : ACode := .loop [0, 1, 4, 12, 13] [] bl_slices_partitionCmpFunc_2_uint64_3
theorem L_slices_partitionCmpFunc_2_uint64_3 {T : Table} (ks : List Kt) (e : Env) (h : Heap) (Q : Ex → Env → Heap → Prop) : Xc T l_slices_partitionCmpFunc_2_uint64_3 ks e h Q = Xc T bl_slices_partitionCmpFunc_2_uint64_3 (.seq l_slices_partitionCmpFunc_2_uint64_3 :: ks) (e.keep [0, 1, 4, 12, 13]) h Q := Xc_loop ks _ e h Q _ _
def bl_slices_partitionCmpFunc_2_uint64_4 : ACode := (.block 5 (.seq (.block 6 l_slices_partitionCmpFunc_2_uint64_2) (.seq (.block 8 l_slices_partitionCmpFunc_2_uint64_3) (.seq (.seq (.reg [xF 142 12, xF 143 13, xS 144 (.bin .gtr .int (.t 142) (.t 143))] [0, 1, 4, 12, 13, 144]) (.cond (.t 144)
 (.exit 4)
 .skip)) (.seq (.regd [xF 145 0, xF 146 12, xF 147 0, xF 148 13, xF 149 0, xF 150 13, xS 151 (.ia (.sl 2) (.t 149) (.t 150)), xS 152 (.load 2 (.t 151)), xF 153 0, xF 154 12, xS 155 (.ia (.sl 2) (.t 153) (.t 154)), xS 156 (.load 2 (.t 155)), xS 157 (.ia (.sl 2) (.t 145) (.t 146)), ⟨none, .store 2 (.t 157) (.t 152), none⟩, xS 158 (.ia (.sl 2) (.t 147) (.t 148)), ⟨none, .store 2 (.t 158) (.t 156), none⟩] [0, 1, 4, 12, 13] ([], []) []) (.seq (.reg [xT 159 12, xS 160 (.bin .add .int (.t 159) (xI 1)), xT 12 160] [0, 1, 4, 12, 13]) (.reg [xT 161 13, xS 162 (.bin .sub .int (.t 161) (xI 1)), xT 13 162] [0, 1, 4, 12, 13])))))))
def l_slices_partitionCmpFunc_2_uint64_4 : ACode := .loop [0, 1, 4, 12, 13] [] bl_slices_partitionCmpFunc_2_uint64_4
theorem L_slices_partitionCmpFunc_2_uint64_4 {T : Table} (ks : List Kt) (e : Env) (h : Heap) (Q : Ex → Env → Heap → Prop) : Xc T l_slices_partitionCmpFunc_2_uint64_4 ks e h Q = Xc T bl_slices_partitionCmpFunc_2_uint64_4 (.seq l_slices_partitionCmpFunc_2_uint64_4 :: ks) (e.keep [0, 1, 4, 12, 13]) h Q := Xc_loop ks _ e h Q _ _
def k_slices_partitionCmpFunc_2_uint64 : ACode := (.seq (.reg [xS 10 (.mv (xI 0) false), xS 11 (.mv (.c (.bool false)) false)] [0, 1, 2, 3, 4]) (.seq (.regd [xF 14 0, xF 15 1, xF 16 0, xF 17 3, xF 18 0, xF 19 3, xS 20 (.ia (.sl 2) (.t 18) (.t 19)), xS 21 (.load 2 (.t 20)), xF 22 0, xF 23 1, xS 24 (.ia (.sl 2) (.t 22) (.t 23)), xS 25 (.load 2 (.t 24)), xS 26 (.ia (.sl 2) (.t 14) (.t 15)), ⟨none, .store 2 (.t 26) (.t 21), none⟩, xS 27 (.ia (.sl 2) (.t 16) (.t 17)), ⟨none, .store 2 (.t 27) (.t 25), none⟩] [0, 1, 2, 4] ([], []) []) (.seq (.reg [xF 28 1, xS 29 (.bin .add .int (.t 28) (xI 1)), xT 30 2, xS 31 (.bin .sub .int (.t 30) (xI 1)), xT 12 29, xT 13 31] [0, 1, 4, 12, 13]) (.seq (.block 0 l_slices_partitionCmpFunc_2_uint64_0) (.seq (.block 2 l_slices_partitionCmpFunc_2_uint64_1) (.seq (.seq (.reg [xF 69 12, xF 70 13, xS 71 (.bin .gtr .int (.t 69) (.t 70))] [0, 1, 4, 12, 13, 71]) (.cond (.t 71)
 (.seq (.regd [xF 72 0, xF 73 13, xF 74 0, xF 75 1, xF 76 0, xF 77 1, xS 78 (.ia (.sl 2) (.t 76) (.t 77)), xS 79 (.load 2 (.t 78)), xF 80 0, xF 81 13, xS 82 (.ia (.sl 2) (.t 80) (.t 81)), xS 83 (.load 2 (.t 82)), xS 84 (.ia (.sl 2) (.t 72) (.t 73)), ⟨none, .store 2 (.t 84) (.t 79), none⟩, xS 85 (.ia (.sl 2) (.t 74) (.t 75)), ⟨none, .store 2 (.t 85) (.t 83), none⟩] [13] ([], []) []) (.seq (.reg [xT 86 13, xT 10 86, xS 11 (.mv (.c (.bool true)) false)] [10, 11]) .ret))
 .skip)) (.seq (.regd [xF 87 0, xF 88 12, xF 89 0, xF 90 13, xF 91 0, xF 92 13, xS 93 (.ia (.sl 2) (.t 91) (.t 92)), xS 94 (.load 2 (.t 93)), xF 95 0, xF 96 12, xS 97 (.ia (.sl 2) (.t 95) (.t 96)), xS 98 (.load 2 (.t 97)), xS 99 (.ia (.sl 2) (.t 87) (.t 88)), ⟨none, .store 2 (.t 99) (.t 94), none⟩, xS 100 (.ia (.sl 2) (.t 89) (.t 90)), ⟨none, .store 2 (.t 100) (.t 98), none⟩] [0, 1, 4, 12, 13] ([], []) []) (.seq (.reg [xT 101 12, xS 102 (.bin .add .int (.t 101) (xI 1)), xT 12 102] [0, 1, 4, 12, 13]) (.seq (.reg [xT 103 13, xS 104 (.bin .sub .int (.t 103) (xI 1)), xT 13 104] [0, 1, 4, 12, 13]) (.seq (.block 4 l_slices_partitionCmpFunc_2_uint64_4) (.seq (.regd [xF 163 0, xF 164 13, xF 165 0, xF 166 1, xF 167 0, xF 168 1, xS 169 (.ia (.sl 2) (.t 167) (.t 168)), xS 170 (.load 2 (.t 169)), xF 171 0, xF 172 13, xS 173 (.ia (.sl 2) (.t 171) (.t 172)), xS 174 (.load 2 (.t 173)), xS 175 (.ia (.sl 2) (.t 163) (.t 164)), ⟨none, .store 2 (.t 175) (.t 170), none⟩, xS 176 (.ia (.sl 2) (.t 165) (.t 166)), ⟨none, .store 2 (.t 176) (.t 174), none⟩] [13] ([], []) []) (.seq (.reg [xT 177 13, xT 10 177, xS 11 (.mv (.c (.bool false)) false)] [10, 11]) .ret))))))))))))
def c_slices_partitionCmpFunc_2_uint64 : AFunc := ⟨k_slices_partitionCmpFunc_2_uint64, 178, [.t 10, .t 11], [], [], []⟩
def bl_slices_pdqsortCmpFunc_2_uint64_0 : ACode := (.block 1 (.seq (.reg [xF 21 2, xF 22 1, xS 23 (.bin .sub .int (.t 21) (.t 22)), xT 12 23] [0, 1, 2, 3, 4, 10, 11, 12]) (.seq (.seq (.reg [xF 24 12, xS 25 (.bin .leq .int (.t 24) (xI 12))] [0, 1, 2, 3, 4, 10, 11, 12, 25]) (.cond (.t 25)
 (.seq (.reg [xT 26 0, xT 27 1, xT 28 2, xT 29 4, xS 30 (.callh f_slices_insertionSortCmpFunc_2_uint64 [(.t 26), (.t 27), (.t 28), (.t 29)])] []) .ret)
 .skip)) (.seq (.seq (.reg [xF 31 3, xS 32 (.bin .eql .int (.t 31) (xI 0))] [0, 1, 2, 3, 4, 10, 11, 12, 32]) (.cond (.t 32)
 (.seq (.reg [xT 33 0, xT 34 1, xT 35 2, xT 36 4, xS 37 (.callh f_slices_heapSortCmpFunc_2_uint64 [(.t 33), (.t 34), (.t 35), (.t 36)])] []) .ret)
 .skip)) (.seq (.seq (.reg [xF 38 10, xS 39 (.un .not (.t 38))] [0, 1, 2, 3, 4, 10, 11, 12, 39]) (.cond (.t 39)
 (.seq (.reg [xF 40 0, xF 41 1, xF 42 2, xF 43 4, xS 44 (.callh f_slices_breakPatternsCmpFunc_2_uint64 [(.t 40), (.t 41), (.t 42), (.t 43)])] [0, 1, 2, 3, 4, 10, 11, 12]) (.reg [xT 45 3, xS 46 (.bin .sub .int (.t 45) (xI 1)), xT 3 46] [0, 1, 2, 3, 4, 10, 11, 12]))
 .skip)) (.seq (.reg [xF 48 0, xF 49 1, xF 50 2, xF 51 4, xS 52 (.callh f_slices_choosePivotCmpFunc_2_uint64 [(.t 48), (.t 49), (.t 50), (.t 51)]), xT 47 52, xE 53 47 0, xE 54 47 1, xT 13 53, xT 14 54] [0, 1, 2, 3, 4, 10, 11, 12, 13, 14]) (.seq (.seq (.reg [xF 55 14, xS 56 (.bin .eql .int (.t 55) (xI 2))] [0, 1, 2, 3, 4, 10, 11, 12, 13, 14, 56]) (.cond (.t 56)
 (.seq (.reg [xF 57 0, xF 58 1, xF 59 2, xF 60 4, xS 61 (.callh f_slices_reverseRangeCmpFunc_2_uint64 [(.t 57), (.t 58), (.t 59), (.t 60)])] [0, 1, 2, 3, 4, 10, 11, 12, 13]) (.seq (.reg [xF 62 2, xS 63 (.bin .sub .int (.t 62) (xI 1)), xT 64 13, xF 65 1, xS 66 (.bin .sub .int (.t 64) (.t 65)), xS 67 (.bin .sub .int (.t 63) (.t 66)), xT 13 67] [0, 1, 2, 3, 4, 10, 11, 12, 13]) (.reg [xS 14 (.mv (xI 1) false)] [0, 1, 2, 3, 4, 10, 11, 12, 13, 14])))
 .skip)) (.seq (.seq (.reg [xF 68 10, xT 69 68, xG 70 69 true (.mv (.t 11) false), xS 71 (.pick (.t 69) (.t 70) (.c (.bool false))), xT 72 71, xG 73 72 true (.mv (.t 14) true), xG 74 72 true (.bin .eql .int (.t 73) (xI 1)), xS 75 (.pick (.t 72) (.t 74) (.c (.bool false)))] [0, 1, 2, 3, 4, 10, 11, 12, 13, 75]) (.cond (.t 75)
 (.seq (.reg [xF 76 0, xF 77 1, xF 78 2, xF 79 4, xS 80 (.callh f_slices_partialInsertionSortCmpFunc_2_uint64 [(.t 76), (.t 77), (.t 78), (.t 79)])] [0, 1, 2, 3, 4, 10, 11, 12, 13, 80]) (.cond (.t 80)
 .ret
 .skip))
 .skip)) (.seq (.seq (.regd [xF 81 1, xS 82 (.bin .gtr .int (.t 81) (xI 0)), xF 83 82, xG 84 83 true (.mv (.t 4) false), xG 85 83 true (.mv (.t 0) false), xG 86 83 true (.mv (.t 1) false), xG 87 83 true (.bin .sub .int (.t 86) (xI 1)), xG 88 83 true (.ia (.sl 2) (.t 85) (.t 87)), xG 89 83 true (.load 2 (.t 88)), xG 90 83 true (.mv (.t 0) false), xG 91 83 true (.mv (.t 13) false), xG 92 83 true (.ia (.sl 2) (.t 90) (.t 91)), xG 93 83 true (.load 2 (.t 92)), xG 94 83 true (.callv (.t 84) [(.t 89), (.t 93)]), xG 95 83 true (.bin .lss .int (.t 94) (xI 0)), xG 96 83 true (.un .not (.t 95)), xS 97 (.pick (.t 83) (.t 96) (.c (.bool false)))] [0, 1, 2, 3, 4, 10, 11, 12, 13, 97] ([], []) []) (.cond (.t 97)
 (.seq (.reg [xF 98 0, xT 99 1, xF 100 2, xT 101 13, xF 102 4, xS 103 (.callh f_slices_partitionEqualCmpFunc_2_uint64 [(.t 98), (.t 99), (.t 100), (.t 101), (.t 102)]), xT 15 103] [0, 2, 3, 4, 10, 11, 15]) (.seq (.reg [xT 104 15, xT 1 104] [0, 1, 2, 3, 4, 10, 11]) (.exit 1)))
 .skip)) (.seq (.reg [xF 106 0, xF 107 1, xF 108 2, xT 109 13, xF 110 4, xS 111 (.callh f_slices_partitionCmpFunc_2_uint64 [(.t 106), (.t 107), (.t 108), (.t 109), (.t 110)]), xT 105 111, xE 112 105 0, xE 113 105 1, xT 16 112, xT 17 113] [0, 1, 2, 3, 4, 12, 16, 17]) (.seq (.reg [xT 114 17, xT 11 114] [0, 1, 2, 3, 4, 11, 12, 16]) (.seq (.reg [xF 115 16, xF 116 1, xS 117 (.bin .sub .int (.t 115) (.t 116)), xF 118 2, xF 119 16, xS 120 (.bin .sub .int (.t 118) (.t 119)), xT 18 117, xT 19 120] [0, 1, 2, 3, 4, 11, 12, 16, 18, 19]) (.seq (.reg [xT 121 12, xS 122 (.bin .quo .int (.t 121) (xI 8)), xT 20 122] [0, 1, 2, 3, 4, 11, 16, 18, 19, 20]) (.seq (.reg [xF 123 18, xF 124 19, xS 125 (.bin .lss .int (.t 123) (.t 124))] [0, 1, 2, 3, 4, 11, 16, 18, 19, 20, 125]) (.cond (.t 125)
 (.seq (.reg [xT 126 18, xT 127 20, xS 128 (.bin .geq .int (.t 126) (.t 127)), xT 10 128] [0, 1, 2, 3, 4, 10, 11, 16]) (.seq (.reg [xF 129 0, xT 130 1, xF 131 16, xF 132 3, xF 133 4, xS 134 (.callh f_slices_pdqsortCmpFunc_2_uint64 [(.t 129), (.t 130), (.t 131), (.t 132), (.t 133)])] [0, 2, 3, 4, 10, 11, 16]) (.reg [xT 135 16, xS 136 (.bin .add .int (.t 135) (xI 1)), xT 1 136] [0, 1, 2, 3, 4, 10, 11])))
 (.seq (.reg [xT 137 19, xT 138 20, xS 139 (.bin .geq .int (.t 137) (.t 138)), xT 10 139] [0, 1, 2, 3, 4, 10, 11, 16]) (.seq (.reg [xF 140 0, xF 141 16, xS 142 (.bin .add .int (.t 141) (xI 1)), xT 143 2, xF 144 3, xF 145 4, xS 146 (.callh f_slices_pdqsortCmpFunc_2_uint64 [(.t 140), (.t 142), (.t 143), (.t 144), (.t 145)])] [0, 1, 3, 4, 10, 11, 16]) (.reg [xT 147 16, xT 2 147] [0, 1, 2, 3, 4, 10, 11]))))))))))))))))))
def l_slices_pdqsortCmpFunc_2_uint64_0 : ACode := .loop [0, 1, 2, 3, 4, 10, 11] [] bl_slices_pdqsortCmpFunc_2_uint64_0
theorem L_slices_pdqsortCmpFunc_2_uint64_0 {T : Table} (ks : List Kt) (e : Env) (h : Heap) (Q : Ex → Env → Heap → Prop) : Xc T l_slices_pdqsortCmpFunc_2_uint64_0 ks e h Q = Xc T bl_slices_pdqsortCmpFunc_2_uint64_0 (.seq l_slices_pdqsortCmpFunc_2_uint64_0 :: ks) (e.keep [0, 1, 2, 3, 4, 10, 11]) h Q := Xc_loop ks _ e h Q _ _
def k_slices_pdqsortCmpFunc_2_uint64 : ACode := (.seq (.reg [xS 10 (.mv (.c (.bool true)) false)] [0, 1, 2, 3, 4, 10]) (.seq (.reg [xS 11 (.mv (.c (.bool true)) false)] [0, 1, 2, 3, 4, 10, 11]) (.block 0 l_slices_pdqsortCmpFunc_2_uint64_0)))
def c_slices_pdqsortCmpFunc_2_uint64 : AFunc := ⟨k_slices_pdqsortCmpFunc_2_uint64, 148, [], [], [], []⟩
def k_slices_SortFunc_2_uint64_2_uint64 : ACode := (.seq (.reg [xF 5 0, xS 6 (.len false (.t 5)), xT 4 6] [0, 1, 4]) (.reg [xT 7 0, xF 8 4, xT 9 4, xS 10 (.conv (.i .u64) (.t 9)), xS 11 (.callp f_math_bits_Len [(.t 10)] []), xT 12 1, xS 13 (.callh f_slices_pdqsortCmpFunc_2_uint64 [(.t 7), (xI 0), (.t 8), (.t 11), (.t 12)])] []))
def c_slices_SortFunc_2_uint64_2_uint64 : AFunc := ⟨k_slices_SortFunc_2_uint64_2_uint64, 14, [], [], [], []⟩
def bl_resend_Merge_0 : ACode := (.seq (.reg [xS 16 (.bin .lss .int (.t 15) (.t 14))] [4, 13, 14, 15, 16]) (.seq (.cond (.t 16)
 .skip
 (.exit 0)) (.seq (.block 1 (.seq (.reg [xS 17 (.ia (.sl 2) (.t 13) (.t 15)), xS 18 (.load 2 (.t 17)), xS 6 (.alloc [(.int .u64 0), (.int .u64 0)]), ⟨none, .store 2 (.t 6) (.t 18), none⟩] [4, 6, 13, 14, 15]) (.seq (.reg [xF 19 4, xS 20 (.len false (.t 19)), xS 21 (.bin .sub .int (.t 20) (xI 1)), xT 7 21] [4, 6, 7, 13, 14, 15]) (.seq (.seq (.regd [xF 22 7, xS 23 (.bin .geq .int (.t 22) (xI 0)), xF 24 23, xG 25 24 true (.ia (.arr 2 1) (.t 6) (xI 0)), xG 26 24 true (.load 0 (.t 25)), xG 27 24 true (.mv (.t 4) false), xG 28 24 true (.mv (.t 7) false), xG 29 24 true (.ia (.sl 2) (.t 27) (.t 28)), xG 30 24 true (.ia (.arr 2 1) (.t 29) (xI 1)), xG 31 24 true (.load 0 (.t 30)), xG 32 24 true (.bin .leq .int (.t 26) (.t 31)), xG 33 24 true (.mv (.t 32) false), xG 34 33 false (.ia (.arr 2 1) (.t 6) (xI 0)), xG 35 33 false (.load 0 (.t 34)), xG 36 33 false (.bin .sub .int (.t 35) (.c (.int .u64 1))), xG 37 33 false (.mv (.t 4) false), xG 38 33 false (.mv (.t 7) false), xG 39 33 false (.ia (.sl 2) (.t 37) (.t 38)), xG 40 33 false (.ia (.arr 2 1) (.t 39) (xI 1)), xG 41 33 false (.load 0 (.t 40)), xG 42 33 false (.bin .eql .int (.t 36) (.t 41)), xG 43 24 true (.pick (.t 33) (.c (.bool true)) (.t 42)), xS 44 (.pick (.t 24) (.t 43) (.c (.bool false)))] [4, 6, 7, 13, 14, 15, 44] ([], []) []) (.cond (.t 44)
 (.seq (.regd [xF 45 4, xF 46 7, xF 47 4, xF 48 7, xS 49 (.ia (.sl 2) (.t 47) (.t 48)), xS 50 (.ia (.arr 2 1) (.t 49) (xI 1)), xS 51 (.load 0 (.t 50)), xS 52 (.ia (.arr 2 1) (.t 6) (xI 1)), xS 53 (.load 0 (.t 52)), xS 54 (.mx true [(.t 51), (.t 53)]), xS 55 (.ia (.sl 2) (.t 45) (.t 46)), xS 56 (.ia (.arr 2 1) (.t 55) (xI 1)), ⟨none, .store 1 (.t 56) (.t 54), none⟩] [4, 13, 14, 15] ([], []) []) (.exit 1))
 .skip)) (.reg [xT 57 4, xS 58 (.load 2 (.t 6)), xS 59 (.bsl 2 [(.t 58)] false), xS 60 (.apph 2 16 (.t 57) (.t 59)), xT 4 60] [4, 13, 14, 15]))))) (.reg [xS 61 (.bin .add .int (.t 15) (xI 1)), xT 15 61] [4, 13, 14, 15]))))
def l_resend_Merge_0 : ACode := .loop [4, 13, 14, 15] [] bl_resend_Merge_0
theorem L_resend_Merge_0 {T : Table} (ks : List Kt) (e : Env) (h : Heap) (Q : Ex → Env → Heap → Prop) : Xc T l_resend_Merge_0 ks e h Q = Xc T bl_resend_Merge_0 (.seq l_resend_Merge_0 :: ks) (e.keep [4, 13, 14, 15]) h Q := Xc_loop ks _ e h Q _ _
def k_resend_Merge : ACode := (.seq (.reg [xS 2 (.mv (.c (.hn 2)) false)] [0]) (.seq (.reg [xT 8 0, xS 9 (.callh f_slices_Clone_2_uint64_2_uint64 [(.t 8)]), xS 10 (.callh f_slices_DeleteFunc_2_uint64_2_uint64 [(.t 9), (.c (.fn f_resend_Merge_1 []))]), xT 3 10] [3]) (.seq (.reg [xF 11 3, xS 12 (.callh f_slices_SortFunc_2_uint64_2_uint64 [(.t 11), (.c (.fn f_resend_Merge_2 []))])] [3]) (.seq (.reg [xS 4 (.mv (.c (.hn 2)) false)] [3, 4]) (.seq (.seq (.reg [xT 13 3, xS 14 (.len false (.t 13)), xS 15 (.mv (xI 0) false)] [4, 13, 14, 15]) (.block 0 l_resend_Merge_0)) (.seq (.reg [xT 62 4, xT 2 62] [2]) .ret))))))
def c_resend_Merge : AFunc := ⟨k_resend_Merge, 63, [.t 2], [], [], [(0, true)]⟩
def bl_resend_Count_0 : ACode := (.seq (.reg [xS 11 (.bin .lss .int (.t 10) (.t 9))] [1, 5, 8, 9, 10, 11]) (.seq (.cond (.t 11)
 .skip
 (.exit 0)) (.seq (.block 1 (.seq (.reg [xS 12 (.ia (.sl 4) (.t 8) (.t 10)), xS 13 (.load 4 (.t 12)), xS 7 (.alloc [(.int .u64 0), (.int .i64 0), (.int .u64 0), (.int .i64 0)]), ⟨none, .store 4 (.t 7) (.t 13), none⟩] [1, 5, 7, 8, 9, 10]) (.seq (.reg [xS 14 (.fa 1 (.t 7)), xS 15 (.load 0 (.t 14)), xF 16 1, xS 17 (.bin .eql .int (.t 15) (.t 16))] [1, 5, 8, 9, 10, 17]) (.cond (.t 17)
 (.reg [xT 18 5, xS 19 (.bin .add .int (.t 18) (xI 1)), xT 5 19] [1, 5, 8, 9, 10])
 .skip)))) (.reg [xS 20 (.bin .add .int (.t 10) (xI 1)), xT 10 20] [1, 5, 8, 9, 10]))))
def l_resend_Count_0 : ACode := .loop [1, 5, 8, 9, 10] [] bl_resend_Count_0
theorem L_resend_Count_0 {T : Table} (ks : List Kt) (e : Env) (h : Heap) (Q : Ex → Env → Heap → Prop) : Xc T l_resend_Count_0 ks e h Q = Xc T bl_resend_Count_0 (.seq l_resend_Count_0 :: ks) (e.keep [1, 5, 8, 9, 10]) h Q := Xc_loop ks _ e h Q _ _
def k_resend_Count : ACode := (.seq (.reg [xS 4 (.mv (xI 0) false)] [0, 1]) (.seq (.reg [xS 5 (.mv (xI 0) false)] [0, 1, 5]) (.seq (.seq (.reg [xT 8 0, xS 9 (.len false (.t 8)), xS 10 (.mv (xI 0) false)] [1, 5, 8, 9, 10]) (.block 0 l_resend_Count_0)) (.seq (.reg [xT 21 5, xT 4 21] [4]) .ret))))
def c_resend_Count : AFunc := ⟨k_resend_Count, 22, [.t 4], [], [], []⟩
def k_law34_awake : ACode := (.seq (.reg [xS 0 (.mv (.c (.bool false)) false)] []) (.seq (.reg [xS 6 (.bsl 1 [(xI 2), (xI 4)] false), xS 7 (.build [(.int .u64 0), (.int .u64 0), (.int .i64 0), (.int .i64 0), (.int .u64 0), (.bool false), (.int .i64 0), (.ps 1 [])] [(0, 1, (.c (.int .u64 3))), (3, 1, (xI 250)), (4, 1, (.c (.int .u64 9))), (6, 1, (xI 1)), (7, 1, (.t 6))]), xS 8 (.bsl 8 [(.t 7)] false), xS 9 (.callh f_index_New [(.t 8)]), xT 1 9] [1]) (.seq (.reg [xT 11 1, xS 12 (.callh f_resend_Range [(.t 11), (.c (.int .u64 4)), (.c (.int .u64 0)), (.c (.int .u64 4))]), xT 10 12, xE 13 10 0, xE 14 10 1, xT 2 13, xT 3 14] [2, 3]) (.seq (.seq (.reg [xT 15 3, xS 16 (.bin .neq .int (.t 15) (xI 0)), xT 17 16, xG 18 17 false (.mv (.t 2) false), xG 19 17 false (.len false (.t 18)), xG 20 17 false (.bin .neq .int (.t 19) (xI 5)), xS 21 (.pick (.t 17) (.c (.bool true)) (.t 20))] [2, 21]) (.cond (.t 21)
 (.seq (.reg [xS 0 (.mv (.c (.bool false)) false)] [0]) .ret)
 .skip)) (.seq (.reg [xF 22 2, xS 23 (.callp f_resend_Runs [(.t 22)] []), xT 4 23] [2, 4]) (.seq (.reg [xS 24 (.build [(.int .u64 0), (.int .u64 0)] [(0, 1, (.c (.int .u64 5))), (1, 1, (.c (.int .u64 6)))]), xS 25 (.build [(.int .u64 0), (.int .u64 0)] [(0, 1, (.c (.int .u64 1))), (1, 1, (.c (.int .u64 4)))]), xS 26 (.bsl 2 [(.t 24), (.t 25)] false), xS 27 (.callp f_resend_Merge [(.t 26)] []), xT 5 27] [2, 4, 5]) (.seq (.reg [xF 28 2, xS 29 (.ia (.sl 4) (.t 28) (xI 2)), xS 30 (.load 4 (.t 29)), xS 31 (.build [(.int .u64 0), (.int .i64 0), (.int .u64 0), (.int .i64 0)] [(0, 1, (.c (.int .u64 2))), (2, 1, (.c (.int .u64 3))), (3, 1, (xI 2))]), xS 32 (.bin .eql (.agg (.cons 0 0 .int (.cons 1 0 .int (.cons 2 0 .int (.cons 3 0 .int .nil))))) (.t 30) (.t 31)), xT 33 32, xG 34 33 true (.mv (.t 2) false), xG 35 33 true (.ia (.sl 4) (.t 34) (xI 3)), xG 36 33 true (.fa 1 (.t 35)), xG 37 33 true (.load 0 (.t 36)), xG 38 33 true (.bin .eql .int (.t 37) (xI 1)), xS 39 (.pick (.t 33) (.t 38) (.c (.bool false))), xT 40 39, xG 41 40 true (.mv (.t 2) false), xG 42 40 true (.ia (.sl 4) (.t 41) (xI 4)), xG 43 40 true (.fa 1 (.t 42)), xG 44 40 true (.load 0 (.t 43)), xG 45 40 true (.bin .eql .int (.t 44) (xI 2)), xS 46 (.pick (.t 40) (.t 45) (.c (.bool false))), xT 47 46, xG 48 47 true (.mv (.t 2) true), xG 49 47 true (.callp f_resend_Count [(.t 48), (xI 0)] [(0, true)]), xG 50 47 true (.bin .eql .int (.t 49) (xI 3)), xS 51 (.pick (.t 47) (.t 50) (.c (.bool false))), xT 52 51, xG 53 52 true (.mv (.t 4) false), xG 54 52 true (.len false (.t 53)), xG 55 52 true (.bin .eql .int (.t 54) (xI 1)), xS 56 (.pick (.t 52) (.t 55) (.c (.bool false))), xT 57 56, xG 58 57 true (.mv (.t 4) true), xG 59 57 true (.ia (.sl 2) (.t 58) (xI 0)), xG 60 57 true (.load 2 (.t 59)), xG 61 57 true (.build [(.int .u64 0), (.int .u64 0)] [(0, 1, (.c (.int .u64 3))), (1, 1, (.c (.int .u64 4)))]), xG 62 57 true (.bin .eql (.agg (.cons 0 0 .int (.cons 1 0 .int .nil))) (.t 60) (.t 61)), xS 63 (.pick (.t 57) (.t 62) (.c (.bool false))), xT 64 63, xG 65 64 true (.mv (.t 5) false), xG 66 64 true (.len false (.t 65)), xG 67 64 true (.bin .eql .int (.t 66) (xI 1)), xS 68 (.pick (.t 64) (.t 67) (.c (.bool false))), xT 69 68, xG 70 69 true (.mv (.t 5) true), xG 71 69 true (.ia (.sl 2) (.t 70) (xI 0)), xG 72 69 true (.load 2 (.t 71)), xG 73 69 true (.build [(.int .u64 0), (.int .u64 0)] [(0, 1, (.c (.int .u64 1))), (1, 1, (.c (.int .u64 6)))]), xG 74 69 true (.bin .eql (.agg (.cons 0 0 .int (.cons 1 0 .int .nil))) (.t 72) (.t 73)), xS 75 (.pick (.t 69) (.t 74) (.c (.bool false))), xT 0 75] [0]) .ret)))))))
def c_law34_awake : AFunc := ⟨k_law34_awake, 76, [.t 0], [], [], []⟩
def bl_ref34_In_0 : ACode := (.seq (.seq (.reg [xF 6 5, xF 7 0, xS 8 (.len false (.t 7)), xS 9 (.bin .lss .int (.t 6) (.t 8))] [0, 1, 5, 9]) (.cond (.t 9)
 .skip
 (.exit 0))) (.seq (.block 1 (.seq (.reg [xF 12 0, xF 13 5, xS 14 (.ia (.sl 2) (.t 12) (.t 13)), xS 15 (.ia (.arr 2 1) (.t 14) (xI 0)), xS 16 (.load 0 (.t 15)), xF 17 1, xS 18 (.bin .leq .int (.t 16) (.t 17)), xT 19 18, xG 20 19 true (.mv (.t 1) false), xG 21 19 true (.mv (.t 0) false), xG 22 19 true (.mv (.t 5) false), xG 23 19 true (.ia (.sl 2) (.t 21) (.t 22)), xG 24 19 true (.ia (.arr 2 1) (.t 23) (xI 1)), xG 25 19 true (.load 0 (.t 24)), xG 26 19 true (.bin .leq .int (.t 20) (.t 25)), xS 27 (.pick (.t 19) (.t 26) (.c (.bool false)))] [0, 1, 5, 27]) (.cond (.t 27)
 (.seq (.reg [xS 4 (.mv (.c (.bool true)) false)] [4]) .ret)
 .skip))) (.reg [xT 10 5, xS 11 (.bin .add .int (.t 10) (xI 1)), xT 5 11] [0, 1, 5])))
def l_ref34_In_0 : ACode := .loop [0, 1, 5] [] bl_ref34_In_0
theorem L_ref34_In_0 {T : Table} (ks : List Kt) (e : Env) (h : Heap) (Q : Ex → Env → Heap → Prop) : Xc T l_ref34_In_0 ks e h Q = Xc T bl_ref34_In_0 (.seq l_ref34_In_0 :: ks) (e.keep [0, 1, 5]) h Q := Xc_loop ks _ e h Q _ _
def k_ref34_In : ACode := (.seq (.reg [xS 4 (.mv (.c (.bool false)) false)] [0, 1]) (.seq (.seq (.reg [xS 5 (.mv (xI 0) false)] [0, 1, 5]) (.block 0 l_ref34_In_0)) (.seq (.reg [xS 4 (.mv (.c (.bool false)) false)] [4]) .ret)))
def c_ref34_In : AFunc := ⟨k_ref34_In, 28, [.t 4], [], [], []⟩
def bl_ref34_Apart_0 : ACode := (.seq (.seq (.reg [xF 4 3, xF 5 0, xS 6 (.len false (.t 5)), xS 7 (.bin .lss .int (.t 4) (.t 6))] [0, 3, 7]) (.cond (.t 7)
 .skip
 (.exit 0))) (.seq (.block 1 (.seq (.regd [xF 10 0, xF 11 3, xS 12 (.ia (.sl 2) (.t 10) (.t 11)), xS 13 (.ia (.arr 2 1) (.t 12) (xI 0)), xS 14 (.load 0 (.t 13)), xF 15 0, xF 16 3, xS 17 (.ia (.sl 2) (.t 15) (.t 16)), xS 18 (.ia (.arr 2 1) (.t 17) (xI 1)), xS 19 (.load 0 (.t 18)), xS 20 (.bin .gtr .int (.t 14) (.t 19)), xF 21 20, xG 22 21 false (.mv (.t 3) false), xG 23 21 false (.bin .gtr .int (.t 22) (xI 0)), xG 24 21 false (.mv (.t 23) false), xG 25 24 true (.mv (.t 0) false), xG 26 24 true (.mv (.t 3) false), xG 27 24 true (.ia (.sl 2) (.t 25) (.t 26)), xG 28 24 true (.ia (.arr 2 1) (.t 27) (xI 0)), xG 29 24 true (.load 0 (.t 28)), xG 30 24 true (.mv (.t 0) false), xG 31 24 true (.mv (.t 3) false), xG 32 24 true (.bin .sub .int (.t 31) (xI 1)), xG 33 24 true (.ia (.sl 2) (.t 30) (.t 32)), xG 34 24 true (.ia (.arr 2 1) (.t 33) (xI 1)), xG 35 24 true (.load 0 (.t 34)), xG 36 24 true (.bin .leq .int (.t 29) (.t 35)), xG 37 24 true (.mv (.t 36) false), xG 38 37 false (.mv (.t 0) false), xG 39 37 false (.mv (.t 3) false), xG 40 37 false (.ia (.sl 2) (.t 38) (.t 39)), xG 41 37 false (.ia (.arr 2 1) (.t 40) (xI 0)), xG 42 37 false (.load 0 (.t 41)), xG 43 37 false (.mv (.t 0) false), xG 44 37 false (.mv (.t 3) false), xG 45 37 false (.bin .sub .int (.t 44) (xI 1)), xG 46 37 false (.ia (.sl 2) (.t 43) (.t 45)), xG 47 37 false (.ia (.arr 2 1) (.t 46) (xI 1)), xG 48 37 false (.load 0 (.t 47)), xG 49 37 false (.bin .sub .int (.t 42) (.t 48)), xG 50 37 false (.bin .lss .int (.t 49) (.c (.int .u64 2))), xG 51 24 true (.pick (.t 37) (.c (.bool true)) (.t 50)), xG 52 21 false (.pick (.t 24) (.t 51) (.c (.bool false))), xS 53 (.pick (.t 21) (.c (.bool true)) (.t 52))] [0, 3, 53] ([], []) []) (.cond (.t 53)
 (.seq (.reg [xS 2 (.mv (.c (.bool false)) false)] [2]) .ret)
 .skip))) (.reg [xT 8 3, xS 9 (.bin .add .int (.t 8) (xI 1)), xT 3 9] [0, 3])))
def l_ref34_Apart_0 : ACode := .loop [0, 3] [] bl_ref34_Apart_0
theorem L_ref34_Apart_0 {T : Table} (ks : List Kt) (e : Env) (h : Heap) (Q : Ex → Env → Heap → Prop) : Xc T l_ref34_Apart_0 ks e h Q = Xc T bl_ref34_Apart_0 (.seq l_ref34_Apart_0 :: ks) (e.keep [0, 3]) h Q := Xc_loop ks _ e h Q _ _
def k_ref34_Apart : ACode := (.seq (.reg [xS 2 (.mv (.c (.bool false)) false)] [0]) (.seq (.seq (.reg [xS 3 (.mv (xI 0) false)] [0, 3]) (.block 0 l_ref34_Apart_0)) (.seq (.reg [xS 2 (.mv (.c (.bool true)) false)] [2]) .ret)))
def c_ref34_Apart : AFunc := ⟨k_ref34_Apart, 54, [.t 2], [], [], []⟩
def bl_law34_ResendRuns_0 : ACode := (.seq (.seq (.reg [xF 54 10, xF 55 6, xS 56 (.len false (.t 55)), xS 57 (.bin .lss .int (.t 54) (.t 56))] [1, 2, 5, 6, 8, 9, 10, 57]) (.cond (.t 57)
 .skip
 (.exit 0))) (.seq (.block 1 (.seq (.seq (.regd [xF 60 6, xF 61 10, xS 62 (.ia (.sl 4) (.t 60) (.t 61)), xS 63 (.fa 1 (.t 62)), xS 64 (.load 0 (.t 63)), xS 65 (.bin .neq .int (.t 64) (xI 0)), xF 66 8, xF 67 6, xF 68 10, xS 69 (.ia (.sl 4) (.t 67) (.t 68)), xS 70 (.fa 0 (.t 69)), xS 71 (.load 0 (.t 70)), xS 72 (.callp f_ref34_In [(.t 66), (.t 71)] [(0, true)]), xS 73 (.bin .neq .bool (.t 65) (.t 72))] [1, 2, 5, 6, 8, 9, 10, 73] ([(6, 0)], []) []) (.cond (.t 73)
 (.seq (.reg [xS 4 (.mv (.c (.bool false)) false)] [4]) .ret)
 .skip)) (.seq (.reg [xF 74 6, xF 75 10, xS 76 (.ia (.sl 4) (.t 74) (.t 75)), xS 77 (.fa 1 (.t 76)), xS 78 (.load 0 (.t 77)), xS 79 (.bin .neq .int (.t 78) (xI 0))] [1, 2, 5, 6, 8, 9, 10, 79]) (.cond (.t 79)
 (.reg [xT 80 9, xS 81 (.bin .add .int (.t 80) (xI 1)), xT 9 81] [1, 2, 5, 6, 8, 9, 10])
 .skip)))) (.reg [xT 58 10, xS 59 (.bin .add .int (.t 58) (xI 1)), xT 10 59] [1, 2, 5, 6, 8, 9, 10])))
def l_law34_ResendRuns_0 : ACode := .loop [1, 2, 5, 6, 8, 9, 10] [(6, 0)] bl_law34_ResendRuns_0
theorem L_law34_ResendRuns_0 {T : Table} (ks : List Kt) (e : Env) (h : Heap) (Q : Ex → Env → Heap → Prop) : Xc T l_law34_ResendRuns_0 ks e h Q = Xc T bl_law34_ResendRuns_0 (.seq l_law34_ResendRuns_0 :: ks) (e.keep [1, 2, 5, 6, 8, 9, 10]) h Q := Xc_loop ks _ e h Q _ _
def bl_law34_ResendRuns_1 : ACode := (.seq (.seq (.reg [xF 122 16, xF 123 12, xS 124 (.len false (.t 123)), xS 125 (.bin .lss .int (.t 122) (.t 124))] [6, 8, 9, 12, 16, 125]) (.cond (.t 125)
 .skip
 (.exit 2))) (.seq (.block 3 (.seq (.regd [xF 128 12, xS 129 (.len false (.t 128)), xF 130 6, xS 131 (.len false (.t 130)), xS 132 (.bin .neq .int (.t 129) (.t 131)), xF 133 132, xG 134 133 false (.mv (.t 12) false), xG 135 133 false (.mv (.t 16) false), xG 136 133 false (.ia (.sl 4) (.t 134) (.t 135)), xG 137 133 false (.load 4 (.t 136)), xG 138 133 false (.mv (.t 6) false), xG 139 133 false (.mv (.t 16) false), xG 140 133 false (.ia (.sl 4) (.t 138) (.t 139)), xG 141 133 false (.load 4 (.t 140)), xG 142 133 false (.bin .neq (.agg (.cons 0 0 .int (.cons 1 0 .int (.cons 2 0 .int (.cons 3 0 .int .nil))))) (.t 137) (.t 141)), xS 143 (.pick (.t 133) (.c (.bool true)) (.t 142))] [6, 8, 9, 12, 16, 143] ([(6, 0), (12, 0)], []) []) (.cond (.t 143)
 (.seq (.reg [xS 4 (.mv (.c (.bool false)) false)] [4]) .ret)
 .skip))) (.reg [xT 126 16, xS 127 (.bin .add .int (.t 126) (xI 1)), xT 16 127] [6, 8, 9, 12, 16])))
def l_law34_ResendRuns_1 : ACode := .loop [6, 8, 9, 12, 16] [(6, 0), (12, 0)] bl_law34_ResendRuns_1
theorem L_law34_ResendRuns_1 {T : Table} (ks : List Kt) (e : Env) (h : Heap) (Q : Ex → Env → Heap → Prop) : Xc T l_law34_ResendRuns_1 ks e h Q = Xc T bl_law34_ResendRuns_1 (.seq l_law34_ResendRuns_1 :: ks) (e.keep [6, 8, 9, 12, 16]) h Q := Xc_loop ks _ e h Q _ _
def k_law34_ResendRuns : ACode := (.seq (.reg [xS 2 (.box (.t 0)), xS 4 (.mv (.c (.bool false)) false)] [1, 2]) (.seq (.seq (.reg [xS 17 (.load 4 (.t 2)), xS 18 (.callp f_law34_Ask_light [(.t 17)] []), xS 19 (.un .not (.t 18)), xT 20 19, xG 21 20 false (.fa 2 (.t 2)), xG 22 20 false (.load 0 (.t 21)), xG 23 20 false (.fa 3 (.t 2)), xG 24 20 false (.load 0 (.t 23)), xG 25 20 false (.bin .gtr .int (.t 22) (.t 24)), xS 26 (.pick (.t 20) (.c (.bool true)) (.t 25)), xT 27 26, xG 28 27 false (.fa 3 (.t 2)), xG 29 27 false (.load 0 (.t 28)), xG 30 27 false (.fa 2 (.t 2)), xG 31 27 false (.load 0 (.t 30)), xG 32 27 false (.bin .sub .int (.t 29) (.t 31)), xG 33 27 false (.bin .gtr .int (.t 32) (.c (.int .u64 255))), xS 34 (.pick (.t 27) (.c (.bool true)) (.t 33))] [1, 2, 34]) (.cond (.t 34)
 (.seq (.reg [xS 35 (.callp f_law34_awake [] []), xT 4 35] [4]) .ret)
 .skip)) (.seq (.reg [xS 36 (.fa 0 (.t 2)), xS 37 (.load 0 (.t 36)), xS 38 (.callh f_index_New [(.t 37)]), xT 5 38] [1, 2, 5]) (.seq (.reg [xF 40 5, xS 41 (.fa 1 (.t 2)), xS 42 (.load 0 (.t 41)), xS 43 (.fa 2 (.t 2)), xS 44 (.load 0 (.t 43)), xS 45 (.fa 3 (.t 2)), xS 46 (.load 0 (.t 45)), xS 47 (.callh f_resend_Range [(.t 40), (.t 42), (.t 44), (.t 46)]), xT 39 47, xE 48 39 0, xE 49 39 1, xT 6 48, xT 7 49] [1, 2, 5, 6, 7]) (.seq (.seq (.reg [xT 50 7, xS 51 (.bin .neq .int (.t 50) (xI 0))] [1, 2, 5, 6, 51]) (.cond (.t 51)
 (.seq (.reg [xS 4 (.mv (.c (.bool false)) false)] [4]) .ret)
 .skip)) (.seq (.reg [xF 52 6, xS 53 (.callp f_resend_Runs [(.t 52)] []), xT 8 53] [1, 2, 5, 6, 8]) (.seq (.reg [xS 9 (.mv (xI 0) false)] [1, 2, 5, 6, 8, 9]) (.seq (.seq (.reg [xS 10 (.mv (xI 0) false)] [1, 2, 5, 6, 8, 9, 10]) (.block 0 l_law34_ResendRuns_0)) (.seq (.regd [xS 82 (.fa 2 (.t 2)), xS 83 (.load 0 (.t 82)), xF 84 1, xS 85 (.conv (.i .u64) (.t 84)), xS 86 (.fa 3 (.t 2)), xS 87 (.load 0 (.t 86)), xS 88 (.fa 2 (.t 2)), xS 89 (.load 0 (.t 88)), xS 90 (.bin .sub .int (.t 87) (.t 89)), xS 91 (.bin .add .int (.t 90) (.c (.int .u64 1))), xS 92 (.bin .rem .int (.t 85) (.t 91)), xS 93 (.bin .add .int (.t 83) (.t 92)), xT 11 93] [2, 5, 6, 8, 9, 11] ([(6, 0)], []) []) (.seq (.reg [xF 95 5, xS 96 (.fa 1 (.t 2)), xS 97 (.load 0 (.t 96)), xS 98 (.fa 2 (.t 2)), xS 99 (.load 0 (.t 98)), xF 100 11, xS 101 (.callh f_resend_Range [(.t 95), (.t 97), (.t 99), (.t 100)]), xT 94 101, xE 102 94 0, xE 103 94 1, xT 12 102, xT 13 103] [2, 5, 6, 8, 9, 11, 12]) (.seq (.seq (.reg [xF 104 11, xS 105 (.fa 3 (.t 2)), xS 106 (.load 0 (.t 105)), xS 107 (.bin .lss .int (.t 104) (.t 106))] [2, 5, 6, 8, 9, 11, 12, 107]) (.cond (.t 107)
 (.seq (.reg [xT 109 5, xS 110 (.fa 1 (.t 2)), xS 111 (.load 0 (.t 110)), xT 112 11, xS 113 (.bin .add .int (.t 112) (.c (.int .u64 1))), xS 114 (.fa 3 (.t 2)), xS 115 (.load 0 (.t 114)), xS 116 (.callh f_resend_Range [(.t 109), (.t 111), (.t 113), (.t 115)]), xT 108 116, xE 117 108 0, xE 118 108 1, xT 14 117, xT 15 118] [6, 8, 9, 12, 14]) (.reg [xT 119 12, xT 120 14, xS 121 (.app 4 32 (.t 119) (.t 120)), xT 12 121] [6, 8, 9, 12]))
 .skip)) (.seq (.seq (.reg [xS 16 (.mv (xI 0) false)] [6, 8, 9, 12, 16]) (.block 2 l_law34_ResendRuns_1)) (.seq (.reg [xS 144 (.callp f_law34_awake [] []), xT 145 144, xG 146 145 true (.mv (.t 8) true), xG 147 145 true (.callp f_ref34_Apart [(.t 146)] [(0, true)]), xS 148 (.pick (.t 145) (.t 147) (.c (.bool false))), xT 149 148, xG 150 149 true (.mv (.t 6) false), xG 151 149 true (.callp f_resend_Count [(.t 150), (xI 0)] [(0, true)]), xG 152 149 true (.mv (.t 6) false), xG 153 149 true (.len false (.t 152)), xG 154 149 true (.mv (.t 9) false), xG 155 149 true (.bin .sub .int (.t 153) (.t 154)), xG 156 149 true (.bin .eql .int (.t 151) (.t 155)), xS 157 (.pick (.t 149) (.t 156) (.c (.bool false))), xT 158 157, xG 159 158 true (.mv (.t 6) false), xG 160 158 true (.callp f_resend_Count [(.t 159), (xI 1)] [(0, true)]), xG 161 158 true (.mv (.t 6) true), xG 162 158 true (.callp f_resend_Count [(.t 161), (xI 2)] [(0, true)]), xG 163 158 true (.bin .add .int (.t 160) (.t 162)), xG 164 158 true (.mv (.t 9) true), xG 165 158 true (.bin .eql .int (.t 163) (.t 164)), xS 166 (.pick (.t 158) (.t 165) (.c (.bool false))), xT 4 166] [4]) .ret)))))))))))))
def c_law34_ResendRuns : AFunc := ⟨k_law34_ResendRuns, 167, [.t 4], [], [], []⟩
def k_resend_Merge_1 : ACode := (.seq (.reg [xS 1 (.boxf (.t 0)), xS 2 (.mv (.c (.bool false)) false)] [1]) (.seq (.reg [xS 3 (.ia (.arr 2 1) (.t 1) (xI 0)), xS 4 (.load 0 (.t 3)), xS 5 (.ia (.arr 2 1) (.t 1) (xI 1)), xS 6 (.load 0 (.t 5)), xS 7 (.bin .gtr .int (.t 4) (.t 6)), xT 2 7] [2]) .ret))
def c_resend_Merge_1 : AFunc := ⟨k_resend_Merge_1, 8, [.t 2], [], [], []⟩
def k_cmp_isNaN_uint64 : ACode := (.seq (.reg [xS 2 (.mv (.c (.bool false)) false)] [0]) (.seq (.reg [xF 3 0, xT 4 0, xS 5 (.bin .neq .int (.t 3) (.t 4)), xT 2 5] [2]) .ret))
def c_cmp_isNaN_uint64 : AFunc := ⟨k_cmp_isNaN_uint64, 6, [.t 2], [], [], []⟩
def k_cmp_Compare_uint64 : ACode := (.seq (.reg [xS 4 (.mv (xI 0) false)] [0, 1]) (.seq (.reg [xF 7 0, xS 8 (.callp f_cmp_isNaN_uint64 [(.t 7)] []), xT 5 8] [0, 1, 5]) (.seq (.reg [xF 9 1, xS 10 (.callp f_cmp_isNaN_uint64 [(.t 9)] []), xT 6 10] [0, 1, 5, 6]) (.seq (.seq (.reg [xT 11 5] [0, 1, 6, 11]) (.cond (.t 11)
 (.seq (.seq (.reg [xT 12 6] [12]) (.cond (.t 12)
 (.seq (.reg [xS 4 (.mv (xI 0) false)] [4]) .ret)
 .skip)) (.seq (.reg [xS 4 (.mv (.c (.int .i64 (-1))) false)] [4]) .ret))
 .skip)) (.seq (.seq (.reg [xT 13 6] [0, 1, 13]) (.cond (.t 13)
 (.seq (.reg [xS 4 (.mv (xI 1) false)] [4]) .ret)
 .skip)) (.seq (.seq (.reg [xF 14 0, xF 15 1, xS 16 (.bin .lss .int (.t 14) (.t 15))] [0, 1, 16]) (.cond (.t 16)
 (.seq (.reg [xS 4 (.mv (.c (.int .i64 (-1))) false)] [4]) .ret)
 .skip)) (.seq (.seq (.reg [xT 17 0, xT 18 1, xS 19 (.bin .gtr .int (.t 17) (.t 18))] [19]) (.cond (.t 19)
 (.seq (.reg [xS 4 (.mv (xI 1) false)] [4]) .ret)
 .skip)) (.seq (.reg [xS 4 (.mv (xI 0) false)] [4]) .ret))))))))
def c_cmp_Compare_uint64 : AFunc := ⟨k_cmp_Compare_uint64, 20, [.t 4], [], [], []⟩
def k_resend_Merge_2 : ACode := (.seq (.reg [xS 2 (.boxf (.t 0)), xS 3 (.boxf (.t 1)), xS 4 (.mv (xI 0) false)] [2, 3]) (.seq (.reg [xS 5 (.ia (.arr 2 1) (.t 2) (xI 0)), xS 6 (.load 0 (.t 5)), xS 7 (.ia (.arr 2 1) (.t 3) (xI 0)), xS 8 (.load 0 (.t 7)), xS 9 (.callp f_cmp_Compare_uint64 [(.t 6), (.t 8)] []), xT 4 9] [4]) .ret))
def c_resend_Merge_2 : AFunc := ⟨k_resend_Merge_2, 10, [.t 4], [], [], []⟩
def k_index_Index_place_1 : ACode := (.seq (.reg [xS 2 (.boxf (.t 0)), xS 4 (.mv (xI 0) false)] [1, 2]) (.seq (.reg [xS 5 (.fa 0 (.t 2)), xS 6 (.load 0 (.t 5)), xT 7 1, xS 8 (.callp f_cmp_Compare_uint64 [(.t 6), (.t 7)] []), xT 4 8] [4]) .ret))
def c_index_Index_place_1 : AFunc := ⟨k_index_Index_place_1, 9, [.t 4], [], [], []⟩

def tab : List (Nat × AFunc) := [(f_law34_Ask_light, c_law34_Ask_light),
  (f_meta_Check_1, c_meta_Check_1),
  (f_meta_Check, c_meta_Check),
  (f_slices_BinarySearchFunc_api_Record_api_Record_uint64, c_slices_BinarySearchFunc_api_Record_api_Record_uint64),
  (f_index_Index_place, c_index_Index_place),
  (f_slices_Clone_int_int, c_slices_Clone_int_int),
  (f_index_copyOf, c_index_copyOf),
  (f_slices_Insert_api_Record_api_Record, c_slices_Insert_api_Record_api_Record),
  (f_index_Index_Put, c_index_Index_Put),
  (f_index_New, c_index_New),
  (f_index_Frames, c_index_Frames),
  (f_index_Index_Frame_1, c_index_Index_Frame_1),
  (f_index_Index_some, c_index_Index_some),
  (f_index_Index_Frame, c_index_Index_Frame),
  (f_resend_One, c_resend_One),
  (f_resend_Range, c_resend_Range),
  (f_resend_Runs_1, c_resend_Runs_1),
  (f_resend_Runs, c_resend_Runs),
  (f_slices_Clone_2_uint64_2_uint64, c_slices_Clone_2_uint64_2_uint64),
  (f_slices_IndexFunc_2_uint64_2_uint64, c_slices_IndexFunc_2_uint64_2_uint64),
  (f_slices_DeleteFunc_2_uint64_2_uint64, c_slices_DeleteFunc_2_uint64_2_uint64),
  (f_math_bits_Len32, c_math_bits_Len32),
  (f_math_bits_Len64, c_math_bits_Len64),
  (f_math_bits_Len, c_math_bits_Len),
  (f_slices_insertionSortCmpFunc_2_uint64, c_slices_insertionSortCmpFunc_2_uint64),
  (f_slices_siftDownCmpFunc_2_uint64, c_slices_siftDownCmpFunc_2_uint64),
  (f_slices_heapSortCmpFunc_2_uint64, c_slices_heapSortCmpFunc_2_uint64),
  (f_slices_nextPowerOfTwo, c_slices_nextPowerOfTwo),
  (f_slices_xorshift_Next, c_slices_xorshift_Next),
  (f_slices_breakPatternsCmpFunc_2_uint64, c_slices_breakPatternsCmpFunc_2_uint64),
  (f_slices_order2CmpFunc_2_uint64, c_slices_order2CmpFunc_2_uint64),
  (f_slices_medianCmpFunc_2_uint64, c_slices_medianCmpFunc_2_uint64),
  (f_slices_medianAdjacentCmpFunc_2_uint64, c_slices_medianAdjacentCmpFunc_2_uint64),
  (f_slices_choosePivotCmpFunc_2_uint64, c_slices_choosePivotCmpFunc_2_uint64),
  (f_slices_reverseRangeCmpFunc_2_uint64, c_slices_reverseRangeCmpFunc_2_uint64),
  (f_slices_partialInsertionSortCmpFunc_2_uint64, c_slices_partialInsertionSortCmpFunc_2_uint64),
  (f_slices_partitionEqualCmpFunc_2_uint64, c_slices_partitionEqualCmpFunc_2_uint64),
  (f_slices_partitionCmpFunc_2_uint64, c_slices_partitionCmpFunc_2_uint64),
  (f_slices_pdqsortCmpFunc_2_uint64, c_slices_pdqsortCmpFunc_2_uint64),
  (f_slices_SortFunc_2_uint64_2_uint64, c_slices_SortFunc_2_uint64_2_uint64),
  (f_resend_Merge, c_resend_Merge),
  (f_resend_Count, c_resend_Count),
  (f_law34_awake, c_law34_awake),
  (f_ref34_In, c_ref34_In),
  (f_ref34_Apart, c_ref34_Apart),
  (f_law34_ResendRuns, c_law34_ResendRuns),
  (f_resend_Merge_1, c_resend_Merge_1),
  (f_cmp_isNaN_uint64, c_cmp_isNaN_uint64),
  (f_cmp_Compare_uint64, c_cmp_Compare_uint64),
  (f_resend_Merge_2, c_resend_Merge_2),
  (f_index_Index_place_1, c_index_Index_place_1)]
def T : Table := fun f => tab.lookup f
theorem t_law34_Ask_light : T f_law34_Ask_light = some c_law34_Ask_light := rfl
theorem t_meta_Check_1 : T f_meta_Check_1 = some c_meta_Check_1 := rfl
theorem t_meta_Check : T f_meta_Check = some c_meta_Check := rfl
theorem t_slices_BinarySearchFunc_api_Record_api_Record_uint64 : T f_slices_BinarySearchFunc_api_Record_api_Record_uint64 = some c_slices_BinarySearchFunc_api_Record_api_Record_uint64 := rfl
theorem t_index_Index_place : T f_index_Index_place = some c_index_Index_place := rfl
theorem t_slices_Clone_int_int : T f_slices_Clone_int_int = some c_slices_Clone_int_int := rfl
theorem t_index_copyOf : T f_index_copyOf = some c_index_copyOf := rfl
theorem t_slices_Insert_api_Record_api_Record : T f_slices_Insert_api_Record_api_Record = some c_slices_Insert_api_Record_api_Record := rfl
theorem t_index_Index_Put : T f_index_Index_Put = some c_index_Index_Put := rfl
theorem t_index_New : T f_index_New = some c_index_New := rfl
theorem t_index_Frames : T f_index_Frames = some c_index_Frames := rfl
theorem t_index_Index_Frame_1 : T f_index_Index_Frame_1 = some c_index_Index_Frame_1 := rfl
theorem t_index_Index_some : T f_index_Index_some = some c_index_Index_some := rfl
theorem t_index_Index_Frame : T f_index_Index_Frame = some c_index_Index_Frame := rfl
theorem t_resend_One : T f_resend_One = some c_resend_One := rfl
theorem t_resend_Range : T f_resend_Range = some c_resend_Range := rfl
theorem t_resend_Runs_1 : T f_resend_Runs_1 = some c_resend_Runs_1 := rfl
theorem t_resend_Runs : T f_resend_Runs = some c_resend_Runs := rfl
theorem t_slices_Clone_2_uint64_2_uint64 : T f_slices_Clone_2_uint64_2_uint64 = some c_slices_Clone_2_uint64_2_uint64 := rfl
theorem t_slices_IndexFunc_2_uint64_2_uint64 : T f_slices_IndexFunc_2_uint64_2_uint64 = some c_slices_IndexFunc_2_uint64_2_uint64 := rfl
theorem t_slices_DeleteFunc_2_uint64_2_uint64 : T f_slices_DeleteFunc_2_uint64_2_uint64 = some c_slices_DeleteFunc_2_uint64_2_uint64 := rfl
theorem t_math_bits_Len32 : T f_math_bits_Len32 = some c_math_bits_Len32 := rfl
theorem t_math_bits_Len64 : T f_math_bits_Len64 = some c_math_bits_Len64 := rfl
theorem t_math_bits_Len : T f_math_bits_Len = some c_math_bits_Len := rfl
theorem t_slices_insertionSortCmpFunc_2_uint64 : T f_slices_insertionSortCmpFunc_2_uint64 = some c_slices_insertionSortCmpFunc_2_uint64 := rfl
theorem t_slices_siftDownCmpFunc_2_uint64 : T f_slices_siftDownCmpFunc_2_uint64 = some c_slices_siftDownCmpFunc_2_uint64 := rfl
theorem t_slices_heapSortCmpFunc_2_uint64 : T f_slices_heapSortCmpFunc_2_uint64 = some c_slices_heapSortCmpFunc_2_uint64 := rfl
theorem t_slices_nextPowerOfTwo : T f_slices_nextPowerOfTwo = some c_slices_nextPowerOfTwo := rfl
theorem t_slices_xorshift_Next : T f_slices_xorshift_Next = some c_slices_xorshift_Next := rfl
theorem t_slices_breakPatternsCmpFunc_2_uint64 : T f_slices_breakPatternsCmpFunc_2_uint64 = some c_slices_breakPatternsCmpFunc_2_uint64 := rfl
theorem t_slices_order2CmpFunc_2_uint64 : T f_slices_order2CmpFunc_2_uint64 = some c_slices_order2CmpFunc_2_uint64 := rfl
theorem t_slices_medianCmpFunc_2_uint64 : T f_slices_medianCmpFunc_2_uint64 = some c_slices_medianCmpFunc_2_uint64 := rfl
theorem t_slices_medianAdjacentCmpFunc_2_uint64 : T f_slices_medianAdjacentCmpFunc_2_uint64 = some c_slices_medianAdjacentCmpFunc_2_uint64 := rfl
theorem t_slices_choosePivotCmpFunc_2_uint64 : T f_slices_choosePivotCmpFunc_2_uint64 = some c_slices_choosePivotCmpFunc_2_uint64 := rfl
theorem t_slices_reverseRangeCmpFunc_2_uint64 : T f_slices_reverseRangeCmpFunc_2_uint64 = some c_slices_reverseRangeCmpFunc_2_uint64 := rfl
theorem t_slices_partialInsertionSortCmpFunc_2_uint64 : T f_slices_partialInsertionSortCmpFunc_2_uint64 = some c_slices_partialInsertionSortCmpFunc_2_uint64 := rfl
theorem t_slices_partitionEqualCmpFunc_2_uint64 : T f_slices_partitionEqualCmpFunc_2_uint64 = some c_slices_partitionEqualCmpFunc_2_uint64 := rfl
theorem t_slices_partitionCmpFunc_2_uint64 : T f_slices_partitionCmpFunc_2_uint64 = some c_slices_partitionCmpFunc_2_uint64 := rfl
theorem t_slices_pdqsortCmpFunc_2_uint64 : T f_slices_pdqsortCmpFunc_2_uint64 = some c_slices_pdqsortCmpFunc_2_uint64 := rfl
theorem t_slices_SortFunc_2_uint64_2_uint64 : T f_slices_SortFunc_2_uint64_2_uint64 = some c_slices_SortFunc_2_uint64_2_uint64 := rfl
theorem t_resend_Merge : T f_resend_Merge = some c_resend_Merge := rfl
theorem t_resend_Count : T f_resend_Count = some c_resend_Count := rfl
theorem t_law34_awake : T f_law34_awake = some c_law34_awake := rfl
theorem t_ref34_In : T f_ref34_In = some c_ref34_In := rfl
theorem t_ref34_Apart : T f_ref34_Apart = some c_ref34_Apart := rfl
theorem t_law34_ResendRuns : T f_law34_ResendRuns = some c_law34_ResendRuns := rfl
theorem t_resend_Merge_1 : T f_resend_Merge_1 = some c_resend_Merge_1 := rfl
theorem t_cmp_isNaN_uint64 : T f_cmp_isNaN_uint64 = some c_cmp_isNaN_uint64 := rfl
theorem t_cmp_Compare_uint64 : T f_cmp_Compare_uint64 = some c_cmp_Compare_uint64 := rfl
theorem t_resend_Merge_2 : T f_resend_Merge_2 = some c_resend_Merge_2 := rfl
theorem t_index_Index_place_1 : T f_index_Index_place_1 = some c_index_Index_place_1 := rfl
end Ev
