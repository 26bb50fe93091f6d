/- The code of the functions that the claim reaches, in the evaluator's form; what it is held against stands in the text of the checks. No condition. -/
import Derived.Test.YtonlfefnnacdcaaEv9
/-! The code of the functions, as the evaluator takes it. -/
set_option linter.all false
namespace Ev
open Go

abbrev f_law20_PlaceChooses : Nat := 3
abbrev f_law20_awake : Nat := 5
abbrev f_law20_few : Nat := 6
abbrev f_ref20_Places : Nat := 7
abbrev f_place_Choose : Nat := 8
abbrev f_ref20_Choose : Nat := 9
abbrev f_ref20_In : Nat := 10
abbrev f_ref20_Can : Nat := 11
abbrev f_law20_at : Nat := 12
abbrev f_ref01_Ints : Nat := 13
abbrev f_place_Used : Nat := 14
abbrev f_place_Count : Nat := 15
abbrev f_place_Free : Nat := 16
abbrev f_place_Stuck : Nat := 17
abbrev f_place_choice_shrink : Nat := 18
abbrev f_ref20_Blocks : Nat := 19
abbrev f_ref20_Other : Nat := 20
abbrev f_ref13_Has : Nat := 21
abbrev f_slices_Sort_int_int : Nat := 22
abbrev f_slices_Compact_int_int : Nat := 23
abbrev f_slices_DeleteFunc_int_int : Nat := 24
abbrev f_slices_Clone_int_int : Nat := 25
abbrev f_place_Free_1 : Nat := 26
abbrev f_slices_Contains_int_int : Nat := 27
abbrev f_slices_DeleteFunc_api_Place_api_Place : Nat := 28
abbrev f_slices_Clone_api_Place_api_Place : Nat := 29
abbrev f_place_Stuck_1 : Nat := 30
abbrev f_place_choice_others : Nat := 31
abbrev f_slices_pdqsortOrdered_int : Nat := 32
abbrev f_math_bits_Len : Nat := 33
abbrev f_slices_IndexFunc_int_int : Nat := 34
abbrev f_slices_Index_int_int : Nat := 35
abbrev f_slices_IndexFunc_api_Place_api_Place : Nat := 36
abbrev f_place_choice_others_1 : Nat := 37
abbrev f_slices_insertionSortOrdered_int : Nat := 38
abbrev f_slices_heapSortOrdered_int : Nat := 39
abbrev f_slices_breakPatternsOrdered_int : Nat := 40
abbrev f_slices_choosePivotOrdered_int : Nat := 41
abbrev f_slices_reverseRangeOrdered_int : Nat := 42
abbrev f_slices_partialInsertionSortOrdered_int : Nat := 43
abbrev f_cmp_Less_int : Nat := 44
abbrev f_slices_partitionEqualOrdered_int : Nat := 45
abbrev f_slices_partitionOrdered_int : Nat := 46
abbrev f_math_bits_Len32 : Nat := 47
abbrev f_math_bits_Len64 : Nat := 48
abbrev f_slices_siftDownOrdered_int : Nat := 49
abbrev f_slices_nextPowerOfTwo : Nat := 50
abbrev f_slices_xorshift_Next : Nat := 51
abbrev f_slices_medianAdjacentOrdered_int : Nat := 52
abbrev f_slices_medianOrdered_int : Nat := 53
abbrev f_cmp_isNaN_int : Nat := 54
abbrev f_slices_order2Ordered_int : Nat := 55
abbrev xI (n : Int) : A := .c (.int .i64 n)
abbrev xT (d n : Nat) : AOpr := ⟨some d, .mv (.t n) true, none⟩
abbrev xF (d n : Nat) : AOpr := ⟨some d, .mv (.t n) false, none⟩
abbrev xE (d n i : Nat) : AOpr := ⟨some d, .ext (.t n) i, none⟩
abbrev xS (d : Nat) (o : AOp) : AOpr := ⟨some d, o, none⟩
abbrev xG (d g : Nat) (b : Bool) (o : AOp) : AOpr := ⟨some d, o, some (g, b)⟩

def k_law20_at : ACode := (.seq (.reg [xS 4 (.alloc [(.int .i64 0), (.int .i64 0)])] [0, 1, 4]) (.seq (.reg [xT 5 0, xT 6 1, xS 7 (.build [(.int .i64 0), (.int .i64 0)] [(0, 1, (.t 5)), (1, 1, (.t 6))]), ⟨none, .store 2 (.t 4) (.t 7), none⟩] [4]) .ret))
def c_law20_at : AFunc := ⟨k_law20_at, 8, [.c 4 2], [], [], []⟩
def k_math_bits_Len32 : ACode := (.seq (.reg [xS 2 (.mv (xI 0) false)] [0, 2]) (.seq (.seq (.reg [xF 3 0, xS 4 (.bin .geq .int (.t 3) (.c (.int .u32 65536)))] [0, 2, 4]) (.cond (.t 4)
 (.seq (.reg [xT 5 0, xS 6 (.bin .shr .int (.t 5) (.c (.int .u64 16))), xT 0 6] [0]) (.reg [xS 2 (.mv (xI 16) false)] [0, 2]))
 .skip)) (.seq (.seq (.reg [xF 7 0, xS 8 (.bin .geq .int (.t 7) (.c (.int .u32 256)))] [0, 2, 8]) (.cond (.t 8)
 (.seq (.reg [xT 9 0, xS 10 (.bin .shr .int (.t 9) (.c (.int .u64 8))), xT 0 10] [0, 2]) (.reg [xT 11 2, xS 12 (.bin .add .int (.t 11) (xI 8)), xT 2 12] [0, 2]))
 .skip)) (.seq (.reg [xT 13 2, xT 14 0, xS 15 (.conv (.i .u8) (.t 14)), xS 16 (.idx .str 0 (.c (.str [0, 1, 2, 2, 3, 3, 3, 3, 4, 4, 4, 4, 4, 4, 4, 4, 5, 5, 5, 5, 5, 5, 5, 5, 5, 5, 5, 5, 5, 5, 5, 5, 6, 6, 6, 6, 6, 6, 6, 6, 6, 6, 6, 6, 6, 6, 6, 6, 6, 6, 6, 6, 6, 6, 6, 6, 6, 6, 6, 6, 6, 6, 6, 6, 7, 7, 7, 7, 7, 7, 7, 7, 7, 7, 7, 7, 7, 7, 7, 7, 7, 7, 7, 7, 7, 7, 7, 7, 7, 7, 7, 7, 7, 7, 7, 7, 7, 7, 7, 7, 7, 7, 7, 7, 7, 7, 7, 7, 7, 7, 7, 7, 7, 7, 7, 7, 7, 7, 7, 7, 7, 7, 7, 7, 7, 7, 7, 7, 8, 8, 8, 8, 8, 8, 8, 8, 8, 8, 8, 8, 8, 8, 8, 8, 8, 8, 8, 8, 8, 8, 8, 8, 8, 8, 8, 8, 8, 8, 8, 8, 8, 8, 8, 8, 8, 8, 8, 8, 8, 8, 8, 8, 8, 8, 8, 8, 8, 8, 8, 8, 8, 8, 8, 8, 8, 8, 8, 8, 8, 8, 8, 8, 8, 8, 8, 8, 8, 8, 8, 8, 8, 8, 8, 8, 8, 8, 8, 8, 8, 8, 8, 8, 8, 8, 8, 8, 8, 8, 8, 8, 8, 8, 8, 8, 8, 8, 8, 8, 8, 8, 8, 8, 8, 8, 8, 8, 8, 8, 8, 8, 8, 8, 8, 8, 8, 8, 8, 8, 8, 8, 8, 8, 8, 8, 8, 8])) (.t 15)), xS 17 (.conv (.i .i64) (.t 16)), xS 18 (.bin .add .int (.t 13) (.t 17)), xT 2 18] [2]) .ret))))
def c_math_bits_Len32 : AFunc := ⟨k_math_bits_Len32, 19, [.t 2], [], [], []⟩
def k_math_bits_Len64 : ACode := (.seq (.reg [xS 2 (.mv (xI 0) false)] [0, 2]) (.seq (.seq (.reg [xF 3 0, xS 4 (.bin .geq .int (.t 3) (.c (.int .u64 4294967296)))] [0, 2, 4]) (.cond (.t 4)
 (.seq (.reg [xT 5 0, xS 6 (.bin .shr .int (.t 5) (.c (.int .u64 32))), xT 0 6] [0]) (.reg [xS 2 (.mv (xI 32) false)] [0, 2]))
 .skip)) (.seq (.seq (.reg [xF 7 0, xS 8 (.bin .geq .int (.t 7) (.c (.int .u64 65536)))] [0, 2, 8]) (.cond (.t 8)
 (.seq (.reg [xT 9 0, xS 10 (.bin .shr .int (.t 9) (.c (.int .u64 16))), xT 0 10] [0, 2]) (.reg [xT 11 2, xS 12 (.bin .add .int (.t 11) (xI 16)), xT 2 12] [0, 2]))
 .skip)) (.seq (.seq (.reg [xF 13 0, xS 14 (.bin .geq .int (.t 13) (.c (.int .u64 256)))] [0, 2, 14]) (.cond (.t 14)
 (.seq (.reg [xT 15 0, xS 16 (.bin .shr .int (.t 15) (.c (.int .u64 8))), xT 0 16] [0, 2]) (.reg [xT 17 2, xS 18 (.bin .add .int (.t 17) (xI 8)), xT 2 18] [0, 2]))
 .skip)) (.seq (.reg [xT 19 2, xT 20 0, xS 21 (.conv (.i .u8) (.t 20)), xS 22 (.idx .str 0 (.c (.str [0, 1, 2, 2, 3, 3, 3, 3, 4, 4, 4, 4, 4, 4, 4, 4, 5, 5, 5, 5, 5, 5, 5, 5, 5, 5, 5, 5, 5, 5, 5, 5, 6, 6, 6, 6, 6, 6, 6, 6, 6, 6, 6, 6, 6, 6, 6, 6, 6, 6, 6, 6, 6, 6, 6, 6, 6, 6, 6, 6, 6, 6, 6, 6, 7, 7, 7, 7, 7, 7, 7, 7, 7, 7, 7, 7, 7, 7, 7, 7, 7, 7, 7, 7, 7, 7, 7, 7, 7, 7, 7, 7, 7, 7, 7, 7, 7, 7, 7, 7, 7, 7, 7, 7, 7, 7, 7, 7, 7, 7, 7, 7, 7, 7, 7, 7, 7, 7, 7, 7, 7, 7, 7, 7, 7, 7, 7, 7, 8, 8, 8, 8, 8, 8, 8, 8, 8, 8, 8, 8, 8, 8, 8, 8, 8, 8, 8, 8, 8, 8, 8, 8, 8, 8, 8, 8, 8, 8, 8, 8, 8, 8, 8, 8, 8, 8, 8, 8, 8, 8, 8, 8, 8, 8, 8, 8, 8, 8, 8, 8, 8, 8, 8, 8, 8, 8, 8, 8, 8, 8, 8, 8, 8, 8, 8, 8, 8, 8, 8, 8, 8, 8, 8, 8, 8, 8, 8, 8, 8, 8, 8, 8, 8, 8, 8, 8, 8, 8, 8, 8, 8, 8, 8, 8, 8, 8, 8, 8, 8, 8, 8, 8, 8, 8, 8, 8, 8, 8, 8, 8, 8, 8, 8, 8, 8, 8, 8, 8, 8, 8, 8, 8, 8, 8, 8, 8])) (.t 21)), xS 23 (.conv (.i .i64) (.t 22)), xS 24 (.bin .add .int (.t 19) (.t 23)), xT 2 24] [2]) .ret)))))
def c_math_bits_Len64 : AFunc := ⟨k_math_bits_Len64, 25, [.t 2], [], [], []⟩
def k_math_bits_Len : ACode := (.seq (.reg [xS 2 (.mv (xI 0) false)] [0]) (.seq (.cond (.c (.bool false))
 (.seq (.reg [xT 3 0, xS 4 (.conv (.i .u32) (.t 3)), xS 5 (.callp f_math_bits_Len32 [(.t 4)] []), xT 2 5] [2]) .ret)
 .skip) (.seq (.reg [xT 6 0, xS 7 (.callp f_math_bits_Len64 [(.t 6)] []), xT 2 7] [2]) .ret)))
def c_math_bits_Len : AFunc := ⟨k_math_bits_Len, 8, [.t 2], [], [], []⟩
def k_cmp_isNaN_int : ACode := (.seq (.reg [xS 2 (.mv (.c (.bool false)) false)] [0]) (.seq (.reg [xF 3 0, xT 4 0, xS 5 (.bin .neq .int (.t 3) (.t 4)), xT 2 5] [2]) .ret))
def c_cmp_isNaN_int : AFunc := ⟨k_cmp_isNaN_int, 6, [.t 2], [], [], []⟩
def k_cmp_Less_int : ACode := (.seq (.reg [xS 4 (.mv (.c (.bool false)) false)] [0, 1]) (.seq (.reg [xF 5 0, xS 6 (.callp f_cmp_isNaN_int [(.t 5)] []), xT 7 6, xG 8 7 true (.mv (.t 1) false), xG 9 7 true (.callp f_cmp_isNaN_int [(.t 8)] []), xG 10 7 true (.un .not (.t 9)), xS 11 (.pick (.t 7) (.t 10) (.c (.bool false))), xT 12 11, xG 13 12 false (.mv (.t 0) true), xG 14 12 false (.mv (.t 1) true), xG 15 12 false (.bin .lss .int (.t 13) (.t 14)), xS 16 (.pick (.t 12) (.c (.bool true)) (.t 15)), xT 4 16] [4]) .ret))
def c_cmp_Less_int : AFunc := ⟨k_cmp_Less_int, 17, [.t 4], [], [], []⟩
def bl_slices_insertionSortOrdered_int_0 : ACode := (.seq (.seq (.regd [xF 16 7, xF 17 1, xS 18 (.bin .gtr .int (.t 16) (.t 17)), xF 19 18, xG 20 19 true (.mv (.t 0) false), xG 21 19 true (.mv (.t 7) false), xG 22 19 true (.ia (.sl 1) (.t 20) (.t 21)), xG 23 19 true (.load 0 (.t 22)), xG 24 19 true (.mv (.t 0) false), xG 25 19 true (.mv (.t 7) false), xG 26 19 true (.bin .sub .int (.t 25) (xI 1)), xG 27 19 true (.ia (.sl 1) (.t 24) (.t 26)), xG 28 19 true (.load 0 (.t 27)), xG 29 19 true (.callp f_cmp_Less_int [(.t 23), (.t 28)] []), xS 30 (.pick (.t 19) (.t 29) (.c (.bool false)))] [0, 1, 2, 6, 7, 30] ([], []) []) (.cond (.t 30)
 .skip
 (.exit 2))) (.seq (.block 3 (.regd [xF 33 0, xF 34 7, xF 35 0, xF 36 7, xS 37 (.bin .sub .int (.t 36) (xI 1)), xF 38 0, xF 39 7, xS 40 (.bin .sub .int (.t 39) (xI 1)), xS 41 (.ia (.sl 1) (.t 38) (.t 40)), xS 42 (.load 0 (.t 41)), xF 43 0, xF 44 7, xS 45 (.ia (.sl 1) (.t 43) (.t 44)), xS 46 (.load 0 (.t 45)), xS 47 (.ia (.sl 1) (.t 33) (.t 34)), ⟨none, .store 1 (.t 47) (.t 42), none⟩, xS 48 (.ia (.sl 1) (.t 35) (.t 37)), ⟨none, .store 1 (.t 48) (.t 46), none⟩] [0, 1, 2, 6, 7] ([], []) [])) (.reg [xT 31 7, xS 32 (.bin .sub .int (.t 31) (xI 1)), xT 7 32] [0, 1, 2, 6, 7])))
def l_slices_insertionSortOrdered_int_0 : ACode := .loop [0, 1, 2, 6, 7] [] bl_slices_insertionSortOrdered_int_0
theorem L_slices_insertionSortOrdered_int_0 {T : Table} (ks : List Kt) (e : Env) (h : Heap) (Q : Ex → Env → Heap → Prop) : Xc T l_slices_insertionSortOrdered_int_0 ks e h Q = Xc T bl_slices_insertionSortOrdered_int_0 (.seq l_slices_insertionSortOrdered_int_0 :: ks) (e.keep [0, 1, 2, 6, 7]) h Q := Xc_loop ks _ e h Q _ _
def bl_slices_insertionSortOrdered_int_1 : ACode := (.seq (.seq (.reg [xF 10 6, xF 11 2, xS 12 (.bin .lss .int (.t 10) (.t 11))] [0, 1, 2, 6, 12]) (.cond (.t 12)
 .skip
 (.exit 0))) (.seq (.block 1 (.seq (.reg [xF 15 6, xT 7 15] [0, 1, 2, 6, 7]) (.block 2 l_slices_insertionSortOrdered_int_0))) (.reg [xT 13 6, xS 14 (.bin .add .int (.t 13) (xI 1)), xT 6 14] [0, 1, 2, 6])))
def l_slices_insertionSortOrdered_int_1 : ACode := .loop [0, 1, 2, 6] [] bl_slices_insertionSortOrdered_int_1
theorem L_slices_insertionSortOrdered_int_1 {T : Table} (ks : List Kt) (e : Env) (h : Heap) (Q : Ex → Env → Heap → Prop) : Xc T l_slices_insertionSortOrdered_int_1 ks e h Q = Xc T bl_slices_insertionSortOrdered_int_1 (.seq l_slices_insertionSortOrdered_int_1 :: ks) (e.keep [0, 1, 2, 6]) h Q := Xc_loop ks _ e h Q _ _
def k_slices_insertionSortOrdered_int : ACode := (.seq (.reg [xF 8 1, xS 9 (.bin .add .int (.t 8) (xI 1)), xT 6 9] [0, 1, 2, 6]) (.block 0 l_slices_insertionSortOrdered_int_1))
def c_slices_insertionSortOrdered_int : AFunc := ⟨k_slices_insertionSortOrdered_int, 49, [], [], [], []⟩
def bl_slices_siftDownOrdered_int_0 : ACode := (.block 1 (.seq (.reg [xF 11 8, xS 12 (.bin .mul .int (xI 2) (.t 11)), xS 13 (.bin .add .int (.t 12) (xI 1)), xT 9 13] [0, 2, 3, 8, 9]) (.seq (.seq (.reg [xF 14 9, xF 15 2, xS 16 (.bin .geq .int (.t 14) (.t 15))] [0, 2, 3, 8, 9, 16]) (.cond (.t 16)
 (.exit 0)
 .skip)) (.seq (.seq (.regd [xF 17 9, xS 18 (.bin .add .int (.t 17) (xI 1)), xF 19 2, xS 20 (.bin .lss .int (.t 18) (.t 19)), xF 21 20, xG 22 21 true (.mv (.t 0) false), xG 23 21 true (.mv (.t 3) false), xG 24 21 true (.mv (.t 9) false), xG 25 21 true (.bin .add .int (.t 23) (.t 24)), xG 26 21 true (.ia (.sl 1) (.t 22) (.t 25)), xG 27 21 true (.load 0 (.t 26)), xG 28 21 true (.mv (.t 0) false), xG 29 21 true (.mv (.t 3) false), xG 30 21 true (.mv (.t 9) false), xG 31 21 true (.bin .add .int (.t 29) (.t 30)), xG 32 21 true (.bin .add .int (.t 31) (xI 1)), xG 33 21 true (.ia (.sl 1) (.t 28) (.t 32)), xG 34 21 true (.load 0 (.t 33)), xG 35 21 true (.callp f_cmp_Less_int [(.t 27), (.t 34)] []), xS 36 (.pick (.t 21) (.t 35) (.c (.bool false)))] [0, 2, 3, 8, 9, 36] ([], []) []) (.cond (.t 36)
 (.reg [xT 37 9, xS 38 (.bin .add .int (.t 37) (xI 1)), xT 9 38] [0, 2, 3, 8, 9])
 .skip)) (.seq (.seq (.regd [xF 39 0, xF 40 3, xF 41 8, xS 42 (.bin .add .int (.t 40) (.t 41)), xS 43 (.ia (.sl 1) (.t 39) (.t 42)), xS 44 (.load 0 (.t 43)), xF 45 0, xF 46 3, xF 47 9, xS 48 (.bin .add .int (.t 46) (.t 47)), xS 49 (.ia (.sl 1) (.t 45) (.t 48)), xS 50 (.load 0 (.t 49)), xS 51 (.callp f_cmp_Less_int [(.t 44), (.t 50)] []), xS 52 (.un .not (.t 51))] [0, 2, 3, 8, 9, 52] ([], []) []) (.cond (.t 52)
 .ret
 .skip)) (.seq (.regd [xF 53 0, xF 54 3, xF 55 8, xS 56 (.bin .add .int (.t 54) (.t 55)), xF 57 0, xF 58 3, xF 59 9, xS 60 (.bin .add .int (.t 58) (.t 59)), xF 61 0, xF 62 3, xF 63 9, xS 64 (.bin .add .int (.t 62) (.t 63)), xS 65 (.ia (.sl 1) (.t 61) (.t 64)), xS 66 (.load 0 (.t 65)), xF 67 0, xF 68 3, xF 69 8, xS 70 (.bin .add .int (.t 68) (.t 69)), xS 71 (.ia (.sl 1) (.t 67) (.t 70)), xS 72 (.load 0 (.t 71)), xS 73 (.ia (.sl 1) (.t 53) (.t 56)), ⟨none, .store 1 (.t 73) (.t 66), none⟩, xS 74 (.ia (.sl 1) (.t 57) (.t 60)), ⟨none, .store 1 (.t 74) (.t 72), none⟩] [0, 2, 3, 9] ([], []) []) (.reg [xT 75 9, xT 8 75] [0, 2, 3, 8])))))))
def l_slices_siftDownOrdered_int_0 : ACode := .loop [0, 2, 3, 8] [] bl_slices_siftDownOrdered_int_0
theorem L_slices_siftDownOrdered_int_0 {T : Table} (ks : List Kt) (e : Env) (h : Heap) (Q : Ex → Env → Heap → Prop) : Xc T l_slices_siftDownOrdered_int_0 ks e h Q = Xc T bl_slices_siftDownOrdered_int_0 (.seq l_slices_siftDownOrdered_int_0 :: ks) (e.keep [0, 2, 3, 8]) h Q := Xc_loop ks _ e h Q _ _
def k_slices_siftDownOrdered_int : ACode := (.seq (.reg [xT 10 1, xT 8 10] [0, 2, 3, 8]) (.block 0 l_slices_siftDownOrdered_int_0))
def c_slices_siftDownOrdered_int : AFunc := ⟨k_slices_siftDownOrdered_int, 76, [], [], [], []⟩
def bl_slices_heapSortOrdered_int_0 : ACode := (.seq (.seq (.reg [xF 18 9, xS 19 (.bin .geq .int (.t 18) (xI 0))] [0, 6, 7, 8, 9, 19]) (.cond (.t 19)
 .skip
 (.exit 0))) (.seq (.block 1 (.reg [xF 22 0, xF 23 9, xF 24 8, xF 25 6, xS 26 (.callh f_slices_siftDownOrdered_int [(.t 22), (.t 23), (.t 24), (.t 25)])] [0, 6, 7, 8, 9])) (.reg [xT 20 9, xS 21 (.bin .sub .int (.t 20) (xI 1)), xT 9 21] [0, 6, 7, 8, 9])))
def l_slices_heapSortOrdered_int_0 : ACode := .loop [0, 6, 7, 8, 9] [] bl_slices_heapSortOrdered_int_0
theorem L_slices_heapSortOrdered_int_0 {T : Table} (ks : List Kt) (e : Env) (h : Heap) (Q : Ex → Env → Heap → Prop) : Xc T l_slices_heapSortOrdered_int_0 ks e h Q = Xc T bl_slices_heapSortOrdered_int_0 (.seq l_slices_heapSortOrdered_int_0 :: ks) (e.keep [0, 6, 7, 8, 9]) h Q := Xc_loop ks _ e h Q _ _
def bl_slices_heapSortOrdered_int_1 : ACode := (.seq (.seq (.reg [xF 29 10, xS 30 (.bin .geq .int (.t 29) (xI 0))] [0, 6, 7, 10, 30]) (.cond (.t 30)
 .skip
 (.exit 2))) (.seq (.block 3 (.seq (.regd [xF 33 0, xF 34 6, xF 35 0, xF 36 6, xF 37 10, xS 38 (.bin .add .int (.t 36) (.t 37)), xF 39 0, xF 40 6, xF 41 10, xS 42 (.bin .add .int (.t 40) (.t 41)), xS 43 (.ia (.sl 1) (.t 39) (.t 42)), xS 44 (.load 0 (.t 43)), xF 45 0, xF 46 6, xS 47 (.ia (.sl 1) (.t 45) (.t 46)), xS 48 (.load 0 (.t 47)), xS 49 (.ia (.sl 1) (.t 33) (.t 34)), ⟨none, .store 1 (.t 49) (.t 44), none⟩, xS 50 (.ia (.sl 1) (.t 35) (.t 38)), ⟨none, .store 1 (.t 50) (.t 48), none⟩] [0, 6, 7, 10] ([], []) []) (.reg [xF 51 0, xF 52 7, xF 53 10, xF 54 6, xS 55 (.callh f_slices_siftDownOrdered_int [(.t 51), (.t 52), (.t 53), (.t 54)])] [0, 6, 7, 10]))) (.reg [xT 31 10, xS 32 (.bin .sub .int (.t 31) (xI 1)), xT 10 32] [0, 6, 7, 10])))
def l_slices_heapSortOrdered_int_1 : ACode := .loop [0, 6, 7, 10] [] bl_slices_heapSortOrdered_int_1
theorem L_slices_heapSortOrdered_int_1 {T : Table} (ks : List Kt) (e : Env) (h : Heap) (Q : Ex → Env → Heap → Prop) : Xc T l_slices_heapSortOrdered_int_1 ks e h Q = Xc T bl_slices_heapSortOrdered_int_1 (.seq l_slices_heapSortOrdered_int_1 :: ks) (e.keep [0, 6, 7, 10]) h Q := Xc_loop ks _ e h Q _ _
def k_slices_heapSortOrdered_int : ACode := (.seq (.reg [xF 11 1, xT 6 11] [0, 1, 2, 6]) (.seq (.reg [xS 7 (.mv (xI 0) false)] [0, 1, 2, 6, 7]) (.seq (.reg [xT 12 2, xT 13 1, xS 14 (.bin .sub .int (.t 12) (.t 13)), xT 8 14] [0, 6, 7, 8]) (.seq (.seq (.reg [xF 15 8, xS 16 (.bin .sub .int (.t 15) (xI 1)), xS 17 (.bin .quo .int (.t 16) (xI 2)), xT 9 17] [0, 6, 7, 8, 9]) (.block 0 l_slices_heapSortOrdered_int_0)) (.seq (.reg [xT 27 8, xS 28 (.bin .sub .int (.t 27) (xI 1)), xT 10 28] [0, 6, 7, 10]) (.block 2 l_slices_heapSortOrdered_int_1))))))
def c_slices_heapSortOrdered_int : AFunc := ⟨k_slices_heapSortOrdered_int, 56, [], [], [], []⟩
def k_slices_nextPowerOfTwo : ACode := (.seq (.reg [xS 2 (.mv (.c (.int .u64 0)) false)] [0]) (.seq (.reg [xT 3 0, xS 4 (.conv (.i .u64) (.t 3)), xS 5 (.callp f_math_bits_Len [(.t 4)] []), xS 6 (.bin .shl .int (.c (.int .u64 1)) (.t 5)), xT 2 6] [2]) .ret))
def c_slices_nextPowerOfTwo : AFunc := ⟨k_slices_nextPowerOfTwo, 7, [.t 2], [], [], []⟩
def k_slices_xorshift_Next : ACode := (.seq (.reg [xS 2 (.mv (.c (.int .u64 0)) false)] [0]) (.seq (.regd [xF 3 0, xS 4 (.nilck (.t 3)), xS 5 (.load 0 (.t 4)), xF 6 0, xS 7 (.nilck (.t 6)), xS 8 (.load 0 (.t 7)), xS 9 (.bin .shl .int (.t 8) (.c (.int .u64 13))), xS 10 (.bin .xor .int (.t 5) (.t 9)), xS 11 (.nilck (.t 3)), ⟨none, .store 1 (.t 11) (.t 10), none⟩] [0] ([], []) []) (.seq (.regd [xF 12 0, xS 13 (.nilck (.t 12)), xS 14 (.load 0 (.t 13)), xF 15 0, xS 16 (.nilck (.t 15)), xS 17 (.load 0 (.t 16)), xS 18 (.bin .shr .int (.t 17) (.c (.int .u64 7))), xS 19 (.bin .xor .int (.t 14) (.t 18)), xS 20 (.nilck (.t 12)), ⟨none, .store 1 (.t 20) (.t 19), none⟩] [0] ([], []) []) (.seq (.regd [xF 21 0, xS 22 (.nilck (.t 21)), xS 23 (.load 0 (.t 22)), xF 24 0, xS 25 (.nilck (.t 24)), xS 26 (.load 0 (.t 25)), xS 27 (.bin .shl .int (.t 26) (.c (.int .u64 17))), xS 28 (.bin .xor .int (.t 23) (.t 27)), xS 29 (.nilck (.t 21)), ⟨none, .store 1 (.t 29) (.t 28), none⟩] [0] ([], []) []) (.seq (.reg [xT 30 0, xS 31 (.nilck (.t 30)), xS 32 (.load 0 (.t 31)), xT 2 32] [2]) .ret)))))
def c_slices_xorshift_Next : AFunc := ⟨k_slices_xorshift_Next, 33, [.t 2], [], [], []⟩
def bl_slices_breakPatternsOrdered_int_0 : ACode := (.seq (.seq (.reg [xF 26 9, xF 27 1, xF 28 6, xS 29 (.bin .quo .int (.t 28) (xI 4)), xS 30 (.bin .mul .int (.t 29) (xI 2)), xS 31 (.bin .add .int (.t 27) (.t 30)), xS 32 (.bin .add .int (.t 31) (xI 1)), xS 33 (.bin .leq .int (.t 26) (.t 32))] [0, 1, 6, 7, 8, 9, 33]) (.cond (.t 33)
 .skip
 (.exit 0))) (.seq (.block 1 (.seq (.reg [xS 36 (.callh f_slices_xorshift_Next [(.t 7)]), xF 37 8, xS 38 (.bin .sub .int (.t 37) (.c (.int .u64 1))), xS 39 (.bin .and .int (.t 36) (.t 38)), xS 40 (.conv (.i .i64) (.t 39)), xT 10 40] [0, 1, 6, 7, 8, 9, 10]) (.seq (.seq (.reg [xF 41 10, xF 42 6, xS 43 (.bin .geq .int (.t 41) (.t 42))] [0, 1, 6, 7, 8, 9, 10, 43]) (.cond (.t 43)
 (.reg [xT 44 10, xF 45 6, xS 46 (.bin .sub .int (.t 44) (.t 45)), xT 10 46] [0, 1, 6, 7, 8, 9, 10])
 .skip)) (.regd [xF 47 0, xF 48 9, xF 49 0, xF 50 1, xF 51 10, xS 52 (.bin .add .int (.t 50) (.t 51)), xF 53 0, xF 54 1, xF 55 10, xS 56 (.bin .add .int (.t 54) (.t 55)), xS 57 (.ia (.sl 1) (.t 53) (.t 56)), xS 58 (.load 0 (.t 57)), xF 59 0, xF 60 9, xS 61 (.ia (.sl 1) (.t 59) (.t 60)), xS 62 (.load 0 (.t 61)), xS 63 (.ia (.sl 1) (.t 47) (.t 48)), ⟨none, .store 1 (.t 63) (.t 58), none⟩, xS 64 (.ia (.sl 1) (.t 49) (.t 52)), ⟨none, .store 1 (.t 64) (.t 62), none⟩] [0, 1, 6, 7, 8, 9] ([], []) [])))) (.reg [xT 34 9, xS 35 (.bin .add .int (.t 34) (xI 1)), xT 9 35] [0, 1, 6, 7, 8, 9])))
def l_slices_breakPatternsOrdered_int_0 : ACode := .loop [0, 1, 6, 7, 8, 9] [] bl_slices_breakPatternsOrdered_int_0
theorem L_slices_breakPatternsOrdered_int_0 {T : Table} (ks : List Kt) (e : Env) (h : Heap) (Q : Ex → Env → Heap → Prop) : Xc T l_slices_breakPatternsOrdered_int_0 ks e h Q = Xc T bl_slices_breakPatternsOrdered_int_0 (.seq l_slices_breakPatternsOrdered_int_0 :: ks) (e.keep [0, 1, 6, 7, 8, 9]) h Q := Xc_loop ks _ e h Q _ _
def k_slices_breakPatternsOrdered_int : ACode := (.seq (.reg [xT 11 2, xF 12 1, xS 13 (.bin .sub .int (.t 11) (.t 12)), xT 6 13] [0, 1, 6]) (.seq (.reg [xF 14 6, xS 15 (.bin .geq .int (.t 14) (xI 8))] [0, 1, 6, 15]) (.cond (.t 15)
 (.seq (.reg [xF 16 6, xS 17 (.conv (.i .u64) (.t 16)), xS 7 (.alloc [(.int .u64 0)]), ⟨none, .store 1 (.t 7) (.t 17), none⟩] [0, 1, 6, 7]) (.seq (.reg [xF 18 6, xS 19 (.callp f_slices_nextPowerOfTwo [(.t 18)] []), xT 8 19] [0, 1, 6, 7, 8]) (.seq (.reg [xF 20 1, xF 21 6, xS 22 (.bin .quo .int (.t 21) (xI 4)), xS 23 (.bin .mul .int (.t 22) (xI 2)), xS 24 (.bin .add .int (.t 20) (.t 23)), xS 25 (.bin .sub .int (.t 24) (xI 1)), xT 9 25] [0, 1, 6, 7, 8, 9]) (.block 0 l_slices_breakPatternsOrdered_int_0))))
 .skip)))
def c_slices_breakPatternsOrdered_int : AFunc := ⟨k_slices_breakPatternsOrdered_int, 65, [], [], [], []⟩
def k_slices_order2Ordered_int : ACode := (.seq (.reg [xS 8 (.mv (xI 0) false), xS 9 (.mv (xI 0) false)] [0, 1, 2, 3]) (.seq (.seq (.regd [xF 10 0, xF 11 2, xS 12 (.ia (.sl 1) (.t 10) (.t 11)), xS 13 (.load 0 (.t 12)), xF 14 0, xF 15 1, xS 16 (.ia (.sl 1) (.t 14) (.t 15)), xS 17 (.load 0 (.t 16)), xS 18 (.callp f_cmp_Less_int [(.t 13), (.t 17)] [])] [1, 2, 3, 18] ([], []) []) (.cond (.t 18)
 (.seq (.reg [xT 19 3, xS 20 (.nilck (.t 19)), xS 21 (.load 0 (.t 20)), xS 22 (.bin .add .int (.t 21) (xI 1)), xS 23 (.nilck (.t 19)), ⟨none, .store 1 (.t 23) (.t 22), none⟩] [1, 2]) (.seq (.reg [xT 24 2, xT 25 1, xT 8 24, xT 9 25] [8, 9]) .ret))
 .skip)) (.seq (.reg [xT 26 1, xT 27 2, xT 8 26, xT 9 27] [8, 9]) .ret)))
def c_slices_order2Ordered_int : AFunc := ⟨k_slices_order2Ordered_int, 28, [.t 8, .t 9], [], [], []⟩
def k_slices_medianOrdered_int : ACode := (.seq (.reg [xS 10 (.mv (xI 0) false)] [0, 1, 2, 3, 4]) (.seq (.reg [xF 12 0, xT 13 1, xT 14 2, xF 15 4, xS 16 (.callh f_slices_order2Ordered_int [(.t 12), (.t 13), (.t 14), (.t 15)]), xT 11 16, xE 17 11 0, xE 18 11 1, xT 1 17, xT 2 18] [0, 1, 2, 3, 4]) (.seq (.reg [xF 20 0, xT 21 2, xT 22 3, xF 23 4, xS 24 (.callh f_slices_order2Ordered_int [(.t 20), (.t 21), (.t 22), (.t 23)]), xT 19 24, xE 25 19 0, xE 26 19 1, xT 2 25, xT 3 26] [0, 1, 2, 4]) (.seq (.reg [xT 28 0, xT 29 1, xT 30 2, xT 31 4, xS 32 (.callh f_slices_order2Ordered_int [(.t 28), (.t 29), (.t 30), (.t 31)]), xT 27 32, xE 33 27 0, xE 34 27 1, xT 1 33, xT 2 34] [2]) (.seq (.reg [xT 35 2, xT 10 35] [10]) .ret)))))
def c_slices_medianOrdered_int : AFunc := ⟨k_slices_medianOrdered_int, 36, [.t 10], [], [], []⟩
def k_slices_medianAdjacentOrdered_int : ACode := (.seq (.reg [xS 6 (.mv (xI 0) false)] [0, 1, 2]) (.seq (.reg [xT 7 0, xF 8 1, xS 9 (.bin .sub .int (.t 8) (xI 1)), xF 10 1, xT 11 1, xS 12 (.bin .add .int (.t 11) (xI 1)), xT 13 2, xS 14 (.callh f_slices_medianOrdered_int [(.t 7), (.t 9), (.t 10), (.t 12), (.t 13)]), xT 6 14] [6]) .ret))
def c_slices_medianAdjacentOrdered_int : AFunc := ⟨k_slices_medianAdjacentOrdered_int, 15, [.t 6], [], [], []⟩
def k_slices_choosePivotOrdered_int : ACode := (.seq (.reg [xS 6 (.mv (xI 0) false), xS 7 (.mv (xI 0) false)] [0, 1, 2]) (.seq (.reg [xT 13 2, xF 14 1, xS 15 (.bin .sub .int (.t 13) (.t 14)), xT 8 15] [0, 1, 8]) (.seq (.reg [xS 9 (.alloc [(.int .i64 0)])] [0, 1, 8, 9]) (.seq (.reg [xF 16 1, xF 17 8, xS 18 (.bin .quo .int (.t 17) (xI 4)), xS 19 (.bin .mul .int (.t 18) (xI 1)), xS 20 (.bin .add .int (.t 16) (.t 19)), xT 10 20] [0, 1, 8, 9, 10]) (.seq (.reg [xF 21 1, xF 22 8, xS 23 (.bin .quo .int (.t 22) (xI 4)), xS 24 (.bin .mul .int (.t 23) (xI 2)), xS 25 (.bin .add .int (.t 21) (.t 24)), xT 11 25] [0, 1, 8, 9, 10, 11]) (.seq (.reg [xT 26 1, xF 27 8, xS 28 (.bin .quo .int (.t 27) (xI 4)), xS 29 (.bin .mul .int (.t 28) (xI 3)), xS 30 (.bin .add .int (.t 26) (.t 29)), xT 12 30] [0, 8, 9, 10, 11, 12]) (.seq (.seq (.reg [xF 31 8, xS 32 (.bin .geq .int (.t 31) (xI 8))] [0, 8, 9, 10, 11, 12, 32]) (.cond (.t 32)
 (.seq (.seq (.reg [xT 33 8, xS 34 (.bin .geq .int (.t 33) (xI 50))] [0, 9, 10, 11, 12, 34]) (.cond (.t 34)
 (.seq (.reg [xF 35 0, xT 36 10, xS 37 (.callh f_slices_medianAdjacentOrdered_int [(.t 35), (.t 36), (.t 9)]), xT 10 37] [0, 9, 10, 11, 12]) (.seq (.reg [xF 38 0, xT 39 11, xS 40 (.callh f_slices_medianAdjacentOrdered_int [(.t 38), (.t 39), (.t 9)]), xT 11 40] [0, 9, 10, 11, 12]) (.reg [xF 41 0, xT 42 12, xS 43 (.callh f_slices_medianAdjacentOrdered_int [(.t 41), (.t 42), (.t 9)]), xT 12 43] [0, 9, 10, 11, 12])))
 .skip)) (.reg [xT 44 0, xT 45 10, xT 46 11, xT 47 12, xS 48 (.callh f_slices_medianOrdered_int [(.t 44), (.t 45), (.t 46), (.t 47), (.t 9)]), xT 11 48] [9, 11]))
 .skip)) (.seq (.reg [xS 49 (.load 0 (.t 9))] [11, 49]) (.block 0 (.seq (.reg [xS 52 (.bin .eql .int (.t 49) (xI 0)), xT 51 52] [11, 49, 51]) (.cond (.t 51)
 (.seq (.reg [xT 53 11, xT 6 53, xS 7 (.mv (xI 1) false)] [6, 7]) .ret)
 (.seq (.reg [xS 55 (.bin .eql .int (.t 49) (xI 12)), xT 54 55] [11, 54]) (.cond (.t 54)
 (.seq (.reg [xT 56 11, xT 6 56, xS 7 (.mv (xI 2) false)] [6, 7]) .ret)
 (.seq (.reg [xT 50 11, xT 6 50, xS 7 (.mv (xI 0) false)] [6, 7]) .ret))))))))))))))
def c_slices_choosePivotOrdered_int : AFunc := ⟨k_slices_choosePivotOrdered_int, 57, [.t 6, .t 7], [], [], []⟩
def bl_slices_reverseRangeOrdered_int_0 : ACode := (.seq (.seq (.reg [xF 11 6, xF 12 7, xS 13 (.bin .lss .int (.t 11) (.t 12))] [0, 6, 7, 13]) (.cond (.t 13)
 .skip
 (.exit 0))) (.block 1 (.seq (.regd [xF 14 0, xF 15 6, xF 16 0, xF 17 7, xF 18 0, xF 19 7, xS 20 (.ia (.sl 1) (.t 18) (.t 19)), xS 21 (.load 0 (.t 20)), xF 22 0, xF 23 6, xS 24 (.ia (.sl 1) (.t 22) (.t 23)), xS 25 (.load 0 (.t 24)), xS 26 (.ia (.sl 1) (.t 14) (.t 15)), ⟨none, .store 1 (.t 26) (.t 21), none⟩, xS 27 (.ia (.sl 1) (.t 16) (.t 17)), ⟨none, .store 1 (.t 27) (.t 25), none⟩] [0, 6, 7] ([], []) []) (.seq (.reg [xT 28 6, xS 29 (.bin .add .int (.t 28) (xI 1)), xT 6 29] [0, 6, 7]) (.reg [xT 30 7, xS 31 (.bin .sub .int (.t 30) (xI 1)), xT 7 31] [0, 6, 7])))))
def l_slices_reverseRangeOrdered_int_0 : ACode := .loop [0, 6, 7] [] bl_slices_reverseRangeOrdered_int_0
theorem L_slices_reverseRangeOrdered_int_0 {T : Table} (ks : List Kt) (e : Env) (h : Heap) (Q : Ex → Env → Heap → Prop) : Xc T l_slices_reverseRangeOrdered_int_0 ks e h Q = Xc T bl_slices_reverseRangeOrdered_int_0 (.seq l_slices_reverseRangeOrdered_int_0 :: ks) (e.keep [0, 6, 7]) h Q := Xc_loop ks _ e h Q _ _
def k_slices_reverseRangeOrdered_int : ACode := (.seq (.reg [xT 8 1, xT 6 8] [0, 2, 6]) (.seq (.reg [xT 9 2, xS 10 (.bin .sub .int (.t 9) (xI 1)), xT 7 10] [0, 6, 7]) (.block 0 l_slices_reverseRangeOrdered_int_0)))
def c_slices_reverseRangeOrdered_int : AFunc := ⟨k_slices_reverseRangeOrdered_int, 32, [], [], [], []⟩
def bl_slices_partialInsertionSortOrdered_int_0 : ACode := (.seq (.seq (.regd [xF 17 7, xF 18 2, xS 19 (.bin .lss .int (.t 17) (.t 18)), xF 20 19, xG 21 20 true (.mv (.t 0) false), xG 22 20 true (.mv (.t 7) false), xG 23 20 true (.ia (.sl 1) (.t 21) (.t 22)), xG 24 20 true (.load 0 (.t 23)), xG 25 20 true (.mv (.t 0) false), xG 26 20 true (.mv (.t 7) false), xG 27 20 true (.bin .sub .int (.t 26) (xI 1)), xG 28 20 true (.ia (.sl 1) (.t 25) (.t 27)), xG 29 20 true (.load 0 (.t 28)), xG 30 20 true (.callp f_cmp_Less_int [(.t 24), (.t 29)] []), xG 31 20 true (.un .not (.t 30)), xS 32 (.pick (.t 20) (.t 31) (.c (.bool false)))] [0, 1, 2, 7, 8, 32] ([], []) []) (.cond (.t 32)
 .skip
 (.exit 2))) (.block 3 (.reg [xT 33 7, xS 34 (.bin .add .int (.t 33) (xI 1)), xT 7 34] [0, 1, 2, 7, 8])))
def l_slices_partialInsertionSortOrdered_int_0 : ACode := .loop [0, 1, 2, 7, 8] [] bl_slices_partialInsertionSortOrdered_int_0
theorem L_slices_partialInsertionSortOrdered_int_0 {T : Table} (ks : List Kt) (e : Env) (h : Heap) (Q : Ex → Env → Heap → Prop) : Xc T l_slices_partialInsertionSortOrdered_int_0 ks e h Q = Xc T bl_slices_partialInsertionSortOrdered_int_0 (.seq l_slices_partialInsertionSortOrdered_int_0 :: ks) (e.keep [0, 1, 2, 7, 8]) h Q := Xc_loop ks _ e h Q _ _
def bl_slices_partialInsertionSortOrdered_int_1 : ACode := (.seq (.seq (.reg [xF 64 9, xS 65 (.bin .geq .int (.t 64) (xI 1))] [0, 1, 2, 7, 8, 9, 65]) (.cond (.t 65)
 .skip
 (.exit 4))) (.seq (.block 5 (.seq (.seq (.regd [xF 68 0, xF 69 9, xS 70 (.ia (.sl 1) (.t 68) (.t 69)), xS 71 (.load 0 (.t 70)), xF 72 0, xF 73 9, xS 74 (.bin .sub .int (.t 73) (xI 1)), xS 75 (.ia (.sl 1) (.t 72) (.t 74)), xS 76 (.load 0 (.t 75)), xS 77 (.callp f_cmp_Less_int [(.t 71), (.t 76)] []), xS 78 (.un .not (.t 77))] [0, 1, 2, 7, 8, 9, 78] ([], []) []) (.cond (.t 78)
 (.exit 4)
 .skip)) (.regd [xF 79 0, xF 80 9, xF 81 0, xF 82 9, xS 83 (.bin .sub .int (.t 82) (xI 1)), xF 84 0, xF 85 9, xS 86 (.bin .sub .int (.t 85) (xI 1)), xS 87 (.ia (.sl 1) (.t 84) (.t 86)), xS 88 (.load 0 (.t 87)), xF 89 0, xF 90 9, xS 91 (.ia (.sl 1) (.t 89) (.t 90)), xS 92 (.load 0 (.t 91)), xS 93 (.ia (.sl 1) (.t 79) (.t 80)), ⟨none, .store 1 (.t 93) (.t 88), none⟩, xS 94 (.ia (.sl 1) (.t 81) (.t 83)), ⟨none, .store 1 (.t 94) (.t 92), none⟩] [0, 1, 2, 7, 8, 9] ([], []) []))) (.reg [xT 66 9, xS 67 (.bin .sub .int (.t 66) (xI 1)), xT 9 67] [0, 1, 2, 7, 8, 9])))
def l_slices_partialInsertionSortOrdered_int_1 : ACode := .loop [0, 1, 2, 7, 8, 9] [] bl_slices_partialInsertionSortOrdered_int_1
theorem L_slices_partialInsertionSortOrdered_int_1 {T : Table} (ks : List Kt) (e : Env) (h : Heap) (Q : Ex → Env → Heap → Prop) : Xc T l_slices_partialInsertionSortOrdered_int_1 ks e h Q = Xc T bl_slices_partialInsertionSortOrdered_int_1 (.seq l_slices_partialInsertionSortOrdered_int_1 :: ks) (e.keep [0, 1, 2, 7, 8, 9]) h Q := Xc_loop ks _ e h Q _ _
def bl_slices_partialInsertionSortOrdered_int_2 : ACode := (.seq (.seq (.reg [xF 101 10, xF 102 2, xS 103 (.bin .lss .int (.t 101) (.t 102))] [0, 1, 2, 7, 8, 10, 103]) (.cond (.t 103)
 .skip
 (.exit 6))) (.seq (.block 7 (.seq (.seq (.regd [xF 106 0, xF 107 10, xS 108 (.ia (.sl 1) (.t 106) (.t 107)), xS 109 (.load 0 (.t 108)), xF 110 0, xF 111 10, xS 112 (.bin .sub .int (.t 111) (xI 1)), xS 113 (.ia (.sl 1) (.t 110) (.t 112)), xS 114 (.load 0 (.t 113)), xS 115 (.callp f_cmp_Less_int [(.t 109), (.t 114)] []), xS 116 (.un .not (.t 115))] [0, 1, 2, 7, 8, 10, 116] ([], []) []) (.cond (.t 116)
 (.exit 6)
 .skip)) (.regd [xF 117 0, xF 118 10, xF 119 0, xF 120 10, xS 121 (.bin .sub .int (.t 120) (xI 1)), xF 122 0, xF 123 10, xS 124 (.bin .sub .int (.t 123) (xI 1)), xS 125 (.ia (.sl 1) (.t 122) (.t 124)), xS 126 (.load 0 (.t 125)), xF 127 0, xF 128 10, xS 129 (.ia (.sl 1) (.t 127) (.t 128)), xS 130 (.load 0 (.t 129)), xS 131 (.ia (.sl 1) (.t 117) (.t 118)), ⟨none, .store 1 (.t 131) (.t 126), none⟩, xS 132 (.ia (.sl 1) (.t 119) (.t 121)), ⟨none, .store 1 (.t 132) (.t 130), none⟩] [0, 1, 2, 7, 8, 10] ([], []) []))) (.reg [xT 104 10, xS 105 (.bin .add .int (.t 104) (xI 1)), xT 10 105] [0, 1, 2, 7, 8, 10])))
def l_slices_partialInsertionSortOrdered_int_2 : ACode := .loop [0, 1, 2, 7, 8, 10] [] bl_slices_partialInsertionSortOrdered_int_2
theorem L_slices_partialInsertionSortOrdered_int_2 {T : Table} (ks : List Kt) (e : Env) (h : Heap) (Q : Ex → Env → Heap → Prop) : Xc T l_slices_partialInsertionSortOrdered_int_2 ks e h Q = Xc T bl_slices_partialInsertionSortOrdered_int_2 (.seq l_slices_partialInsertionSortOrdered_int_2 :: ks) (e.keep [0, 1, 2, 7, 8, 10]) h Q := Xc_loop ks _ e h Q _ _
def bl_slices_partialInsertionSortOrdered_int_3 : ACode := (.seq (.seq (.reg [xF 13 8, xS 14 (.bin .lss .int (.t 13) (xI 5))] [0, 1, 2, 7, 8, 14]) (.cond (.t 14)
 .skip
 (.exit 0))) (.seq (.block 1 (.seq (.block 2 l_slices_partialInsertionSortOrdered_int_0) (.seq (.seq (.reg [xF 35 7, xF 36 2, xS 37 (.bin .eql .int (.t 35) (.t 36))] [0, 1, 2, 7, 8, 37]) (.cond (.t 37)
 (.seq (.reg [xS 6 (.mv (.c (.bool true)) false)] [6]) .ret)
 .skip)) (.seq (.seq (.reg [xF 38 2, xF 39 1, xS 40 (.bin .sub .int (.t 38) (.t 39)), xS 41 (.bin .lss .int (.t 40) (xI 50))] [0, 1, 2, 7, 8, 41]) (.cond (.t 41)
 (.seq (.reg [xS 6 (.mv (.c (.bool false)) false)] [6]) .ret)
 .skip)) (.seq (.regd [xF 42 0, xF 43 7, xF 44 0, xF 45 7, xS 46 (.bin .sub .int (.t 45) (xI 1)), xF 47 0, xF 48 7, xS 49 (.bin .sub .int (.t 48) (xI 1)), xS 50 (.ia (.sl 1) (.t 47) (.t 49)), xS 51 (.load 0 (.t 50)), xF 52 0, xF 53 7, xS 54 (.ia (.sl 1) (.t 52) (.t 53)), xS 55 (.load 0 (.t 54)), xS 56 (.ia (.sl 1) (.t 42) (.t 43)), ⟨none, .store 1 (.t 56) (.t 51), none⟩, xS 57 (.ia (.sl 1) (.t 44) (.t 46)), ⟨none, .store 1 (.t 57) (.t 55), none⟩] [0, 1, 2, 7, 8] ([], []) []) (.seq (.seq (.reg [xF 58 7, xF 59 1, xS 60 (.bin .sub .int (.t 58) (.t 59)), xS 61 (.bin .geq .int (.t 60) (xI 2))] [0, 1, 2, 7, 8, 61]) (.cond (.t 61)
 (.seq (.reg [xF 62 7, xS 63 (.bin .sub .int (.t 62) (xI 1)), xT 9 63] [0, 1, 2, 7, 8, 9]) (.block 4 l_slices_partialInsertionSortOrdered_int_1))
 .skip)) (.seq (.reg [xF 95 2, xF 96 7, xS 97 (.bin .sub .int (.t 95) (.t 96)), xS 98 (.bin .geq .int (.t 97) (xI 2))] [0, 1, 2, 7, 8, 98]) (.cond (.t 98)
 (.seq (.reg [xF 99 7, xS 100 (.bin .add .int (.t 99) (xI 1)), xT 10 100] [0, 1, 2, 7, 8, 10]) (.block 6 l_slices_partialInsertionSortOrdered_int_2))
 .skip)))))))) (.reg [xT 15 8, xS 16 (.bin .add .int (.t 15) (xI 1)), xT 8 16] [0, 1, 2, 7, 8])))
def l_slices_partialInsertionSortOrdered_int_3 : ACode := .loop [0, 1, 2, 7, 8] [] bl_slices_partialInsertionSortOrdered_int_3
theorem L_slices_partialInsertionSortOrdered_int_3 {T : Table} (ks : List Kt) (e : Env) (h : Heap) (Q : Ex → Env → Heap → Prop) : Xc T l_slices_partialInsertionSortOrdered_int_3 ks e h Q = Xc T bl_slices_partialInsertionSortOrdered_int_3 (.seq l_slices_partialInsertionSortOrdered_int_3 :: ks) (e.keep [0, 1, 2, 7, 8]) h Q := Xc_loop ks _ e h Q _ _
def k_slices_partialInsertionSortOrdered_int : ACode := (.seq (.reg [xS 6 (.mv (.c (.bool false)) false)] [0, 1, 2]) (.seq (.reg [xF 11 1, xS 12 (.bin .add .int (.t 11) (xI 1)), xT 7 12] [0, 1, 2, 7]) (.seq (.seq (.reg [xS 8 (.mv (xI 0) false)] [0, 1, 2, 7, 8]) (.block 0 l_slices_partialInsertionSortOrdered_int_3)) (.seq (.reg [xS 6 (.mv (.c (.bool false)) false)] [6]) .ret))))
def c_slices_partialInsertionSortOrdered_int : AFunc := ⟨k_slices_partialInsertionSortOrdered_int, 133, [.t 6], [], [], []⟩
def bl_slices_partitionEqualOrdered_int_0 : ACode := (.seq (.seq (.regd [xF 29 9, xF 30 10, xS 31 (.bin .leq .int (.t 29) (.t 30)), xF 32 31, xG 33 32 true (.mv (.t 0) false), xG 34 32 true (.mv (.t 1) false), xG 35 32 true (.ia (.sl 1) (.t 33) (.t 34)), xG 36 32 true (.load 0 (.t 35)), xG 37 32 true (.mv (.t 0) false), xG 38 32 true (.mv (.t 9) false), xG 39 32 true (.ia (.sl 1) (.t 37) (.t 38)), xG 40 32 true (.load 0 (.t 39)), xG 41 32 true (.callp f_cmp_Less_int [(.t 36), (.t 40)] []), xG 42 32 true (.un .not (.t 41)), xS 43 (.pick (.t 32) (.t 42) (.c (.bool false)))] [0, 1, 9, 10, 43] ([], []) []) (.cond (.t 43)
 .skip
 (.exit 2))) (.block 3 (.reg [xT 44 9, xS 45 (.bin .add .int (.t 44) (xI 1)), xT 9 45] [0, 1, 9, 10])))
def l_slices_partitionEqualOrdered_int_0 : ACode := .loop [0, 1, 9, 10] [] bl_slices_partitionEqualOrdered_int_0
theorem L_slices_partitionEqualOrdered_int_0 {T : Table} (ks : List Kt) (e : Env) (h : Heap) (Q : Ex → Env → Heap → Prop) : Xc T l_slices_partitionEqualOrdered_int_0 ks e h Q = Xc T bl_slices_partitionEqualOrdered_int_0 (.seq l_slices_partitionEqualOrdered_int_0 :: ks) (e.keep [0, 1, 9, 10]) h Q := Xc_loop ks _ e h Q _ _
def bl_slices_partitionEqualOrdered_int_1 : ACode := (.seq (.seq (.regd [xF 46 9, xF 47 10, xS 48 (.bin .leq .int (.t 46) (.t 47)), xF 49 48, xG 50 49 true (.mv (.t 0) false), xG 51 49 true (.mv (.t 1) false), xG 52 49 true (.ia (.sl 1) (.t 50) (.t 51)), xG 53 49 true (.load 0 (.t 52)), xG 54 49 true (.mv (.t 0) false), xG 55 49 true (.mv (.t 10) false), xG 56 49 true (.ia (.sl 1) (.t 54) (.t 55)), xG 57 49 true (.load 0 (.t 56)), xG 58 49 true (.callp f_cmp_Less_int [(.t 53), (.t 57)] []), xS 59 (.pick (.t 49) (.t 58) (.c (.bool false)))] [0, 1, 9, 10, 59] ([], []) []) (.cond (.t 59)
 .skip
 (.exit 4))) (.block 5 (.reg [xT 60 10, xS 61 (.bin .sub .int (.t 60) (xI 1)), xT 10 61] [0, 1, 9, 10])))
def l_slices_partitionEqualOrdered_int_1 : ACode := .loop [0, 1, 9, 10] [] bl_slices_partitionEqualOrdered_int_1
theorem L_slices_partitionEqualOrdered_int_1 {T : Table} (ks : List Kt) (e : Env) (h : Heap) (Q : Ex → Env → Heap → Prop) : Xc T l_slices_partitionEqualOrdered_int_1 ks e h Q = Xc T bl_slices_partitionEqualOrdered_int_1 (.seq l_slices_partitionEqualOrdered_int_1 :: ks) (e.keep [0, 1, 9, 10]) h Q := Xc_loop ks _ e h Q _ _
def bl_slices_partitionEqualOrdered_int_2 : ACode := (.block 1 (.seq (.block 2 l_slices_partitionEqualOrdered_int_0) (.seq (.block 4 l_slices_partitionEqualOrdered_int_1) (.seq (.seq (.reg [xF 62 9, xF 63 10, xS 64 (.bin .gtr .int (.t 62) (.t 63))] [0, 1, 9, 10, 64]) (.cond (.t 64)
 (.exit 0)
 .skip)) (.seq (.regd [xF 65 0, xF 66 9, xF 67 0, xF 68 10, xF 69 0, xF 70 10, xS 71 (.ia (.sl 1) (.t 69) (.t 70)), xS 72 (.load 0 (.t 71)), xF 73 0, xF 74 9, xS 75 (.ia (.sl 1) (.t 73) (.t 74)), xS 76 (.load 0 (.t 75)), xS 77 (.ia (.sl 1) (.t 65) (.t 66)), ⟨none, .store 1 (.t 77) (.t 72), none⟩, xS 78 (.ia (.sl 1) (.t 67) (.t 68)), ⟨none, .store 1 (.t 78) (.t 76), none⟩] [0, 1, 9, 10] ([], []) []) (.seq (.reg [xT 79 9, xS 80 (.bin .add .int (.t 79) (xI 1)), xT 9 80] [0, 1, 9, 10]) (.reg [xT 81 10, xS 82 (.bin .sub .int (.t 81) (xI 1)), xT 10 82] [0, 1, 9, 10])))))))
def l_slices_partitionEqualOrdered_int_2 : ACode := .loop [0, 1, 9, 10] [] bl_slices_partitionEqualOrdered_int_2
theorem L_slices_partitionEqualOrdered_int_2 {T : Table} (ks : List Kt) (e : Env) (h : Heap) (Q : Ex → Env → Heap → Prop) : Xc T l_slices_partitionEqualOrdered_int_2 ks e h Q = Xc T bl_slices_partitionEqualOrdered_int_2 (.seq l_slices_partitionEqualOrdered_int_2 :: ks) (e.keep [0, 1, 9, 10]) h Q := Xc_loop ks _ e h Q _ _
def k_slices_partitionEqualOrdered_int : ACode := (.seq (.reg [xS 8 (.mv (xI 0) false)] [0, 1, 2, 3]) (.seq (.regd [xF 11 0, xF 12 1, xF 13 0, xF 14 3, xF 15 0, xF 16 3, xS 17 (.ia (.sl 1) (.t 15) (.t 16)), xS 18 (.load 0 (.t 17)), xF 19 0, xF 20 1, xS 21 (.ia (.sl 1) (.t 19) (.t 20)), xS 22 (.load 0 (.t 21)), xS 23 (.ia (.sl 1) (.t 11) (.t 12)), ⟨none, .store 1 (.t 23) (.t 18), none⟩, xS 24 (.ia (.sl 1) (.t 13) (.t 14)), ⟨none, .store 1 (.t 24) (.t 22), none⟩] [0, 1, 2] ([], []) []) (.seq (.reg [xF 25 1, xS 26 (.bin .add .int (.t 25) (xI 1)), xT 27 2, xS 28 (.bin .sub .int (.t 27) (xI 1)), xT 9 26, xT 10 28] [0, 1, 9, 10]) (.seq (.block 0 l_slices_partitionEqualOrdered_int_2) (.seq (.reg [xT 83 9, xT 8 83] [8]) .ret)))))
def c_slices_partitionEqualOrdered_int : AFunc := ⟨k_slices_partitionEqualOrdered_int, 84, [.t 8], [], [], []⟩
def bl_slices_partitionOrdered_int_0 : ACode := (.seq (.seq (.regd [xF 30 10, xF 31 11, xS 32 (.bin .leq .int (.t 30) (.t 31)), xF 33 32, xG 34 33 true (.mv (.t 0) false), xG 35 33 true (.mv (.t 10) false), xG 36 33 true (.ia (.sl 1) (.t 34) (.t 35)), xG 37 33 true (.load 0 (.t 36)), xG 38 33 true (.mv (.t 0) false), xG 39 33 true (.mv (.t 1) false), xG 40 33 true (.ia (.sl 1) (.t 38) (.t 39)), xG 41 33 true (.load 0 (.t 40)), xG 42 33 true (.callp f_cmp_Less_int [(.t 37), (.t 41)] []), xS 43 (.pick (.t 33) (.t 42) (.c (.bool false)))] [0, 1, 10, 11, 43] ([], []) []) (.cond (.t 43)
 .skip
 (.exit 0))) (.block 1 (.reg [xT 44 10, xS 45 (.bin .add .int (.t 44) (xI 1)), xT 10 45] [0, 1, 10, 11])))
def l_slices_partitionOrdered_int_0 : ACode := .loop [0, 1, 10, 11] [] bl_slices_partitionOrdered_int_0
theorem L_slices_partitionOrdered_int_0 {T : Table} (ks : List Kt) (e : Env) (h : Heap) (Q : Ex → Env → Heap → Prop) : Xc T l_slices_partitionOrdered_int_0 ks e h Q = Xc T bl_slices_partitionOrdered_int_0 (.seq l_slices_partitionOrdered_int_0 :: ks) (e.keep [0, 1, 10, 11]) h Q := Xc_loop ks _ e h Q _ _
def bl_slices_partitionOrdered_int_1 : ACode := (.seq (.seq (.regd [xF 46 10, xF 47 11, xS 48 (.bin .leq .int (.t 46) (.t 47)), xF 49 48, xG 50 49 true (.mv (.t 0) false), xG 51 49 true (.mv (.t 11) false), xG 52 49 true (.ia (.sl 1) (.t 50) (.t 51)), xG 53 49 true (.load 0 (.t 52)), xG 54 49 true (.mv (.t 0) false), xG 55 49 true (.mv (.t 1) false), xG 56 49 true (.ia (.sl 1) (.t 54) (.t 55)), xG 57 49 true (.load 0 (.t 56)), xG 58 49 true (.callp f_cmp_Less_int [(.t 53), (.t 57)] []), xG 59 49 true (.un .not (.t 58)), xS 60 (.pick (.t 49) (.t 59) (.c (.bool false)))] [0, 1, 10, 11, 60] ([], []) []) (.cond (.t 60)
 .skip
 (.exit 2))) (.block 3 (.reg [xT 61 11, xS 62 (.bin .sub .int (.t 61) (xI 1)), xT 11 62] [0, 1, 10, 11])))
def l_slices_partitionOrdered_int_1 : ACode := .loop [0, 1, 10, 11] [] bl_slices_partitionOrdered_int_1
theorem L_slices_partitionOrdered_int_1 {T : Table} (ks : List Kt) (e : Env) (h : Heap) (Q : Ex → Env → Heap → Prop) : Xc T l_slices_partitionOrdered_int_1 ks e h Q = Xc T bl_slices_partitionOrdered_int_1 (.seq l_slices_partitionOrdered_int_1 :: ks) (e.keep [0, 1, 10, 11]) h Q := Xc_loop ks _ e h Q _ _
def bl_slices_partitionOrdered_int_2 : ACode := (.seq (.seq (.regd [xF 99 10, xF 100 11, xS 101 (.bin .leq .int (.t 99) (.t 100)), xF 102 101, xG 103 102 true (.mv (.t 0) false), xG 104 102 true (.mv (.t 10) false), xG 105 102 true (.ia (.sl 1) (.t 103) (.t 104)), xG 106 102 true (.load 0 (.t 105)), xG 107 102 true (.mv (.t 0) false), xG 108 102 true (.mv (.t 1) false), xG 109 102 true (.ia (.sl 1) (.t 107) (.t 108)), xG 110 102 true (.load 0 (.t 109)), xG 111 102 true (.callp f_cmp_Less_int [(.t 106), (.t 110)] []), xS 112 (.pick (.t 102) (.t 111) (.c (.bool false)))] [0, 1, 10, 11, 112] ([], []) []) (.cond (.t 112)
 .skip
 (.exit 6))) (.block 7 (.reg [xT 113 10, xS 114 (.bin .add .int (.t 113) (xI 1)), xT 10 114] [0, 1, 10, 11])))
def l_slices_partitionOrdered_int_2 : ACode := .loop [0, 1, 10, 11] [] bl_slices_partitionOrdered_int_2
theorem L_slices_partitionOrdered_int_2 {T : Table} (ks : List Kt) (e : Env) (h : Heap) (Q : Ex → Env → Heap → Prop) : Xc T l_slices_partitionOrdered_int_2 ks e h Q = Xc T bl_slices_partitionOrdered_int_2 (.seq l_slices_partitionOrdered_int_2 :: ks) (e.keep [0, 1, 10, 11]) h Q := Xc_loop ks _ e h Q _ _
def bl_slices_partitionOrdered_int_3 : ACode := (.seq (.seq (.regd [xF 115 10, xF 116 11, xS 117 (.bin .leq .int (.t 115) (.t 116)), xF 118 117, xG 119 118 true (.mv (.t 0) false), xG 120 118 true (.mv (.t 11) false), xG 121 118 true (.ia (.sl 1) (.t 119) (.t 120)), xG 122 118 true (.load 0 (.t 121)), xG 123 118 true (.mv (.t 0) false), xG 124 118 true (.mv (.t 1) false), xG 125 118 true (.ia (.sl 1) (.t 123) (.t 124)), xG 126 118 true (.load 0 (.t 125)), xG 127 118 true (.callp f_cmp_Less_int [(.t 122), (.t 126)] []), xG 128 118 true (.un .not (.t 127)), xS 129 (.pick (.t 118) (.t 128) (.c (.bool false)))] [0, 1, 10, 11, 129] ([], []) []) (.cond (.t 129)
 .skip
 (.exit 8))) (.block 9 (.reg [xT 130 11, xS 131 (.bin .sub .int (.t 130) (xI 1)), xT 11 131] [0, 1, 10, 11])))
def l_slices_partitionOrdered_int_3 : ACode := .loop [0, 1, 10, 11] [] bl_slices_partitionOrdered_int_3
theorem L_slices_partitionOrdered_int_3 {T : Table} (ks : List Kt) (e : Env) (h : Heap) (Q : Ex → Env → Heap → Prop) : Xc T l_slices_partitionOrdered_int_3 ks e h Q = Xc T bl_slices_partitionOrdered_int_3 (.seq l_slices_partitionOrdered_int_3 :: ks) (e.keep [0, 1, 10, 11]) h Q := Xc_loop ks _ e h Q _ _
def bl_slices_partitionOrdered_int_4 : ACode := (.block 5 (.seq (.block 6 l_slices_partitionOrdered_int_2) (.seq (.block 8 l_slices_partitionOrdered_int_3) (.seq (.seq (.reg [xF 132 10, xF 133 11, xS 134 (.bin .gtr .int (.t 132) (.t 133))] [0, 1, 10, 11, 134]) (.cond (.t 134)
 (.exit 4)
 .skip)) (.seq (.regd [xF 135 0, xF 136 10, xF 137 0, xF 138 11, xF 139 0, xF 140 11, xS 141 (.ia (.sl 1) (.t 139) (.t 140)), xS 142 (.load 0 (.t 141)), xF 143 0, xF 144 10, xS 145 (.ia (.sl 1) (.t 143) (.t 144)), xS 146 (.load 0 (.t 145)), xS 147 (.ia (.sl 1) (.t 135) (.t 136)), ⟨none, .store 1 (.t 147) (.t 142), none⟩, xS 148 (.ia (.sl 1) (.t 137) (.t 138)), ⟨none, .store 1 (.t 148) (.t 146), none⟩] [0, 1, 10, 11] ([], []) []) (.seq (.reg [xT 149 10, xS 150 (.bin .add .int (.t 149) (xI 1)), xT 10 150] [0, 1, 10, 11]) (.reg [xT 151 11, xS 152 (.bin .sub .int (.t 151) (xI 1)), xT 11 152] [0, 1, 10, 11])))))))
def l_slices_partitionOrdered_int_4 : ACode := .loop [0, 1, 10, 11] [] bl_slices_partitionOrdered_int_4
theorem L_slices_partitionOrdered_int_4 {T : Table} (ks : List Kt) (e : Env) (h : Heap) (Q : Ex → Env → Heap → Prop) : Xc T l_slices_partitionOrdered_int_4 ks e h Q = Xc T bl_slices_partitionOrdered_int_4 (.seq l_slices_partitionOrdered_int_4 :: ks) (e.keep [0, 1, 10, 11]) h Q := Xc_loop ks _ e h Q _ _
def k_slices_partitionOrdered_int : ACode := (.seq (.reg [xS 8 (.mv (xI 0) false), xS 9 (.mv (.c (.bool false)) false)] [0, 1, 2, 3]) (.seq (.regd [xF 12 0, xF 13 1, xF 14 0, xF 15 3, xF 16 0, xF 17 3, xS 18 (.ia (.sl 1) (.t 16) (.t 17)), xS 19 (.load 0 (.t 18)), xF 20 0, xF 21 1, xS 22 (.ia (.sl 1) (.t 20) (.t 21)), xS 23 (.load 0 (.t 22)), xS 24 (.ia (.sl 1) (.t 12) (.t 13)), ⟨none, .store 1 (.t 24) (.t 19), none⟩, xS 25 (.ia (.sl 1) (.t 14) (.t 15)), ⟨none, .store 1 (.t 25) (.t 23), none⟩] [0, 1, 2] ([], []) []) (.seq (.reg [xF 26 1, xS 27 (.bin .add .int (.t 26) (xI 1)), xT 28 2, xS 29 (.bin .sub .int (.t 28) (xI 1)), xT 10 27, xT 11 29] [0, 1, 10, 11]) (.seq (.block 0 l_slices_partitionOrdered_int_0) (.seq (.block 2 l_slices_partitionOrdered_int_1) (.seq (.seq (.reg [xF 63 10, xF 64 11, xS 65 (.bin .gtr .int (.t 63) (.t 64))] [0, 1, 10, 11, 65]) (.cond (.t 65)
 (.seq (.regd [xF 66 0, xF 67 11, xF 68 0, xF 69 1, xF 70 0, xF 71 1, xS 72 (.ia (.sl 1) (.t 70) (.t 71)), xS 73 (.load 0 (.t 72)), xF 74 0, xF 75 11, xS 76 (.ia (.sl 1) (.t 74) (.t 75)), xS 77 (.load 0 (.t 76)), xS 78 (.ia (.sl 1) (.t 66) (.t 67)), ⟨none, .store 1 (.t 78) (.t 73), none⟩, xS 79 (.ia (.sl 1) (.t 68) (.t 69)), ⟨none, .store 1 (.t 79) (.t 77), none⟩] [11] ([], []) []) (.seq (.reg [xT 80 11, xT 8 80, xS 9 (.mv (.c (.bool true)) false)] [8, 9]) .ret))
 .skip)) (.seq (.regd [xF 81 0, xF 82 10, xF 83 0, xF 84 11, xF 85 0, xF 86 11, xS 87 (.ia (.sl 1) (.t 85) (.t 86)), xS 88 (.load 0 (.t 87)), xF 89 0, xF 90 10, xS 91 (.ia (.sl 1) (.t 89) (.t 90)), xS 92 (.load 0 (.t 91)), xS 93 (.ia (.sl 1) (.t 81) (.t 82)), ⟨none, .store 1 (.t 93) (.t 88), none⟩, xS 94 (.ia (.sl 1) (.t 83) (.t 84)), ⟨none, .store 1 (.t 94) (.t 92), none⟩] [0, 1, 10, 11] ([], []) []) (.seq (.reg [xT 95 10, xS 96 (.bin .add .int (.t 95) (xI 1)), xT 10 96] [0, 1, 10, 11]) (.seq (.reg [xT 97 11, xS 98 (.bin .sub .int (.t 97) (xI 1)), xT 11 98] [0, 1, 10, 11]) (.seq (.block 4 l_slices_partitionOrdered_int_4) (.seq (.regd [xF 153 0, xF 154 11, xF 155 0, xF 156 1, xF 157 0, xF 158 1, xS 159 (.ia (.sl 1) (.t 157) (.t 158)), xS 160 (.load 0 (.t 159)), xF 161 0, xF 162 11, xS 163 (.ia (.sl 1) (.t 161) (.t 162)), xS 164 (.load 0 (.t 163)), xS 165 (.ia (.sl 1) (.t 153) (.t 154)), ⟨none, .store 1 (.t 165) (.t 160), none⟩, xS 166 (.ia (.sl 1) (.t 155) (.t 156)), ⟨none, .store 1 (.t 166) (.t 164), none⟩] [11] ([], []) []) (.seq (.reg [xT 167 11, xT 8 167, xS 9 (.mv (.c (.bool false)) false)] [8, 9]) .ret))))))))))))
def c_slices_partitionOrdered_int : AFunc := ⟨k_slices_partitionOrdered_int, 168, [.t 8, .t 9], [], [], []⟩
def bl_slices_pdqsortOrdered_int_0 : ACode := (.block 1 (.seq (.reg [xF 19 2, xF 20 1, xS 21 (.bin .sub .int (.t 19) (.t 20)), xT 10 21] [0, 1, 2, 3, 8, 9, 10]) (.seq (.seq (.reg [xF 22 10, xS 23 (.bin .leq .int (.t 22) (xI 12))] [0, 1, 2, 3, 8, 9, 10, 23]) (.cond (.t 23)
 (.seq (.reg [xT 24 0, xT 25 1, xT 26 2, xS 27 (.callh f_slices_insertionSortOrdered_int [(.t 24), (.t 25), (.t 26)])] []) .ret)
 .skip)) (.seq (.seq (.reg [xF 28 3, xS 29 (.bin .eql .int (.t 28) (xI 0))] [0, 1, 2, 3, 8, 9, 10, 29]) (.cond (.t 29)
 (.seq (.reg [xT 30 0, xT 31 1, xT 32 2, xS 33 (.callh f_slices_heapSortOrdered_int [(.t 30), (.t 31), (.t 32)])] []) .ret)
 .skip)) (.seq (.seq (.reg [xF 34 8, xS 35 (.un .not (.t 34))] [0, 1, 2, 3, 8, 9, 10, 35]) (.cond (.t 35)
 (.seq (.reg [xF 36 0, xF 37 1, xF 38 2, xS 39 (.callh f_slices_breakPatternsOrdered_int [(.t 36), (.t 37), (.t 38)])] [0, 1, 2, 3, 8, 9, 10]) (.reg [xT 40 3, xS 41 (.bin .sub .int (.t 40) (xI 1)), xT 3 41] [0, 1, 2, 3, 8, 9, 10]))
 .skip)) (.seq (.reg [xF 43 0, xF 44 1, xF 45 2, xS 46 (.callp f_slices_choosePivotOrdered_int [(.t 43), (.t 44), (.t 45)] [(0, false)]), xT 42 46, xE 47 42 0, xE 48 42 1, xT 11 47, xT 12 48] [0, 1, 2, 3, 8, 9, 10, 11, 12]) (.seq (.seq (.reg [xF 49 12, xS 50 (.bin .eql .int (.t 49) (xI 2))] [0, 1, 2, 3, 8, 9, 10, 11, 12, 50]) (.cond (.t 50)
 (.seq (.reg [xF 51 0, xF 52 1, xF 53 2, xS 54 (.callh f_slices_reverseRangeOrdered_int [(.t 51), (.t 52), (.t 53)])] [0, 1, 2, 3, 8, 9, 10, 11]) (.seq (.reg [xF 55 2, xS 56 (.bin .sub .int (.t 55) (xI 1)), xT 57 11, xF 58 1, xS 59 (.bin .sub .int (.t 57) (.t 58)), xS 60 (.bin .sub .int (.t 56) (.t 59)), xT 11 60] [0, 1, 2, 3, 8, 9, 10, 11]) (.reg [xS 12 (.mv (xI 1) false)] [0, 1, 2, 3, 8, 9, 10, 11, 12])))
 .skip)) (.seq (.seq (.reg [xF 61 8, xT 62 61, xG 63 62 true (.mv (.t 9) false), xS 64 (.pick (.t 62) (.t 63) (.c (.bool false))), xT 65 64, xG 66 65 true (.mv (.t 12) true), xG 67 65 true (.bin .eql .int (.t 66) (xI 1)), xS 68 (.pick (.t 65) (.t 67) (.c (.bool false)))] [0, 1, 2, 3, 8, 9, 10, 11, 68]) (.cond (.t 68)
 (.seq (.reg [xF 69 0, xF 70 1, xF 71 2, xS 72 (.callh f_slices_partialInsertionSortOrdered_int [(.t 69), (.t 70), (.t 71)])] [0, 1, 2, 3, 8, 9, 10, 11, 72]) (.cond (.t 72)
 .ret
 .skip))
 .skip)) (.seq (.seq (.regd [xF 73 1, xS 74 (.bin .gtr .int (.t 73) (xI 0)), xF 75 74, xG 76 75 true (.mv (.t 0) false), xG 77 75 true (.mv (.t 1) false), xG 78 75 true (.bin .sub .int (.t 77) (xI 1)), xG 79 75 true (.ia (.sl 1) (.t 76) (.t 78)), xG 80 75 true (.load 0 (.t 79)), xG 81 75 true (.mv (.t 0) false), xG 82 75 true (.mv (.t 11) false), xG 83 75 true (.ia (.sl 1) (.t 81) (.t 82)), xG 84 75 true (.load 0 (.t 83)), xG 85 75 true (.callp f_cmp_Less_int [(.t 80), (.t 84)] []), xG 86 75 true (.un .not (.t 85)), xS 87 (.pick (.t 75) (.t 86) (.c (.bool false)))] [0, 1, 2, 3, 8, 9, 10, 11, 87] ([], []) []) (.cond (.t 87)
 (.seq (.reg [xF 88 0, xT 89 1, xF 90 2, xT 91 11, xS 92 (.callh f_slices_partitionEqualOrdered_int [(.t 88), (.t 89), (.t 90), (.t 91)]), xT 13 92] [0, 2, 3, 8, 9, 13]) (.seq (.reg [xT 93 13, xT 1 93] [0, 1, 2, 3, 8, 9]) (.exit 1)))
 .skip)) (.seq (.reg [xF 95 0, xF 96 1, xF 97 2, xT 98 11, xS 99 (.callh f_slices_partitionOrdered_int [(.t 95), (.t 96), (.t 97), (.t 98)]), xT 94 99, xE 100 94 0, xE 101 94 1, xT 14 100, xT 15 101] [0, 1, 2, 3, 10, 14, 15]) (.seq (.reg [xT 102 15, xT 9 102] [0, 1, 2, 3, 9, 10, 14]) (.seq (.reg [xF 103 14, xF 104 1, xS 105 (.bin .sub .int (.t 103) (.t 104)), xF 106 2, xF 107 14, xS 108 (.bin .sub .int (.t 106) (.t 107)), xT 16 105, xT 17 108] [0, 1, 2, 3, 9, 10, 14, 16, 17]) (.seq (.reg [xT 109 10, xS 110 (.bin .quo .int (.t 109) (xI 8)), xT 18 110] [0, 1, 2, 3, 9, 14, 16, 17, 18]) (.seq (.reg [xF 111 16, xF 112 17, xS 113 (.bin .lss .int (.t 111) (.t 112))] [0, 1, 2, 3, 9, 14, 16, 17, 18, 113]) (.cond (.t 113)
 (.seq (.reg [xT 114 16, xT 115 18, xS 116 (.bin .geq .int (.t 114) (.t 115)), xT 8 116] [0, 1, 2, 3, 8, 9, 14]) (.seq (.reg [xF 117 0, xT 118 1, xF 119 14, xF 120 3, xS 121 (.callh f_slices_pdqsortOrdered_int [(.t 117), (.t 118), (.t 119), (.t 120)])] [0, 2, 3, 8, 9, 14]) (.reg [xT 122 14, xS 123 (.bin .add .int (.t 122) (xI 1)), xT 1 123] [0, 1, 2, 3, 8, 9])))
 (.seq (.reg [xT 124 17, xT 125 18, xS 126 (.bin .geq .int (.t 124) (.t 125)), xT 8 126] [0, 1, 2, 3, 8, 9, 14]) (.seq (.reg [xF 127 0, xF 128 14, xS 129 (.bin .add .int (.t 128) (xI 1)), xT 130 2, xF 131 3, xS 132 (.callh f_slices_pdqsortOrdered_int [(.t 127), (.t 129), (.t 130), (.t 131)])] [0, 1, 3, 8, 9, 14]) (.reg [xT 133 14, xT 2 133] [0, 1, 2, 3, 8, 9]))))))))))))))))))
def l_slices_pdqsortOrdered_int_0 : ACode := .loop [0, 1, 2, 3, 8, 9] [] bl_slices_pdqsortOrdered_int_0
theorem L_slices_pdqsortOrdered_int_0 {T : Table} (ks : List Kt) (e : Env) (h : Heap) (Q : Ex → Env → Heap → Prop) : Xc T l_slices_pdqsortOrdered_int_0 ks e h Q = Xc T bl_slices_pdqsortOrdered_int_0 (.seq l_slices_pdqsortOrdered_int_0 :: ks) (e.keep [0, 1, 2, 3, 8, 9]) h Q := Xc_loop ks _ e h Q _ _
def k_slices_pdqsortOrdered_int : ACode := (.seq (.reg [xS 8 (.mv (.c (.bool true)) false)] [0, 1, 2, 3, 8]) (.seq (.reg [xS 9 (.mv (.c (.bool true)) false)] [0, 1, 2, 3, 8, 9]) (.block 0 l_slices_pdqsortOrdered_int_0)))
def c_slices_pdqsortOrdered_int : AFunc := ⟨k_slices_pdqsortOrdered_int, 134, [], [], [], []⟩
def k_slices_Sort_int_int : ACode := (.seq (.reg [xF 3 0, xS 4 (.len false (.t 3)), xT 2 4] [0, 2]) (.reg [xT 5 0, xF 6 2, xT 7 2, xS 8 (.conv (.i .u64) (.t 7)), xS 9 (.callp f_math_bits_Len [(.t 8)] []), xS 10 (.callh f_slices_pdqsortOrdered_int [(.t 5), (xI 0), (.t 6), (.t 9)])] []))
def c_slices_Sort_int_int : AFunc := ⟨k_slices_Sort_int_int, 11, [], [], [], []⟩
def bl_slices_Compact_int_int_0 : ACode := (.seq (.seq (.reg [xF 29 5, xF 30 4, xS 31 (.len false (.t 30)), xS 32 (.bin .lss .int (.t 29) (.t 31))] [0, 3, 4, 5, 32]) (.cond (.t 32)
 .skip
 (.exit 2))) (.seq (.block 3 (.seq (.regd [xF 35 4, xF 36 5, xS 37 (.ia (.sl 1) (.t 35) (.t 36)), xS 38 (.load 0 (.t 37)), xF 39 4, xF 40 5, xS 41 (.bin .sub .int (.t 40) (xI 1)), xS 42 (.ia (.sl 1) (.t 39) (.t 41)), xS 43 (.load 0 (.t 42)), xS 44 (.bin .neq .int (.t 38) (.t 43))] [0, 3, 4, 5, 44] ([], []) []) (.cond (.t 44)
 (.seq (.reg [xF 45 0, xF 46 3, xF 47 4, xF 48 5, xS 49 (.ia (.sl 1) (.t 47) (.t 48)), xS 50 (.load 0 (.t 49)), xS 51 (.ia (.sl 1) (.t 45) (.t 46)), ⟨none, .store 1 (.t 51) (.t 50), none⟩] [0, 3, 4, 5]) (.reg [xT 52 3, xS 53 (.bin .add .int (.t 52) (xI 1)), xT 3 53] [0, 3, 4, 5]))
 .skip))) (.reg [xT 33 5, xS 34 (.bin .add .int (.t 33) (xI 1)), xT 5 34] [0, 3, 4, 5])))
def l_slices_Compact_int_int_0 : ACode := .loop [0, 3, 4, 5] [] bl_slices_Compact_int_int_0
theorem L_slices_Compact_int_int_0 {T : Table} (ks : List Kt) (e : Env) (h : Heap) (Q : Ex → Env → Heap → Prop) : Xc T l_slices_Compact_int_int_0 ks e h Q = Xc T bl_slices_Compact_int_int_0 (.seq l_slices_Compact_int_int_0 :: ks) (e.keep [0, 3, 4, 5]) h Q := Xc_loop ks _ e h Q _ _
def bl_slices_Compact_int_int_1 : ACode := (.seq (.seq (.reg [xF 10 3, xF 11 0, xS 12 (.len false (.t 11)), xS 13 (.bin .lss .int (.t 10) (.t 12))] [0, 3, 13]) (.cond (.t 13)
 .skip
 (.exit 0))) (.seq (.block 1 (.seq (.regd [xF 16 0, xF 17 3, xS 18 (.ia (.sl 1) (.t 16) (.t 17)), xS 19 (.load 0 (.t 18)), xF 20 0, xF 21 3, xS 22 (.bin .sub .int (.t 21) (xI 1)), xS 23 (.ia (.sl 1) (.t 20) (.t 22)), xS 24 (.load 0 (.t 23)), xS 25 (.bin .eql .int (.t 19) (.t 24))] [0, 3, 25] ([], []) []) (.cond (.t 25)
 (.seq (.reg [xF 26 0, xF 27 3, xS 28 (.sl (.sl 1) (.t 26) (some (.t 27)) none none false), xT 4 28] [0, 3, 4]) (.seq (.seq (.reg [xS 5 (.mv (xI 1) false)] [0, 3, 4, 5]) (.block 2 l_slices_Compact_int_int_0)) (.seq (.reg [xF 54 0, xF 55 3, xS 56 (.sl (.sl 1) (.t 54) (some (.t 55)) none none false), ⟨none, .clr 1 [(.int .i64 0)] (.t 56), none⟩] [0, 3]) (.seq (.reg [xT 57 0, xT 58 3, xS 59 (.sl (.sl 1) (.t 57) none (some (.t 58)) none false), xT 2 59] [2]) .ret))))
 .skip))) (.reg [xT 14 3, xS 15 (.bin .add .int (.t 14) (xI 1)), xT 3 15] [0, 3])))
def l_slices_Compact_int_int_1 : ACode := .loop [0, 3] [] bl_slices_Compact_int_int_1
theorem L_slices_Compact_int_int_1 {T : Table} (ks : List Kt) (e : Env) (h : Heap) (Q : Ex → Env → Heap → Prop) : Xc T l_slices_Compact_int_int_1 ks e h Q = Xc T bl_slices_Compact_int_int_1 (.seq l_slices_Compact_int_int_1 :: ks) (e.keep [0, 3]) h Q := Xc_loop ks _ e h Q _ _
def k_slices_Compact_int_int : ACode := (.seq (.reg [xS 2 (.mv (.c (.hn 1)) false)] [0]) (.seq (.seq (.reg [xF 6 0, xS 7 (.len false (.t 6)), xS 8 (.bin .lss .int (.t 7) (xI 2))] [0, 8]) (.cond (.t 8)
 (.seq (.reg [xT 9 0, xT 2 9] [2]) .ret)
 .skip)) (.seq (.seq (.reg [xS 3 (.mv (xI 1) false)] [0, 3]) (.block 0 l_slices_Compact_int_int_1)) (.seq (.reg [xT 60 0, xT 2 60] [2]) .ret))))
def c_slices_Compact_int_int : AFunc := ⟨k_slices_Compact_int_int, 61, [.t 2], [], [], [(0, false)]⟩
def bl_place_Used_0 : ACode := (.seq (.reg [xS 9 (.bin .lss .int (.t 8) (.t 7))] [3, 6, 7, 8, 9]) (.seq (.cond (.t 9)
 .skip
 (.exit 0)) (.seq (.block 1 (.seq (.reg [xS 10 (.ia (.sl 2) (.t 6) (.t 8)), xS 11 (.load 2 (.t 10)), xS 5 (.alloc [(.int .i64 0), (.int .i64 0)]), ⟨none, .store 2 (.t 5) (.t 11), none⟩] [3, 5, 6, 7, 8]) (.reg [xT 12 3, xS 13 (.fa 0 (.t 5)), xS 14 (.load 0 (.t 13)), xS 15 (.bsl 1 [(.t 14)] false), xS 16 (.apph 1 8 (.t 12) (.t 15)), xT 3 16] [3, 6, 7, 8]))) (.reg [xS 17 (.bin .add .int (.t 8) (xI 1)), xT 8 17] [3, 6, 7, 8]))))
def l_place_Used_0 : ACode := .loop [3, 6, 7, 8] [] bl_place_Used_0
theorem L_place_Used_0 {T : Table} (ks : List Kt) (e : Env) (h : Heap) (Q : Ex → Env → Heap → Prop) : Xc T l_place_Used_0 ks e h Q = Xc T bl_place_Used_0 (.seq l_place_Used_0 :: ks) (e.keep [3, 6, 7, 8]) h Q := Xc_loop ks _ e h Q _ _
def k_place_Used : ACode := (.seq (.reg [xS 2 (.mv (.c (.ps 1 [])) false)] [0]) (.seq (.reg [xS 3 (.mv (.c (.hn 1)) false)] [0, 3]) (.seq (.seq (.reg [xT 6 0, xS 7 (.len false (.t 6)), xS 8 (.mv (xI 0) false)] [3, 6, 7, 8]) (.block 0 l_place_Used_0)) (.seq (.reg [xF 18 3, xS 19 (.callh f_slices_Sort_int_int [(.t 18)])] [3]) (.seq (.reg [xT 20 3, xS 21 (.callh f_slices_Compact_int_int [(.t 20)]), xT 2 21] [2]) .ret)))))
def c_place_Used : AFunc := ⟨k_place_Used, 22, [.t 2], [], [], []⟩
def bl_slices_Index_int_int_0 : ACode := (.seq (.reg [xS 9 (.bin .lss .int (.t 8) (.t 7))] [0, 1, 7, 8, 9]) (.seq (.cond (.t 9)
 .skip
 (.exit 0)) (.seq (.block 1 (.seq (.reg [xF 10 8, xT 5 10] [0, 1, 5, 7, 8]) (.seq (.reg [xF 11 1, xF 12 0, xF 13 5, xS 14 (.ia (.sl 1) (.t 12) (.t 13)), xS 15 (.load 0 (.t 14)), xS 16 (.bin .eql .int (.t 11) (.t 15))] [0, 1, 5, 7, 8, 16]) (.cond (.t 16)
 (.seq (.reg [xT 17 5, xT 4 17] [4]) .ret)
 .skip)))) (.reg [xS 18 (.bin .add .int (.t 8) (xI 1)), xT 8 18] [0, 1, 7, 8]))))
def l_slices_Index_int_int_0 : ACode := .loop [0, 1, 7, 8] [] bl_slices_Index_int_int_0
theorem L_slices_Index_int_int_0 {T : Table} (ks : List Kt) (e : Env) (h : Heap) (Q : Ex → Env → Heap → Prop) : Xc T l_slices_Index_int_int_0 ks e h Q = Xc T bl_slices_Index_int_int_0 (.seq l_slices_Index_int_int_0 :: ks) (e.keep [0, 1, 7, 8]) h Q := Xc_loop ks _ e h Q _ _
def k_slices_Index_int_int : ACode := (.seq (.reg [xS 4 (.mv (xI 0) false)] [0, 1]) (.seq (.seq (.reg [xF 6 0, xS 7 (.len false (.t 6)), xS 8 (.mv (xI 0) false)] [0, 1, 7, 8]) (.block 0 l_slices_Index_int_int_0)) (.seq (.reg [xS 4 (.mv (.c (.int .i64 (-1))) false)] [4]) .ret)))
def c_slices_Index_int_int : AFunc := ⟨k_slices_Index_int_int, 19, [.t 4], [], [], []⟩
def k_slices_Contains_int_int : ACode := (.seq (.reg [xS 4 (.mv (.c (.bool false)) false)] [0, 1]) (.seq (.reg [xT 5 0, xT 6 1, xS 7 (.callp f_slices_Index_int_int [(.t 5), (.t 6)] [(0, false)]), xS 8 (.bin .geq .int (.t 7) (xI 0)), xT 4 8] [4]) .ret))
def c_slices_Contains_int_int : AFunc := ⟨k_slices_Contains_int_int, 9, [.t 4], [], [], []⟩
def k_slices_Clone_api_Place_api_Place : ACode := (.seq (.reg [xS 2 (.mv (.c (.hn 2)) false)] [0]) (.nilc [xF 3 0] (.t 3) 4 false [0]
 (.seq (.reg [xS 2 (.mv (.c (.hn 2)) false)] [2]) .ret)
 .skip
 (.seq (.reg [xS 5 (.bsl 2 [] true), xT 6 0, xS 7 (.apph 2 16 (.t 5) (.t 6)), xT 2 7] [2]) .ret)))
def c_slices_Clone_api_Place_api_Place : AFunc := ⟨k_slices_Clone_api_Place_api_Place, 8, [.t 2], [], [], []⟩
def k_place_choice_others_1 : ACode := (.seq (.reg [xS 2 (.box (.t 0)), xS 3 (.mv (.c (.bool false)) false)] [1, 2]) (.seq (.reg [xS 4 (.load 0 (.t 1)), xS 5 (.fa 0 (.t 2)), xS 6 (.load 0 (.t 5)), xS 7 (.look .int (.t 4) (.t 6) (.bool false) false), xT 3 7] [3]) .ret))
def c_place_choice_others_1 : AFunc := ⟨k_place_choice_others_1, 8, [.t 3], [], [], []⟩
def bl_slices_IndexFunc_api_Place_api_Place_0 : ACode := (.seq (.reg [xS 9 (.bin .lss .int (.t 8) (.t 7))] [0, 1, 7, 8, 9]) (.seq (.cond (.t 9)
 .skip
 (.exit 0)) (.seq (.block 1 (.seq (.reg [xF 10 8, xT 5 10] [0, 1, 5, 7, 8]) (.seq (.reg [xF 11 1, xF 12 0, xF 13 5, xS 14 (.ia (.sl 2) (.t 12) (.t 13)), xS 15 (.load 2 (.t 14)), xS 16 (.callv (.t 11) [(.t 15)])] [0, 1, 5, 7, 8, 16]) (.cond (.t 16)
 (.seq (.reg [xT 17 5, xT 4 17] [4]) .ret)
 .skip)))) (.reg [xS 18 (.bin .add .int (.t 8) (xI 1)), xT 8 18] [0, 1, 7, 8]))))
def l_slices_IndexFunc_api_Place_api_Place_0 : ACode := .loop [0, 1, 7, 8] [] bl_slices_IndexFunc_api_Place_api_Place_0
theorem L_slices_IndexFunc_api_Place_api_Place_0 {T : Table} (ks : List Kt) (e : Env) (h : Heap) (Q : Ex → Env → Heap → Prop) : Xc T l_slices_IndexFunc_api_Place_api_Place_0 ks e h Q = Xc T bl_slices_IndexFunc_api_Place_api_Place_0 (.seq l_slices_IndexFunc_api_Place_api_Place_0 :: ks) (e.keep [0, 1, 7, 8]) h Q := Xc_loop ks _ e h Q _ _
def k_slices_IndexFunc_api_Place_api_Place : ACode := (.seq (.reg [xS 4 (.mv (xI 0) false)] [0, 1]) (.seq (.seq (.reg [xF 6 0, xS 7 (.len false (.t 6)), xS 8 (.mv (xI 0) false)] [0, 1, 7, 8]) (.block 0 l_slices_IndexFunc_api_Place_api_Place_0)) (.seq (.reg [xS 4 (.mv (.c (.int .i64 (-1))) false)] [4]) .ret)))
def c_slices_IndexFunc_api_Place_api_Place : AFunc := ⟨k_slices_IndexFunc_api_Place_api_Place, 19, [.t 4], [], [], []⟩
def bl_place_choice_others_0 : ACode := (.seq (.reg [xS 20 (.bin .lss .int (.t 19) (.t 18))] [0, 1, 6, 17, 18, 19, 20]) (.seq (.cond (.t 20)
 .skip
 (.exit 0)) (.seq (.block 1 (.seq (.reg [xS 21 (.ia (.sl 2) (.t 17) (.t 19)), xS 22 (.load 2 (.t 21)), xS 8 (.alloc [(.int .i64 0), (.int .i64 0)]), ⟨none, .store 2 (.t 8) (.t 22), none⟩] [0, 1, 6, 8, 17, 18, 19]) (.regd [xS 23 (.load 0 (.t 6)), xS 24 (.fa 0 (.t 8)), xS 25 (.load 0 (.t 24)), xS 26 (.fa 0 (.t 8)), xS 27 (.load 0 (.t 26)), xF 28 1, xS 29 (.bin .neq .int (.t 27) (.t 28)), xF 30 29, xG 31 30 true (.mv (.t 0) false), xG 32 30 true (.nilck (.t 31)), xG 33 30 true (.fa 1 (.t 32)), xG 34 30 true (.load 0 (.t 33)), xG 35 30 true (.fa 0 (.t 8)), xG 36 30 true (.load 0 (.t 35)), xG 37 30 true (.callp f_slices_Contains_int_int [(.t 34), (.t 36)] [(0, false)]), xG 38 30 true (.un .not (.t 37)), xS 39 (.pick (.t 30) (.t 38) (.c (.bool false))), ⟨none, .mset .int (.t 23) (.t 25) (.t 39), none⟩] [0, 1, 6, 17, 18, 19] ([], []) []))) (.reg [xS 40 (.bin .add .int (.t 19) (xI 1)), xT 19 40] [0, 1, 6, 17, 18, 19]))))
def l_place_choice_others_0 : ACode := .loop [0, 1, 6, 17, 18, 19] [] bl_place_choice_others_0
theorem L_place_choice_others_0 {T : Table} (ks : List Kt) (e : Env) (h : Heap) (Q : Ex → Env → Heap → Prop) : Xc T l_place_choice_others_0 ks e h Q = Xc T bl_place_choice_others_0 (.seq l_place_choice_others_0 :: ks) (e.keep [0, 1, 6, 17, 18, 19]) h Q := Xc_loop ks _ e h Q _ _
def bl_place_choice_others_1 : ACode := (.seq (.reg [xS 52 (.bin .lss .int (.t 51) (.t 50))] [0, 1, 6, 9, 49, 50, 51, 52]) (.seq (.cond (.t 52)
 .skip
 (.exit 2)) (.seq (.block 3 (.seq (.reg [xF 53 51, xS 54 (.ia (.sl 2) (.t 49) (.t 51)), xS 55 (.load 2 (.t 54)), xS 11 (.alloc [(.int .i64 0), (.int .i64 0)]), xT 10 53, ⟨none, .store 2 (.t 11) (.t 55), none⟩] [0, 1, 6, 9, 10, 11, 49, 50, 51]) (.seq (.seq (.reg [xS 56 (.fa 0 (.t 11)), xS 57 (.load 0 (.t 56)), xF 58 1, xS 59 (.bin .neq .int (.t 57) (.t 58))] [0, 1, 6, 9, 10, 49, 50, 51, 59]) (.cond (.t 59)
 (.exit 3)
 .skip)) (.seq (.reg [xF 60 0, xS 61 (.nilck (.t 60)), xS 62 (.fa 0 (.t 61)), xS 63 (.load 0 (.t 62)), xF 64 10, xS 65 (.ia (.sl 3) (.t 63) (.t 64)), xS 66 (.fa 2 (.t 65)), xS 67 (.load 0 (.t 66)), xS 68 (.mkfn f_place_choice_others_1 [(.t 6)]), xS 69 (.callh f_slices_IndexFunc_api_Place_api_Place [(.t 67), (.t 68)]), xT 12 69] [0, 1, 6, 9, 10, 12, 49, 50, 51]) (.seq (.seq (.reg [xF 70 12, xS 71 (.bin .lss .int (.t 70) (xI 0))] [0, 1, 6, 9, 10, 12, 49, 50, 51, 71]) (.cond (.t 71)
 (.seq (.reg [xS 4 (.mv (.c (.hn 2)) false), xS 5 (.mv (.c (.bool false)) false)] [4, 5]) .ret)
 .skip)) (.reg [xF 72 9, xF 73 10, xF 74 0, xS 75 (.nilck (.t 74)), xS 76 (.fa 0 (.t 75)), xS 77 (.load 0 (.t 76)), xT 78 10, xS 79 (.ia (.sl 3) (.t 77) (.t 78)), xS 80 (.fa 2 (.t 79)), xS 81 (.load 0 (.t 80)), xT 82 12, xS 83 (.ia (.sl 2) (.t 81) (.t 82)), xS 84 (.load 2 (.t 83)), xS 85 (.ia (.sl 2) (.t 72) (.t 73)), ⟨none, .store 2 (.t 85) (.t 84), none⟩] [0, 1, 6, 9, 49, 50, 51])))))) (.reg [xS 86 (.bin .add .int (.t 51) (xI 1)), xT 51 86] [0, 1, 6, 9, 49, 50, 51]))))
def l_place_choice_others_1 : ACode := .loop [0, 1, 6, 9, 49, 50, 51] [] bl_place_choice_others_1
theorem L_place_choice_others_1 {T : Table} (ks : List Kt) (e : Env) (h : Heap) (Q : Ex → Env → Heap → Prop) : Xc T l_place_choice_others_1 ks e h Q = Xc T bl_place_choice_others_1 (.seq l_place_choice_others_1 :: ks) (e.keep [0, 1, 6, 9, 49, 50, 51]) h Q := Xc_loop ks _ e h Q _ _
def k_place_choice_others : ACode := (.seq (.reg [xS 4 (.mv (.c (.hn 2)) false), xS 5 (.mv (.c (.bool false)) false)] [0, 1]) (.seq (.reg [xS 13 (.mkm), xS 6 (.alloc [.mpn]), ⟨none, .store 1 (.t 6) (.t 13), none⟩] [0, 1, 6]) (.seq (.seq (.reg [xF 14 0, xS 15 (.nilck (.t 14)), xS 16 (.fa 2 (.t 15)), xS 17 (.load 0 (.t 16)), xS 18 (.len false (.t 17)), xS 19 (.mv (xI 0) false)] [0, 1, 6, 17, 18, 19]) (.block 0 l_place_choice_others_0)) (.seq (.reg [xF 41 0, xS 42 (.nilck (.t 41)), xS 43 (.fa 2 (.t 42)), xS 44 (.load 0 (.t 43)), xS 45 (.callh f_slices_Clone_api_Place_api_Place [(.t 44)]), xT 9 45] [0, 1, 6, 9]) (.seq (.seq (.reg [xF 46 0, xS 47 (.nilck (.t 46)), xS 48 (.fa 2 (.t 47)), xS 49 (.load 0 (.t 48)), xS 50 (.len false (.t 49)), xS 51 (.mv (xI 0) false)] [0, 1, 6, 9, 49, 50, 51]) (.block 2 l_place_choice_others_1)) (.seq (.reg [xT 87 9, xT 4 87, xS 5 (.mv (.c (.bool true)) false)] [4, 5]) .ret))))))
def c_place_choice_others : AFunc := ⟨k_place_choice_others, 88, [.t 4, .t 5], [], [], [(0, true)]⟩
def bl_place_choice_shrink_0 : ACode := (.seq (.reg [xS 14 (.bin .lss .int (.t 13) (.t 12))] [0, 11, 12, 13, 14]) (.seq (.cond (.t 14)
 .skip
 (.exit 0)) (.seq (.block 1 (.seq (.reg [xS 15 (.ia (.sl 1) (.t 11) (.t 13)), xS 16 (.load 0 (.t 15)), xT 4 16] [0, 4, 11, 12, 13]) (.seq (.seq (.reg [xF 17 0, xS 18 (.nilck (.t 17)), xS 19 (.fa 1 (.t 18)), xS 20 (.load 0 (.t 19)), xF 21 4, xS 22 (.callp f_slices_Contains_int_int [(.t 20), (.t 21)] [(0, false)])] [0, 4, 11, 12, 13, 22]) (.cond (.t 22)
 (.exit 1)
 .skip)) (.seq (.reg [xF 24 0, xT 25 4, xS 26 (.callh f_place_choice_others [(.t 24), (.t 25)]), xT 23 26, xE 27 23 0, xE 28 23 1, xT 5 27, xT 6 28] [0, 5, 6, 11, 12, 13]) (.seq (.reg [xT 29 6] [0, 5, 11, 12, 13, 29]) (.cond (.t 29)
 (.seq (.reg [xT 30 0, xT 31 5, xS 32 (.nilck (.t 30)), xS 33 (.fa 2 (.t 32)), ⟨none, .store 1 (.t 33) (.t 31), none⟩] []) (.seq (.reg [xS 2 (.mv (.c (.bool true)) false)] [2]) .ret))
 .skip)))))) (.reg [xS 34 (.bin .add .int (.t 13) (xI 1)), xT 13 34] [0, 11, 12, 13]))))
def l_place_choice_shrink_0 : ACode := .loop [0, 11, 12, 13] [] bl_place_choice_shrink_0
theorem L_place_choice_shrink_0 {T : Table} (ks : List Kt) (e : Env) (h : Heap) (Q : Ex → Env → Heap → Prop) : Xc T l_place_choice_shrink_0 ks e h Q = Xc T bl_place_choice_shrink_0 (.seq l_place_choice_shrink_0 :: ks) (e.keep [0, 11, 12, 13]) h Q := Xc_loop ks _ e h Q _ _
def k_place_choice_shrink : ACode := (.seq (.reg [xS 2 (.mv (.c (.bool false)) false)] [0]) (.seq (.seq (.reg [xF 7 0, xS 8 (.nilck (.t 7)), xS 9 (.fa 2 (.t 8)), xS 10 (.load 0 (.t 9)), xS 11 (.callh f_place_Used [(.t 10)]), xS 12 (.len false (.t 11)), xS 13 (.mv (xI 0) false)] [0, 11, 12, 13]) (.block 0 l_place_choice_shrink_0)) (.seq (.reg [xS 2 (.mv (.c (.bool false)) false)] [2]) .ret)))
def c_place_choice_shrink : AFunc := ⟨k_place_choice_shrink, 35, [.t 2], [], [], []⟩
def bl_place_Choose_0 : ACode := (.seq (.reg [xS 14 (.bin .lss .int (.t 13) (.t 12))] [5, 11, 12, 13, 14]) (.seq (.cond (.t 14)
 .skip
 (.exit 0)) (.seq (.block 1 (.seq (.reg [xS 15 (.ia (.sl 3) (.t 11) (.t 13)), xS 16 (.load 3 (.t 15)), xS 7 (.alloc [(.int .i64 0), (.int .i64 0), (.ps 2 [])]), ⟨none, .store 3 (.t 7) (.t 16), none⟩] [5, 7, 11, 12, 13]) (.seq (.reg [xS 17 (.fa 2 (.t 7)), xS 18 (.load 0 (.t 17)), xS 19 (.len false (.t 18)), xS 20 (.bin .gtr .int (.t 19) (xI 0))] [5, 7, 11, 12, 13, 20]) (.cond (.t 20)
 (.regd [xF 21 5, xF 22 5, xF 23 5, xS 24 (.nilck (.t 23)), xS 25 (.fa 0 (.t 24)), xS 26 (.load 0 (.t 25)), xS 27 (.load 3 (.t 7)), xS 28 (.bsl 3 [(.t 27)] false), xS 29 (.apph 3 40 (.t 26) (.t 28)), xF 30 5, xS 31 (.nilck (.t 30)), xS 32 (.fa 2 (.t 31)), xS 33 (.load 0 (.t 32)), xS 34 (.fa 2 (.t 7)), xS 35 (.load 0 (.t 34)), xS 36 (.ia (.sl 2) (.t 35) (xI 0)), xS 37 (.load 2 (.t 36)), xS 38 (.bsl 2 [(.t 37)] false), xS 39 (.apph 2 16 (.t 33) (.t 38)), xS 40 (.nilck (.t 21)), xS 41 (.fa 0 (.t 40)), ⟨none, .store 1 (.t 41) (.t 29), none⟩, xS 42 (.nilck (.t 22)), xS 43 (.fa 2 (.t 42)), ⟨none, .store 1 (.t 43) (.t 39), none⟩] [5, 11, 12, 13] ([], []) [(12, 0, 18), (14, 0, 18), (16, 0, 18)])
 .skip)))) (.reg [xS 44 (.bin .add .int (.t 13) (xI 1)), xT 13 44] [5, 11, 12, 13]))))
def l_place_Choose_0 : ACode := .loop [5, 11, 12, 13] [] bl_place_Choose_0
theorem L_place_Choose_0 {T : Table} (ks : List Kt) (e : Env) (h : Heap) (Q : Ex → Env → Heap → Prop) : Xc T l_place_Choose_0 ks e h Q = Xc T bl_place_Choose_0 (.seq l_place_Choose_0 :: ks) (e.keep [5, 11, 12, 13]) h Q := Xc_loop ks _ e h Q _ _
def bl_place_Choose_1 : ACode := (.block 3 (.seq (.seq (.reg [xF 45 5, xS 46 (.callh f_place_choice_shrink [(.t 45)])] [5, 46]) (.cond (.t 46)
 (.exit 3)
 .skip)) (.seq (.reg [xT 47 5, xS 48 (.nilck (.t 47)), xS 49 (.fa 2 (.t 48)), xS 50 (.load 0 (.t 49)), xT 4 50] [4]) .ret)))
def l_place_Choose_1 : ACode := .loop [5] [] bl_place_Choose_1
theorem L_place_Choose_1 {T : Table} (ks : List Kt) (e : Env) (h : Heap) (Q : Ex → Env → Heap → Prop) : Xc T l_place_Choose_1 ks e h Q = Xc T bl_place_Choose_1 (.seq l_place_Choose_1 :: ks) (e.keep [5]) h Q := Xc_loop ks _ e h Q _ _
def k_place_Choose : ACode := (.seq (.reg [xS 4 (.mv (.c (.hn 2)) false)] [0, 1]) (.scope (.seq (.reg [xT 8 1, xS 9 (.build [(.hn 3), (.ps 1 []), (.hn 2)] [(1, 1, (.t 8))]), xS 10 (.box (.t 9)), xT 5 10] [0, 5]) (.seq (.seq (.reg [xT 11 0, xS 12 (.len false (.t 11)), xS 13 (.mv (xI 0) false)] [5, 11, 12, 13]) (.block 0 l_place_Choose_0)) (.seq .skip (.block 2 l_place_Choose_1))))))
def c_place_Choose : AFunc := ⟨k_place_Choose, 51, [.t 4], [], [], [(0, true)]⟩
def bl_ref20_Places_0 : ACode := (.seq (.seq (.reg [xF 11 5, xF 12 0, xS 13 (.len false (.t 12)), xS 14 (.bin .lss .int (.t 11) (.t 13))] [0, 1, 5, 14]) (.cond (.t 14)
 .skip
 (.exit 0))) (.seq (.block 1 (.seq (.regd [xF 17 0, xF 18 5, xS 19 (.ia (.sl 2) (.t 17) (.t 18)), xS 20 (.load 2 (.t 19)), xF 21 1, xF 22 5, xS 23 (.ia (.sl 2) (.t 21) (.t 22)), xS 24 (.load 2 (.t 23)), xS 25 (.bin .neq (.agg (.cons 0 0 .int (.cons 1 0 .int .nil))) (.t 20) (.t 24))] [0, 1, 5, 25] ([], []) []) (.cond (.t 25)
 (.seq (.reg [xS 4 (.mv (.c (.bool false)) false)] [4]) .ret)
 .skip))) (.reg [xT 15 5, xS 16 (.bin .add .int (.t 15) (xI 1)), xT 5 16] [0, 1, 5])))
def l_ref20_Places_0 : ACode := .loop [0, 1, 5] [] bl_ref20_Places_0
theorem L_ref20_Places_0 {T : Table} (ks : List Kt) (e : Env) (h : Heap) (Q : Ex → Env → Heap → Prop) : Xc T l_ref20_Places_0 ks e h Q = Xc T bl_ref20_Places_0 (.seq l_ref20_Places_0 :: ks) (e.keep [0, 1, 5]) h Q := Xc_loop ks _ e h Q _ _
def k_ref20_Places : ACode := (.seq (.reg [xS 4 (.mv (.c (.bool false)) false)] [0, 1]) (.seq (.seq (.reg [xF 6 0, xS 7 (.len false (.t 6)), xF 8 1, xS 9 (.len false (.t 8)), xS 10 (.bin .neq .int (.t 7) (.t 9))] [0, 1, 10]) (.cond (.t 10)
 (.seq (.reg [xS 4 (.mv (.c (.bool false)) false)] [4]) .ret)
 .skip)) (.seq (.seq (.reg [xS 5 (.mv (xI 0) false)] [0, 1, 5]) (.block 0 l_ref20_Places_0)) (.seq (.reg [xS 4 (.mv (.c (.bool true)) false)] [4]) .ret))))
def c_ref20_Places : AFunc := ⟨k_ref20_Places, 26, [.t 4], [], [], []⟩
def bl_ref01_Ints_0 : ACode := (.seq (.seq (.reg [xF 11 5, xF 12 0, xS 13 (.len false (.t 12)), xS 14 (.bin .lss .int (.t 11) (.t 13))] [0, 1, 5, 14]) (.cond (.t 14)
 .skip
 (.exit 0))) (.seq (.block 1 (.seq (.regd [xF 17 0, xF 18 5, xS 19 (.ia (.sl 1) (.t 17) (.t 18)), xS 20 (.load 0 (.t 19)), xF 21 1, xF 22 5, xS 23 (.ia (.sl 1) (.t 21) (.t 22)), xS 24 (.load 0 (.t 23)), xS 25 (.bin .neq .int (.t 20) (.t 24))] [0, 1, 5, 25] ([], []) []) (.cond (.t 25)
 (.seq (.reg [xS 4 (.mv (.c (.bool false)) false)] [4]) .ret)
 .skip))) (.reg [xT 15 5, xS 16 (.bin .add .int (.t 15) (xI 1)), xT 5 16] [0, 1, 5])))
def l_ref01_Ints_0 : ACode := .loop [0, 1, 5] [] bl_ref01_Ints_0
theorem L_ref01_Ints_0 {T : Table} (ks : List Kt) (e : Env) (h : Heap) (Q : Ex → Env → Heap → Prop) : Xc T l_ref01_Ints_0 ks e h Q = Xc T bl_ref01_Ints_0 (.seq l_ref01_Ints_0 :: ks) (e.keep [0, 1, 5]) h Q := Xc_loop ks _ e h Q _ _
def k_ref01_Ints : ACode := (.seq (.reg [xS 4 (.mv (.c (.bool false)) false)] [0, 1]) (.seq (.seq (.reg [xF 6 0, xS 7 (.len false (.t 6)), xF 8 1, xS 9 (.len false (.t 8)), xS 10 (.bin .neq .int (.t 7) (.t 9))] [0, 1, 10]) (.cond (.t 10)
 (.seq (.reg [xS 4 (.mv (.c (.bool false)) false)] [4]) .ret)
 .skip)) (.seq (.seq (.reg [xS 5 (.mv (xI 0) false)] [0, 1, 5]) (.block 0 l_ref01_Ints_0)) (.seq (.reg [xS 4 (.mv (.c (.bool true)) false)] [4]) .ret))))
def c_ref01_Ints : AFunc := ⟨k_ref01_Ints, 26, [.t 4], [], [], []⟩
def bl_place_Count_0 : ACode := (.seq (.reg [xS 11 (.bin .lss .int (.t 10) (.t 9))] [1, 5, 8, 9, 10, 11]) (.seq (.cond (.t 11)
 .skip
 (.exit 0)) (.seq (.block 1 (.seq (.reg [xS 12 (.ia (.sl 2) (.t 8) (.t 10)), xS 13 (.load 2 (.t 12)), xS 7 (.alloc [(.int .i64 0), (.int .i64 0)]), ⟨none, .store 2 (.t 7) (.t 13), none⟩] [1, 5, 7, 8, 9, 10]) (.seq (.reg [xS 14 (.fa 0 (.t 7)), xS 15 (.load 0 (.t 14)), xF 16 1, xS 17 (.bin .eql .int (.t 15) (.t 16))] [1, 5, 8, 9, 10, 17]) (.cond (.t 17)
 (.reg [xT 18 5, xS 19 (.bin .add .int (.t 18) (xI 1)), xT 5 19] [1, 5, 8, 9, 10])
 .skip)))) (.reg [xS 20 (.bin .add .int (.t 10) (xI 1)), xT 10 20] [1, 5, 8, 9, 10]))))
def l_place_Count_0 : ACode := .loop [1, 5, 8, 9, 10] [] bl_place_Count_0
theorem L_place_Count_0 {T : Table} (ks : List Kt) (e : Env) (h : Heap) (Q : Ex → Env → Heap → Prop) : Xc T l_place_Count_0 ks e h Q = Xc T bl_place_Count_0 (.seq l_place_Count_0 :: ks) (e.keep [1, 5, 8, 9, 10]) h Q := Xc_loop ks _ e h Q _ _
def k_place_Count : ACode := (.seq (.reg [xS 4 (.mv (xI 0) false)] [0, 1]) (.seq (.reg [xS 5 (.mv (xI 0) false)] [0, 1, 5]) (.seq (.seq (.reg [xT 8 0, xS 9 (.len false (.t 8)), xS 10 (.mv (xI 0) false)] [1, 5, 8, 9, 10]) (.block 0 l_place_Count_0)) (.seq (.reg [xT 21 5, xT 4 21] [4]) .ret))))
def c_place_Count : AFunc := ⟨k_place_Count, 22, [.t 4], [], [], []⟩
def k_slices_Clone_int_int : ACode := (.seq (.reg [xS 2 (.mv (.c (.hn 1)) false)] [0]) (.nilc [xF 3 0] (.t 3) 4 false [0]
 (.seq (.reg [xS 2 (.mv (.c (.hn 1)) false)] [2]) .ret)
 .skip
 (.seq (.reg [xS 5 (.bsl 1 [] true), xT 6 0, xS 7 (.apph 1 8 (.t 5) (.t 6)), xT 2 7] [2]) .ret)))
def c_slices_Clone_int_int : AFunc := ⟨k_slices_Clone_int_int, 8, [.t 2], [], [], []⟩
def k_place_Free_1 : ACode := (.seq (.reg [xS 4 (.mv (.c (.bool false)) false)] [0, 1, 2]) (.seq (.reg [xS 5 (.load 0 (.t 1)), xF 6 0, xS 7 (.callp f_slices_Contains_int_int [(.t 5), (.t 6)] [(0, false)]), xT 8 7, xG 9 8 false (.load 0 (.t 2)), xG 10 8 false (.mv (.t 0) true), xG 11 8 false (.callp f_slices_Contains_int_int [(.t 9), (.t 10)] [(0, false)]), xS 12 (.pick (.t 8) (.c (.bool true)) (.t 11)), xT 4 12] [4]) .ret))
def c_place_Free_1 : AFunc := ⟨k_place_Free_1, 13, [.t 4], [], [], []⟩
def bl_slices_IndexFunc_int_int_0 : ACode := (.seq (.reg [xS 9 (.bin .lss .int (.t 8) (.t 7))] [0, 1, 7, 8, 9]) (.seq (.cond (.t 9)
 .skip
 (.exit 0)) (.seq (.block 1 (.seq (.reg [xF 10 8, xT 5 10] [0, 1, 5, 7, 8]) (.seq (.reg [xF 11 1, xF 12 0, xF 13 5, xS 14 (.ia (.sl 1) (.t 12) (.t 13)), xS 15 (.load 0 (.t 14)), xS 16 (.callv (.t 11) [(.t 15)])] [0, 1, 5, 7, 8, 16]) (.cond (.t 16)
 (.seq (.reg [xT 17 5, xT 4 17] [4]) .ret)
 .skip)))) (.reg [xS 18 (.bin .add .int (.t 8) (xI 1)), xT 8 18] [0, 1, 7, 8]))))
def l_slices_IndexFunc_int_int_0 : ACode := .loop [0, 1, 7, 8] [] bl_slices_IndexFunc_int_int_0
theorem L_slices_IndexFunc_int_int_0 {T : Table} (ks : List Kt) (e : Env) (h : Heap) (Q : Ex → Env → Heap → Prop) : Xc T l_slices_IndexFunc_int_int_0 ks e h Q = Xc T bl_slices_IndexFunc_int_int_0 (.seq l_slices_IndexFunc_int_int_0 :: ks) (e.keep [0, 1, 7, 8]) h Q := Xc_loop ks _ e h Q _ _
def k_slices_IndexFunc_int_int : ACode := (.seq (.reg [xS 4 (.mv (xI 0) false)] [0, 1]) (.seq (.seq (.reg [xF 6 0, xS 7 (.len false (.t 6)), xS 8 (.mv (xI 0) false)] [0, 1, 7, 8]) (.block 0 l_slices_IndexFunc_int_int_0)) (.seq (.reg [xS 4 (.mv (.c (.int .i64 (-1))) false)] [4]) .ret)))
def c_slices_IndexFunc_int_int : AFunc := ⟨k_slices_IndexFunc_int_int, 19, [.t 4], [], [], []⟩
def bl_slices_DeleteFunc_int_int_0 : ACode := (.seq (.seq (.reg [xF 16 6, xF 17 0, xS 18 (.len false (.t 17)), xS 19 (.bin .lss .int (.t 16) (.t 18))] [0, 1, 5, 6, 19]) (.cond (.t 19)
 .skip
 (.exit 0))) (.seq (.block 1 (.seq (.reg [xF 22 0, xF 23 6, xS 24 (.ia (.sl 1) (.t 22) (.t 23)), xS 25 (.load 0 (.t 24)), xT 7 25] [0, 1, 5, 6, 7]) (.seq (.reg [xF 26 1, xF 27 7, xS 28 (.callv (.t 26) [(.t 27)]), xS 29 (.un .not (.t 28))] [0, 1, 5, 6, 7, 29]) (.cond (.t 29)
 (.seq (.reg [xF 30 0, xF 31 5, xT 32 7, xS 33 (.ia (.sl 1) (.t 30) (.t 31)), ⟨none, .store 1 (.t 33) (.t 32), none⟩] [0, 1, 5, 6]) (.reg [xT 34 5, xS 35 (.bin .add .int (.t 34) (xI 1)), xT 5 35] [0, 1, 5, 6]))
 .skip)))) (.reg [xT 20 6, xS 21 (.bin .add .int (.t 20) (xI 1)), xT 6 21] [0, 1, 5, 6])))
def l_slices_DeleteFunc_int_int_0 : ACode := .loop [0, 1, 5, 6] [] bl_slices_DeleteFunc_int_int_0
theorem L_slices_DeleteFunc_int_int_0 {T : Table} (ks : List Kt) (e : Env) (h : Heap) (Q : Ex → Env → Heap → Prop) : Xc T l_slices_DeleteFunc_int_int_0 ks e h Q = Xc T bl_slices_DeleteFunc_int_int_0 (.seq l_slices_DeleteFunc_int_int_0 :: ks) (e.keep [0, 1, 5, 6]) h Q := Xc_loop ks _ e h Q _ _
def k_slices_DeleteFunc_int_int : ACode := (.seq (.reg [xS 4 (.mv (.c (.hn 1)) false)] [0, 1]) (.seq (.reg [xF 8 0, xF 9 1, xS 10 (.callh f_slices_IndexFunc_int_int [(.t 8), (.t 9)]), xT 5 10] [0, 1, 5]) (.seq (.seq (.reg [xF 11 5, xS 12 (.bin .eql .int (.t 11) (.c (.int .i64 (-1))))] [0, 1, 5, 12]) (.cond (.t 12)
 (.seq (.reg [xT 13 0, xT 4 13] [4]) .ret)
 .skip)) (.seq (.seq (.reg [xF 14 5, xS 15 (.bin .add .int (.t 14) (xI 1)), xT 6 15] [0, 1, 5, 6]) (.block 0 l_slices_DeleteFunc_int_int_0)) (.seq (.reg [xF 36 0, xF 37 5, xS 38 (.sl (.sl 1) (.t 36) (some (.t 37)) none none false), ⟨none, .clr 1 [(.int .i64 0)] (.t 38), none⟩] [0, 5]) (.seq (.reg [xT 39 0, xT 40 5, xS 41 (.sl (.sl 1) (.t 39) none (some (.t 40)) none false), xT 4 41] [4]) .ret))))))
def c_slices_DeleteFunc_int_int : AFunc := ⟨k_slices_DeleteFunc_int_int, 42, [.t 4], [], [], [(0, false)]⟩
def k_place_Free : ACode := (.seq (.reg [xS 4 (.box (.t 1)), xS 6 (.mv (.c (.ps 1 [])) false)] [0, 2, 4]) (.seq (.reg [xT 8 2, xS 9 (.callh f_place_Used [(.t 8)]), xS 7 (.alloc [(.ps 1 [])]), ⟨none, .store 1 (.t 7) (.t 9), none⟩] [0, 4, 7]) (.seq (.reg [xT 10 0, xS 11 (.callh f_slices_Clone_int_int [(.t 10)]), xS 12 (.mkfn f_place_Free_1 [(.t 4), (.t 7)]), xS 13 (.callh f_slices_DeleteFunc_int_int [(.t 11), (.t 12)]), xT 6 13] [6]) .ret)))
def c_place_Free : AFunc := ⟨k_place_Free, 14, [.t 6], [], [], []⟩
def k_place_Stuck_1 : ACode := (.seq (.reg [xS 2 (.boxf (.t 0)), xS 3 (.mv (.c (.bool false)) false)] [1, 2]) (.seq (.reg [xS 4 (.load 0 (.t 1)), xS 5 (.fa 0 (.t 2)), xS 6 (.load 0 (.t 5)), xS 7 (.callp f_slices_Contains_int_int [(.t 4), (.t 6)] [(0, false)]), xS 8 (.un .not (.t 7)), xT 3 8] [3]) .ret))
def c_place_Stuck_1 : AFunc := ⟨k_place_Stuck_1, 9, [.t 3], [], [], []⟩
def bl_slices_DeleteFunc_api_Place_api_Place_0 : ACode := (.seq (.seq (.reg [xF 16 6, xF 17 0, xS 18 (.len false (.t 17)), xS 19 (.bin .lss .int (.t 16) (.t 18))] [0, 1, 5, 6, 19]) (.cond (.t 19)
 .skip
 (.exit 0))) (.seq (.block 1 (.seq (.reg [xF 22 0, xF 23 6, xS 24 (.ia (.sl 2) (.t 22) (.t 23)), xS 25 (.load 2 (.t 24)), xS 7 (.alloc [(.int .i64 0), (.int .i64 0)]), ⟨none, .store 2 (.t 7) (.t 25), none⟩] [0, 1, 5, 6, 7]) (.seq (.reg [xF 26 1, xS 27 (.load 2 (.t 7)), xS 28 (.callv (.t 26) [(.t 27)]), xS 29 (.un .not (.t 28))] [0, 1, 5, 6, 7, 29]) (.cond (.t 29)
 (.seq (.reg [xF 30 0, xF 31 5, xS 32 (.load 2 (.t 7)), xS 33 (.ia (.sl 2) (.t 30) (.t 31)), ⟨none, .store 2 (.t 33) (.t 32), none⟩] [0, 1, 5, 6]) (.reg [xT 34 5, xS 35 (.bin .add .int (.t 34) (xI 1)), xT 5 35] [0, 1, 5, 6]))
 .skip)))) (.reg [xT 20 6, xS 21 (.bin .add .int (.t 20) (xI 1)), xT 6 21] [0, 1, 5, 6])))
def l_slices_DeleteFunc_api_Place_api_Place_0 : ACode := .loop [0, 1, 5, 6] [] bl_slices_DeleteFunc_api_Place_api_Place_0
theorem L_slices_DeleteFunc_api_Place_api_Place_0 {T : Table} (ks : List Kt) (e : Env) (h : Heap) (Q : Ex → Env → Heap → Prop) : Xc T l_slices_DeleteFunc_api_Place_api_Place_0 ks e h Q = Xc T bl_slices_DeleteFunc_api_Place_api_Place_0 (.seq l_slices_DeleteFunc_api_Place_api_Place_0 :: ks) (e.keep [0, 1, 5, 6]) h Q := Xc_loop ks _ e h Q _ _
def k_slices_DeleteFunc_api_Place_api_Place : ACode := (.seq (.reg [xS 4 (.mv (.c (.hn 2)) false)] [0, 1]) (.seq (.reg [xF 8 0, xF 9 1, xS 10 (.callh f_slices_IndexFunc_api_Place_api_Place [(.t 8), (.t 9)]), xT 5 10] [0, 1, 5]) (.seq (.seq (.reg [xF 11 5, xS 12 (.bin .eql .int (.t 11) (.c (.int .i64 (-1))))] [0, 1, 5, 12]) (.cond (.t 12)
 (.seq (.reg [xT 13 0, xT 4 13] [4]) .ret)
 .skip)) (.seq (.seq (.reg [xF 14 5, xS 15 (.bin .add .int (.t 14) (xI 1)), xT 6 15] [0, 1, 5, 6]) (.block 0 l_slices_DeleteFunc_api_Place_api_Place_0)) (.seq (.reg [xF 36 0, xF 37 5, xS 38 (.sl (.sl 2) (.t 36) (some (.t 37)) none none false), ⟨none, .clr 2 [(.int .i64 0), (.int .i64 0)] (.t 38), none⟩] [0, 5]) (.seq (.reg [xT 39 0, xT 40 5, xS 41 (.sl (.sl 2) (.t 39) none (some (.t 40)) none false), xT 4 41] [4]) .ret))))))
def c_slices_DeleteFunc_api_Place_api_Place : AFunc := ⟨k_slices_DeleteFunc_api_Place_api_Place, 42, [.t 4], [], [], [(0, true)]⟩
def k_place_Stuck : ACode := (.seq (.reg [xS 3 (.box (.t 1)), xS 4 (.mv (.c (.ps 2 [])) false)] [0, 3]) (.seq (.reg [xT 5 0, xS 6 (.callh f_slices_Clone_api_Place_api_Place [(.t 5)]), xS 7 (.mkfn f_place_Stuck_1 [(.t 3)]), xS 8 (.callh f_slices_DeleteFunc_api_Place_api_Place [(.t 6), (.t 7)]), xT 4 8] [4]) .ret))
def c_place_Stuck : AFunc := ⟨k_place_Stuck, 9, [.t 4], [], [], []⟩
def k_law20_awake : ACode := (.seq (.reg [xS 0 (.mv (.c (.bool false)) false)] []) (.seq (.reg [xS 3 (.callp f_law20_at [(xI 4), (xI 0)] []), xS 4 (.callp f_law20_at [(xI 3), (xI 0)] []), xS 5 (.bsl 2 [(.t 3), (.t 4)] false), xS 6 (.build [(.int .i64 0), (.int .i64 0), (.ps 2 [])] [(0, 1, (xI 1)), (2, 1, (.t 5))]), xS 7 (.callp f_law20_at [(xI 4), (xI 1)] []), xS 8 (.callp f_law20_at [(xI 3), (xI 1)] []), xS 9 (.bsl 2 [(.t 7), (.t 8)] false), xS 10 (.build [(.int .i64 0), (.int .i64 0), (.ps 2 [])] [(0, 1, (xI 2)), (2, 1, (.t 9))]), xS 11 (.callp f_law20_at [(xI 3), (xI 2)] []), xS 12 (.bsl 2 [(.t 11)] false), xS 13 (.build [(.int .i64 0), (.int .i64 0), (.ps 2 [])] [(0, 1, (xI 3)), (2, 1, (.t 12))]), xS 14 (.bsl 3 [(.t 6), (.t 10), (.t 13)] false), xT 1 14] [1]) (.seq (.reg [xT 15 1, xS 16 (.callp f_place_Choose [(.t 15), (.c (.ps 1 []))] []), xT 2 16] [2]) (.seq (.reg [xF 17 2, xS 18 (.callp f_law20_at [(xI 3), (xI 0)] []), xS 19 (.callp f_law20_at [(xI 3), (xI 1)] []), xS 20 (.callp f_law20_at [(xI 3), (xI 2)] []), xS 21 (.bsl 2 [(.t 18), (.t 19), (.t 20)] false), xS 22 (.callp f_ref20_Places [(.t 17), (.t 21)] [(0, true), (1, true)]), xT 23 22, xG 24 23 true (.mv (.t 2) false), xG 25 23 true (.callh f_place_Used [(.t 24)]), xG 26 23 true (.bsl 1 [(xI 3)] false), xG 27 23 true (.callp f_ref01_Ints [(.t 25), (.t 26)] [(0, false), (1, false)]), xS 28 (.pick (.t 23) (.t 27) (.c (.bool false))), xT 29 28, xG 30 29 true (.mv (.t 2) false), xG 31 29 true (.callp f_place_Count [(.t 30), (xI 3)] [(0, true)]), xG 32 29 true (.bin .eql .int (.t 31) (xI 3)), xS 33 (.pick (.t 29) (.t 32) (.c (.bool false))), xT 34 33, xG 35 34 true (.bsl 1 [(xI 2), (xI 3), (xI 4)] false), xG 36 34 true (.bsl 1 [(xI 2)] false), xG 37 34 true (.mv (.t 2) false), xG 38 34 true (.callh f_place_Free [(.t 35), (.t 36), (.t 37)]), xG 39 34 true (.bsl 1 [(xI 4)] false), xG 40 34 true (.callp f_ref01_Ints [(.t 38), (.t 39)] [(0, false), (1, false)]), xS 41 (.pick (.t 34) (.t 40) (.c (.bool false))), xT 42 41, xG 43 42 true (.mv (.t 2) true), xG 44 42 true (.bsl 1 [(xI 3)] false), xG 45 42 true (.callh f_place_Stuck [(.t 43), (.t 44)]), xG 46 42 true (.len false (.t 45)), xG 47 42 true (.bin .eql .int (.t 46) (xI 3)), xS 48 (.pick (.t 42) (.t 47) (.c (.bool false))), xT 0 48] [0]) .ret))))
def c_law20_awake : AFunc := ⟨k_law20_awake, 49, [.t 0], [], [], []⟩
def bl_law20_few_0 : ACode := (.seq (.seq (.reg [xF 5 4, xF 6 0, xS 7 (.len false (.t 6)), xS 8 (.bin .lss .int (.t 5) (.t 7)), xT 9 8, xG 10 9 true (.mv (.t 4) false), xG 11 9 true (.bin .lss .int (.t 10) (xI 40)), xS 12 (.pick (.t 9) (.t 11) (.c (.bool false)))] [0, 3, 4, 12]) (.cond (.t 12)
 .skip
 (.exit 0))) (.seq (.block 1 (.seq (.reg [xF 15 0, xF 16 4, xS 17 (.ia (.sl 3) (.t 15) (.t 16)), xS 18 (.fa 2 (.t 17)), xS 19 (.load 0 (.t 18)), xS 20 (.len false (.t 19)), xS 21 (.bin .gtr .int (.t 20) (xI 0)), xT 22 21, xG 23 22 true (.mv (.t 0) false), xG 24 22 true (.mv (.t 4) false), xG 25 22 true (.ia (.sl 3) (.t 23) (.t 24)), xG 26 22 true (.fa 2 (.t 25)), xG 27 22 true (.load 0 (.t 26)), xG 28 22 true (.len false (.t 27)), xG 29 22 true (.bin .leq .int (.t 28) (xI 6)), xS 30 (.pick (.t 22) (.t 29) (.c (.bool false)))] [0, 3, 4, 30]) (.cond (.t 30)
 (.reg [xT 31 3, xF 32 0, xF 33 4, xS 34 (.ia (.sl 3) (.t 32) (.t 33)), xS 35 (.load 3 (.t 34)), xS 36 (.bsl 3 [(.t 35)] false), xS 37 (.app 3 40 (.t 31) (.t 36)), xT 3 37] [0, 3, 4])
 .skip))) (.reg [xT 13 4, xS 14 (.bin .add .int (.t 13) (xI 1)), xT 4 14] [0, 3, 4])))
def l_law20_few_0 : ACode := .loop [0, 3, 4] [(3, 0)] bl_law20_few_0
theorem L_law20_few_0 {T : Table} (ks : List Kt) (e : Env) (h : Heap) (Q : Ex → Env → Heap → Prop) : Xc T l_law20_few_0 ks e h Q = Xc T bl_law20_few_0 (.seq l_law20_few_0 :: ks) (e.keep [0, 3, 4]) h Q := Xc_loop ks _ e h Q _ _
def k_law20_few : ACode := (.seq (.reg [xS 2 (.mv (.c (.ps 3 [])) false)] [0]) (.seq (.reg [xS 3 (.mv (.c (.ps 3 [])) false)] [0, 3]) (.seq (.seq (.reg [xS 4 (.mv (xI 0) false)] [0, 3, 4]) (.block 0 l_law20_few_0)) (.seq (.reg [xT 38 3, xT 2 38] [2]) .ret))))
def c_law20_few : AFunc := ⟨k_law20_few, 39, [.t 2], [], [0], []⟩
def bl_ref20_Blocks_0 : ACode := (.seq (.seq (.regd [xF 13 5, xF 14 3, xS 15 (.len false (.t 14)), xS 16 (.bin .lss .int (.t 13) (.t 15)), xF 17 16, xG 18 17 true (.mv (.t 3) false), xG 19 17 true (.mv (.t 5) false), xG 20 17 true (.ia (.sl 1) (.t 18) (.t 19)), xG 21 17 true (.load 0 (.t 20)), xG 22 17 true (.mv (.t 0) false), xG 23 17 true (.mv (.t 4) false), xG 24 17 true (.ia (.sl 2) (.t 22) (.t 23)), xG 25 17 true (.fa 0 (.t 24)), xG 26 17 true (.load 0 (.t 25)), xG 27 17 true (.bin .lss .int (.t 21) (.t 26)), xS 28 (.pick (.t 17) (.t 27) (.c (.bool false)))] [0, 3, 4, 5, 28] ([(3, 0)], []) []) (.cond (.t 28)
 .skip
 (.exit 2))) (.block 3 (.reg [xT 29 5, xS 30 (.bin .add .int (.t 29) (xI 1)), xT 5 30] [0, 3, 4, 5])))
def l_ref20_Blocks_0 : ACode := .loop [0, 3, 4, 5] [(3, 0)] bl_ref20_Blocks_0
theorem L_ref20_Blocks_0 {T : Table} (ks : List Kt) (e : Env) (h : Heap) (Q : Ex → Env → Heap → Prop) : Xc T l_ref20_Blocks_0 ks e h Q = Xc T bl_ref20_Blocks_0 (.seq l_ref20_Blocks_0 :: ks) (e.keep [0, 3, 4, 5]) h Q := Xc_loop ks _ e h Q _ _
def bl_ref20_Blocks_1 : ACode := (.seq (.seq (.reg [xF 7 4, xF 8 0, xS 9 (.len false (.t 8)), xS 10 (.bin .lss .int (.t 7) (.t 9))] [0, 3, 4, 10]) (.cond (.t 10)
 .skip
 (.exit 0))) (.seq (.block 1 (.seq (.reg [xS 5 (.mv (xI 0) false)] [0, 3, 4, 5]) (.seq (.block 2 l_ref20_Blocks_0) (.seq (.seq (.regd [xF 31 5, xF 32 3, xS 33 (.len false (.t 32)), xS 34 (.bin .lss .int (.t 31) (.t 33)), xF 35 34, xG 36 35 true (.mv (.t 3) false), xG 37 35 true (.mv (.t 5) false), xG 38 35 true (.ia (.sl 1) (.t 36) (.t 37)), xG 39 35 true (.load 0 (.t 38)), xG 40 35 true (.mv (.t 0) false), xG 41 35 true (.mv (.t 4) false), xG 42 35 true (.ia (.sl 2) (.t 40) (.t 41)), xG 43 35 true (.fa 0 (.t 42)), xG 44 35 true (.load 0 (.t 43)), xG 45 35 true (.bin .eql .int (.t 39) (.t 44)), xS 46 (.pick (.t 35) (.t 45) (.c (.bool false)))] [0, 3, 4, 5, 46] ([(3, 0)], []) []) (.cond (.t 46)
 (.exit 1)
 .skip)) (.seq (.reg [xS 47 (.bsl 1 [] false), xF 48 3, xF 49 5, xS 50 (.sl (.sl 1) (.t 48) none (some (.t 49)) none false), xS 51 (.app 1 8 (.t 47) (.t 50)), xT 6 51] [0, 3, 4, 5, 6]) (.seq (.reg [xT 52 6, xF 53 0, xF 54 4, xS 55 (.ia (.sl 2) (.t 53) (.t 54)), xS 56 (.fa 0 (.t 55)), xS 57 (.load 0 (.t 56)), xS 58 (.bsl 1 [(.t 57)] false), xS 59 (.app 1 8 (.t 52) (.t 58)), xT 6 59] [0, 3, 4, 5, 6]) (.reg [xT 60 6, xT 61 3, xT 62 5, xS 63 (.sl (.sl 1) (.t 61) (some (.t 62)) none none false), xS 64 (.app 1 8 (.t 60) (.t 63)), xT 3 64] [0, 3, 4]))))))) (.reg [xT 11 4, xS 12 (.bin .add .int (.t 11) (xI 1)), xT 4 12] [0, 3, 4])))
def l_ref20_Blocks_1 : ACode := .loop [0, 3, 4] [(3, 0)] bl_ref20_Blocks_1
theorem L_ref20_Blocks_1 {T : Table} (ks : List Kt) (e : Env) (h : Heap) (Q : Ex → Env → Heap → Prop) : Xc T l_ref20_Blocks_1 ks e h Q = Xc T bl_ref20_Blocks_1 (.seq l_ref20_Blocks_1 :: ks) (e.keep [0, 3, 4]) h Q := Xc_loop ks _ e h Q _ _
def k_ref20_Blocks : ACode := (.seq (.reg [xS 2 (.mv (.c (.ps 1 [])) false)] [0]) (.seq (.reg [xS 3 (.mv (.c (.ps 1 [])) false)] [0, 3]) (.seq (.seq (.reg [xS 4 (.mv (xI 0) false)] [0, 3, 4]) (.block 0 l_ref20_Blocks_1)) (.seq (.reg [xT 65 3, xT 2 65] [2]) .ret))))
def c_ref20_Blocks : AFunc := ⟨k_ref20_Blocks, 66, [.t 2], [], [0], []⟩
def bl_ref13_Has_0 : ACode := (.seq (.seq (.reg [xF 6 5, xF 7 0, xS 8 (.len false (.t 7)), xS 9 (.bin .lss .int (.t 6) (.t 8))] [0, 1, 5, 9]) (.cond (.t 9)
 .skip
 (.exit 0))) (.seq (.block 1 (.seq (.reg [xF 12 0, xF 13 5, xS 14 (.ia (.sl 1) (.t 12) (.t 13)), xS 15 (.load 0 (.t 14)), xF 16 1, xS 17 (.bin .eql .int (.t 15) (.t 16))] [0, 1, 5, 17]) (.cond (.t 17)
 (.seq (.reg [xS 4 (.mv (.c (.bool true)) false)] [4]) .ret)
 .skip))) (.reg [xT 10 5, xS 11 (.bin .add .int (.t 10) (xI 1)), xT 5 11] [0, 1, 5])))
def l_ref13_Has_0 : ACode := .loop [0, 1, 5] [] bl_ref13_Has_0
theorem L_ref13_Has_0 {T : Table} (ks : List Kt) (e : Env) (h : Heap) (Q : Ex → Env → Heap → Prop) : Xc T l_ref13_Has_0 ks e h Q = Xc T bl_ref13_Has_0 (.seq l_ref13_Has_0 :: ks) (e.keep [0, 1, 5]) h Q := Xc_loop ks _ e h Q _ _
def k_ref13_Has : ACode := (.seq (.reg [xS 4 (.mv (.c (.bool false)) false)] [0, 1]) (.seq (.seq (.reg [xS 5 (.mv (xI 0) false)] [0, 1, 5]) (.block 0 l_ref13_Has_0)) (.seq (.reg [xS 4 (.mv (.c (.bool false)) false)] [4]) .ret)))
def c_ref13_Has : AFunc := ⟨k_ref13_Has, 18, [.t 4], [], [], []⟩
def bl_ref20_In_0 : ACode := (.seq (.seq (.reg [xF 6 5, xF 7 0, xS 8 (.len false (.t 7)), xS 9 (.bin .lss .int (.t 6) (.t 8))] [0, 1, 5, 9]) (.cond (.t 9)
 .skip
 (.exit 0))) (.seq (.block 1 (.seq (.reg [xF 12 0, xF 13 5, xS 14 (.ia (.sl 2) (.t 12) (.t 13)), xS 15 (.fa 0 (.t 14)), xS 16 (.load 0 (.t 15)), xF 17 1, xS 18 (.bin .eql .int (.t 16) (.t 17))] [0, 1, 5, 18]) (.cond (.t 18)
 (.seq (.reg [xS 4 (.mv (.c (.bool true)) false)] [4]) .ret)
 .skip))) (.reg [xT 10 5, xS 11 (.bin .add .int (.t 10) (xI 1)), xT 5 11] [0, 1, 5])))
def l_ref20_In_0 : ACode := .loop [0, 1, 5] [] bl_ref20_In_0
theorem L_ref20_In_0 {T : Table} (ks : List Kt) (e : Env) (h : Heap) (Q : Ex → Env → Heap → Prop) : Xc T l_ref20_In_0 ks e h Q = Xc T bl_ref20_In_0 (.seq l_ref20_In_0 :: ks) (e.keep [0, 1, 5]) h Q := Xc_loop ks _ e h Q _ _
def k_ref20_In : ACode := (.seq (.reg [xS 4 (.mv (.c (.bool false)) false)] [0, 1]) (.seq (.seq (.reg [xS 5 (.mv (xI 0) false)] [0, 1, 5]) (.block 0 l_ref20_In_0)) (.seq (.reg [xS 4 (.mv (.c (.bool false)) false)] [4]) .ret)))
def c_ref20_In : AFunc := ⟨k_ref20_In, 19, [.t 4], [], [], []⟩
def bl_ref20_Other_0 : ACode := (.seq (.seq (.reg [xF 11 9, xS 12 (.fa 2 (.t 4)), xS 13 (.load 0 (.t 12)), xS 14 (.len false (.t 13)), xS 15 (.bin .lss .int (.t 11) (.t 14))] [1, 2, 3, 4, 9, 15]) (.cond (.t 15)
 .skip
 (.exit 0))) (.seq (.block 1 (.seq (.reg [xS 18 (.fa 2 (.t 4)), xS 19 (.load 0 (.t 18)), xF 20 9, xS 21 (.ia (.sl 2) (.t 19) (.t 20)), xS 22 (.fa 0 (.t 21)), xS 23 (.load 0 (.t 22)), xT 10 23] [1, 2, 3, 4, 9, 10]) (.seq (.reg [xF 24 10, xF 25 3, xS 26 (.bin .neq .int (.t 24) (.t 25)), xT 27 26, xG 28 27 true (.mv (.t 2) false), xG 29 27 true (.mv (.t 10) false), xG 30 27 true (.callp f_ref13_Has [(.t 28), (.t 29)] [(0, false)]), xG 31 27 true (.un .not (.t 30)), xS 32 (.pick (.t 27) (.t 31) (.c (.bool false))), xT 33 32, xG 34 33 true (.mv (.t 1) false), xG 35 33 true (.mv (.t 10) true), xG 36 33 true (.callp f_ref20_In [(.t 34), (.t 35)] [(0, true)]), xS 37 (.pick (.t 33) (.t 36) (.c (.bool false)))] [1, 2, 3, 4, 9, 37]) (.cond (.t 37)
 (.seq (.reg [xT 38 9, xT 8 38] [8]) .ret)
 .skip)))) (.reg [xT 16 9, xS 17 (.bin .add .int (.t 16) (xI 1)), xT 9 17] [1, 2, 3, 4, 9])))
def l_ref20_Other_0 : ACode := .loop [1, 2, 3, 4, 9] [] bl_ref20_Other_0
theorem L_ref20_Other_0 {T : Table} (ks : List Kt) (e : Env) (h : Heap) (Q : Ex → Env → Heap → Prop) : Xc T l_ref20_Other_0 ks e h Q = Xc T bl_ref20_Other_0 (.seq l_ref20_Other_0 :: ks) (e.keep [1, 2, 3, 4, 9]) h Q := Xc_loop ks _ e h Q _ _
def k_ref20_Other : ACode := (.seq (.reg [xS 4 (.box (.t 0)), xS 8 (.mv (xI 0) false)] [1, 2, 3, 4]) (.seq (.seq (.reg [xS 9 (.mv (xI 0) false)] [1, 2, 3, 4, 9]) (.block 0 l_ref20_Other_0)) (.seq (.reg [xS 8 (.mv (.c (.int .i64 (-1))) false)] [8]) .ret)))
def c_ref20_Other : AFunc := ⟨k_ref20_Other, 39, [.t 8], [], [], []⟩
def bl_ref20_Can_0 : ACode := (.seq (.seq (.reg [xF 19 9, xF 20 1, xS 21 (.len false (.t 20)), xS 22 (.bin .lss .int (.t 19) (.t 21))] [0, 1, 2, 3, 9, 22]) (.cond (.t 22)
 .skip
 (.exit 0))) (.seq (.block 1 (.seq (.reg [xF 25 1, xF 26 9, xS 27 (.ia (.sl 2) (.t 25) (.t 26)), xS 28 (.fa 0 (.t 27)), xS 29 (.load 0 (.t 28)), xF 30 3, xS 31 (.bin .eql .int (.t 29) (.t 30)), xT 32 31, xG 33 32 true (.mv (.t 0) false), xG 34 32 true (.mv (.t 9) false), xG 35 32 true (.ia (.sl 3) (.t 33) (.t 34)), xG 36 32 true (.load 3 (.t 35)), xG 37 32 true (.mv (.t 1) false), xG 38 32 true (.mv (.t 2) false), xG 39 32 true (.mv (.t 3) false), xG 40 32 true (.callp f_ref20_Other [(.t 36), (.t 37), (.t 38), (.t 39)] [(1, true), (2, false)]), xG 41 32 true (.bin .lss .int (.t 40) (xI 0)), xS 42 (.pick (.t 32) (.t 41) (.c (.bool false)))] [0, 1, 2, 3, 9, 42]) (.cond (.t 42)
 (.seq (.reg [xS 8 (.mv (.c (.bool false)) false)] [8]) .ret)
 .skip))) (.reg [xT 23 9, xS 24 (.bin .add .int (.t 23) (xI 1)), xT 9 24] [0, 1, 2, 3, 9])))
def l_ref20_Can_0 : ACode := .loop [0, 1, 2, 3, 9] [] bl_ref20_Can_0
theorem L_ref20_Can_0 {T : Table} (ks : List Kt) (e : Env) (h : Heap) (Q : Ex → Env → Heap → Prop) : Xc T l_ref20_Can_0 ks e h Q = Xc T bl_ref20_Can_0 (.seq l_ref20_Can_0 :: ks) (e.keep [0, 1, 2, 3, 9]) h Q := Xc_loop ks _ e h Q _ _
def k_ref20_Can : ACode := (.seq (.reg [xS 8 (.mv (.c (.bool false)) false)] [0, 1, 2, 3]) (.seq (.seq (.reg [xF 10 2, xF 11 3, xS 12 (.callp f_ref13_Has [(.t 10), (.t 11)] [(0, false)]), xT 13 12, xG 14 13 false (.mv (.t 1) false), xG 15 13 false (.mv (.t 3) false), xG 16 13 false (.callp f_ref20_In [(.t 14), (.t 15)] [(0, true)]), xG 17 13 false (.un .not (.t 16)), xS 18 (.pick (.t 13) (.c (.bool true)) (.t 17))] [0, 1, 2, 3, 18]) (.cond (.t 18)
 (.seq (.reg [xS 8 (.mv (.c (.bool false)) false)] [8]) .ret)
 .skip)) (.seq (.seq (.reg [xS 9 (.mv (xI 0) false)] [0, 1, 2, 3, 9]) (.block 0 l_ref20_Can_0)) (.seq (.reg [xS 8 (.mv (.c (.bool true)) false)] [8]) .ret))))
def c_ref20_Can : AFunc := ⟨k_ref20_Can, 43, [.t 8], [], [], []⟩
def bl_ref20_Choose_0 : ACode := (.seq (.seq (.reg [xF 13 6, xF 14 0, xS 15 (.len false (.t 14)), xS 16 (.bin .lss .int (.t 13) (.t 15))] [0, 1, 5, 6, 16]) (.cond (.t 16)
 .skip
 (.exit 0))) (.seq (.block 1 (.reg [xT 19 5, xF 20 0, xF 21 6, xS 22 (.ia (.sl 3) (.t 20) (.t 21)), xS 23 (.fa 2 (.t 22)), xS 24 (.load 0 (.t 23)), xS 25 (.ia (.sl 2) (.t 24) (xI 0)), xS 26 (.load 2 (.t 25)), xS 27 (.bsl 2 [(.t 26)] false), xS 28 (.app 2 16 (.t 19) (.t 27)), xT 5 28] [0, 1, 5, 6])) (.reg [xT 17 6, xS 18 (.bin .add .int (.t 17) (xI 1)), xT 6 18] [0, 1, 5, 6])))
def l_ref20_Choose_0 : ACode := .loop [0, 1, 5, 6] [(5, 0)] bl_ref20_Choose_0
theorem L_ref20_Choose_0 {T : Table} (ks : List Kt) (e : Env) (h : Heap) (Q : Ex → Env → Heap → Prop) : Xc T l_ref20_Choose_0 ks e h Q = Xc T bl_ref20_Choose_0 (.seq l_ref20_Choose_0 :: ks) (e.keep [0, 1, 5, 6]) h Q := Xc_loop ks _ e h Q _ _
def bl_ref20_Choose_1 : ACode := (.seq (.seq (.reg [xF 39 10, xF 40 9, xS 41 (.len false (.t 40)), xS 42 (.bin .lss .int (.t 39) (.t 41)), xT 43 42, xG 44 43 true (.mv (.t 0) false), xG 45 43 true (.mv (.t 5) false), xG 46 43 true (.mv (.t 1) false), xG 47 43 true (.mv (.t 9) false), xG 48 43 true (.mv (.t 10) false), xG 49 43 true (.ia (.sl 1) (.t 47) (.t 48)), xG 50 43 true (.load 0 (.t 49)), xG 51 43 true (.callp f_ref20_Can [(.t 44), (.t 45), (.t 46), (.t 50)] [(0, true), (1, true), (2, false)]), xG 52 43 true (.un .not (.t 51)), xS 53 (.pick (.t 43) (.t 52) (.c (.bool false)))] [0, 1, 5, 7, 8, 9, 10, 53]) (.cond (.t 53)
 .skip
 (.exit 4))) (.block 5 (.reg [xT 54 10, xS 55 (.bin .add .int (.t 54) (xI 1)), xT 10 55] [0, 1, 5, 7, 8, 9, 10])))
def l_ref20_Choose_1 : ACode := .loop [0, 1, 5, 7, 8, 9, 10] [(5, 0), (9, 0)] bl_ref20_Choose_1
theorem L_ref20_Choose_1 {T : Table} (ks : List Kt) (e : Env) (h : Heap) (Q : Ex → Env → Heap → Prop) : Xc T l_ref20_Choose_1 ks e h Q = Xc T bl_ref20_Choose_1 (.seq l_ref20_Choose_1 :: ks) (e.keep [0, 1, 5, 7, 8, 9, 10]) h Q := Xc_loop ks _ e h Q _ _
def bl_ref20_Choose_2 : ACode := (.seq (.seq (.reg [xF 61 12, xF 62 5, xS 63 (.len false (.t 62)), xS 64 (.bin .lss .int (.t 61) (.t 63))] [0, 1, 5, 7, 8, 9, 10, 11, 12, 64]) (.cond (.t 64)
 .skip
 (.exit 6))) (.seq (.block 7 (.seq (.regd [xF 67 5, xF 68 12, xS 69 (.ia (.sl 2) (.t 67) (.t 68)), xS 70 (.fa 0 (.t 69)), xS 71 (.load 0 (.t 70)), xF 72 9, xF 73 10, xS 74 (.ia (.sl 1) (.t 72) (.t 73)), xS 75 (.load 0 (.t 74)), xS 76 (.bin .eql .int (.t 71) (.t 75))] [0, 1, 5, 7, 8, 9, 10, 11, 12, 76] ([(5, 0), (9, 0), (11, 0)], []) []) (.cond (.t 76)
 (.regd [xT 77 11, xF 78 0, xF 79 12, xS 80 (.ia (.sl 3) (.t 78) (.t 79)), xS 81 (.fa 2 (.t 80)), xS 82 (.load 0 (.t 81)), xF 83 0, xF 84 12, xS 85 (.ia (.sl 3) (.t 83) (.t 84)), xS 86 (.load 3 (.t 85)), xF 87 5, xF 88 1, xF 89 9, xF 90 10, xS 91 (.ia (.sl 1) (.t 89) (.t 90)), xS 92 (.load 0 (.t 91)), xS 93 (.callp f_ref20_Other [(.t 86), (.t 87), (.t 88), (.t 92)] [(1, true), (2, false)]), xS 94 (.ia (.sl 2) (.t 82) (.t 93)), xS 95 (.load 2 (.t 94)), xS 96 (.bsl 2 [(.t 95)] false), xS 97 (.app 2 16 (.t 77) (.t 96)), xT 11 97] [0, 1, 5, 7, 8, 9, 10, 11, 12] ([(5, 0), (9, 0), (11, 0)], [(0, [(5, 0), (9, 0), (77, 0)]), (20, [(5, 0), (9, 0), (97, 0)]), (21, [(5, 0), (9, 0), (11, 0)])]) [])
 (.reg [xT 98 11, xF 99 5, xF 100 12, xS 101 (.ia (.sl 2) (.t 99) (.t 100)), xS 102 (.load 2 (.t 101)), xS 103 (.bsl 2 [(.t 102)] false), xS 104 (.app 2 16 (.t 98) (.t 103)), xT 11 104] [0, 1, 5, 7, 8, 9, 10, 11, 12])))) (.reg [xT 65 12, xS 66 (.bin .add .int (.t 65) (xI 1)), xT 12 66] [0, 1, 5, 7, 8, 9, 10, 11, 12])))
def l_ref20_Choose_2 : ACode := .loop [0, 1, 5, 7, 8, 9, 10, 11, 12] [(5, 0), (9, 0), (11, 0)] bl_ref20_Choose_2
theorem L_ref20_Choose_2 {T : Table} (ks : List Kt) (e : Env) (h : Heap) (Q : Ex → Env → Heap → Prop) : Xc T l_ref20_Choose_2 ks e h Q = Xc T bl_ref20_Choose_2 (.seq l_ref20_Choose_2 :: ks) (e.keep [0, 1, 5, 7, 8, 9, 10, 11, 12]) h Q := Xc_loop ks _ e h Q _ _
def bl_ref20_Choose_3 : ACode := (.seq (.seq (.reg [xF 32 8, xF 33 7, xS 34 (.bin .lss .int (.t 32) (.t 33))] [0, 1, 5, 7, 8, 34]) (.cond (.t 34)
 .skip
 (.exit 2))) (.seq (.block 3 (.seq (.reg [xF 37 5, xS 38 (.callp f_ref20_Blocks [(.t 37)] []), xT 9 38] [0, 1, 5, 7, 8, 9]) (.seq (.reg [xS 10 (.mv (xI 0) false)] [0, 1, 5, 7, 8, 9, 10]) (.seq (.block 4 l_ref20_Choose_1) (.seq (.seq (.reg [xF 56 10, xF 57 9, xS 58 (.len false (.t 57)), xS 59 (.bin .eql .int (.t 56) (.t 58))] [0, 1, 5, 7, 8, 9, 10, 59]) (.cond (.t 59)
 (.seq (.reg [xT 60 5, xT 4 60] [4]) .ret)
 .skip)) (.seq (.reg [xS 11 (.mv (.c (.ps 2 [])) false)] [0, 1, 5, 7, 8, 9, 10, 11]) (.seq (.seq (.reg [xS 12 (.mv (xI 0) false)] [0, 1, 5, 7, 8, 9, 10, 11, 12]) (.block 6 l_ref20_Choose_2)) (.reg [xT 105 11, xT 5 105] [0, 1, 5, 7, 8])))))))) (.reg [xT 35 8, xS 36 (.bin .add .int (.t 35) (xI 1)), xT 8 36] [0, 1, 5, 7, 8])))
def l_ref20_Choose_3 : ACode := .loop [0, 1, 5, 7, 8] [(5, 0)] bl_ref20_Choose_3
theorem L_ref20_Choose_3 {T : Table} (ks : List Kt) (e : Env) (h : Heap) (Q : Ex → Env → Heap → Prop) : Xc T l_ref20_Choose_3 ks e h Q = Xc T bl_ref20_Choose_3 (.seq l_ref20_Choose_3 :: ks) (e.keep [0, 1, 5, 7, 8]) h Q := Xc_loop ks _ e h Q _ _
def k_ref20_Choose : ACode := (.seq (.reg [xS 4 (.mv (.c (.ps 2 [])) false)] [0, 1]) (.seq (.reg [xS 5 (.mv (.c (.ps 2 [])) false)] [0, 1, 5]) (.seq (.seq (.reg [xS 6 (.mv (xI 0) false)] [0, 1, 5, 6]) (.block 0 l_ref20_Choose_0)) (.seq (.reg [xF 29 5, xS 30 (.len false (.t 29)), xS 31 (.bin .add .int (.t 30) (xI 1)), xT 7 31] [0, 1, 5, 7]) (.seq (.seq (.reg [xS 8 (.mv (xI 0) false)] [0, 1, 5, 7, 8]) (.block 2 l_ref20_Choose_3)) (.seq (.reg [xT 106 5, xT 4 106] [4]) .ret))))))
def c_ref20_Choose : AFunc := ⟨k_ref20_Choose, 107, [.t 4], [], [0], []⟩
def k_law20_PlaceChooses : ACode := (.seq (.reg [xS 4 (.mv (.c (.bool false)) false)] [0, 1]) (.seq (.seq (.reg [xF 5 1, xS 6 (.len false (.t 5)), xS 7 (.bin .gtr .int (.t 6) (xI 20))] [0, 1, 7]) (.cond (.t 7)
 (.seq (.reg [xS 8 (.callp f_law20_awake [] []), xT 4 8] [4]) .ret)
 .skip)) (.seq (.reg [xT 9 0, xS 10 (.callp f_law20_few [(.t 9)] []), xT 0 10] [0, 1]) (.seq (.reg [xS 11 (.callp f_law20_awake [] []), xT 12 11, xG 13 12 true (.mv (.t 0) false), xG 14 12 true (.mv (.t 1) false), xG 15 12 true (.callp f_place_Choose [(.t 13), (.t 14)] []), xG 16 12 true (.mv (.t 0) true), xG 17 12 true (.mv (.t 1) false), xG 18 12 true (.callp f_ref20_Choose [(.t 16), (.t 17)] []), xG 19 12 true (.callp f_ref20_Places [(.t 15), (.t 18)] [(0, true), (1, true)]), xS 20 (.pick (.t 12) (.t 19) (.c (.bool false))), xT 21 20, xG 22 21 true (.build [(.int .i64 0), (.int .i64 0), (.ps 2 [])] [(0, 1, (xI 3))]), xG 23 21 true (.bsl 3 [(.t 22)] false), xG 24 21 true (.mv (.t 1) true), xG 25 21 true (.callp f_place_Choose [(.t 23), (.t 24)] []), xG 26 21 true (.len false (.t 25)), xG 27 21 true (.bin .eql .int (.t 26) (xI 0)), xS 28 (.pick (.t 21) (.t 27) (.c (.bool false))), xT 4 28] [4]) .ret))))
def c_law20_PlaceChooses : AFunc := ⟨k_law20_PlaceChooses, 29, [.t 4], [], [], []⟩

def tab : List (Nat × AFunc) := [(f_law20_at, c_law20_at),
  (f_math_bits_Len32, c_math_bits_Len32),
  (f_math_bits_Len64, c_math_bits_Len64),
  (f_math_bits_Len, c_math_bits_Len),
  (f_cmp_isNaN_int, c_cmp_isNaN_int),
  (f_cmp_Less_int, c_cmp_Less_int),
  (f_slices_insertionSortOrdered_int, c_slices_insertionSortOrdered_int),
  (f_slices_siftDownOrdered_int, c_slices_siftDownOrdered_int),
  (f_slices_heapSortOrdered_int, c_slices_heapSortOrdered_int),
  (f_slices_nextPowerOfTwo, c_slices_nextPowerOfTwo),
  (f_slices_xorshift_Next, c_slices_xorshift_Next),
  (f_slices_breakPatternsOrdered_int, c_slices_breakPatternsOrdered_int),
  (f_slices_order2Ordered_int, c_slices_order2Ordered_int),
  (f_slices_medianOrdered_int, c_slices_medianOrdered_int),
  (f_slices_medianAdjacentOrdered_int, c_slices_medianAdjacentOrdered_int),
  (f_slices_choosePivotOrdered_int, c_slices_choosePivotOrdered_int),
  (f_slices_reverseRangeOrdered_int, c_slices_reverseRangeOrdered_int),
  (f_slices_partialInsertionSortOrdered_int, c_slices_partialInsertionSortOrdered_int),
  (f_slices_partitionEqualOrdered_int, c_slices_partitionEqualOrdered_int),
  (f_slices_partitionOrdered_int, c_slices_partitionOrdered_int),
  (f_slices_pdqsortOrdered_int, c_slices_pdqsortOrdered_int),
  (f_slices_Sort_int_int, c_slices_Sort_int_int),
  (f_slices_Compact_int_int, c_slices_Compact_int_int),
  (f_place_Used, c_place_Used),
  (f_slices_Index_int_int, c_slices_Index_int_int),
  (f_slices_Contains_int_int, c_slices_Contains_int_int),
  (f_slices_Clone_api_Place_api_Place, c_slices_Clone_api_Place_api_Place),
  (f_place_choice_others_1, c_place_choice_others_1),
  (f_slices_IndexFunc_api_Place_api_Place, c_slices_IndexFunc_api_Place_api_Place),
  (f_place_choice_others, c_place_choice_others),
  (f_place_choice_shrink, c_place_choice_shrink),
  (f_place_Choose, c_place_Choose),
  (f_ref20_Places, c_ref20_Places),
  (f_ref01_Ints, c_ref01_Ints),
  (f_place_Count, c_place_Count),
  (f_slices_Clone_int_int, c_slices_Clone_int_int),
  (f_place_Free_1, c_place_Free_1),
  (f_slices_IndexFunc_int_int, c_slices_IndexFunc_int_int),
  (f_slices_DeleteFunc_int_int, c_slices_DeleteFunc_int_int),
  (f_place_Free, c_place_Free),
  (f_place_Stuck_1, c_place_Stuck_1),
  (f_slices_DeleteFunc_api_Place_api_Place, c_slices_DeleteFunc_api_Place_api_Place),
  (f_place_Stuck, c_place_Stuck),
  (f_law20_awake, c_law20_awake),
  (f_law20_few, c_law20_few),
  (f_ref20_Blocks, c_ref20_Blocks),
  (f_ref13_Has, c_ref13_Has),
  (f_ref20_In, c_ref20_In),
  (f_ref20_Other, c_ref20_Other),
  (f_ref20_Can, c_ref20_Can),
  (f_ref20_Choose, c_ref20_Choose),
  (f_law20_PlaceChooses, c_law20_PlaceChooses)]
def T : Table := fun f => tab.lookup f
theorem t_law20_at : T f_law20_at = some c_law20_at := rfl
theorem t_math_bits_Len32 : T f_math_bits_Len32 = some c_math_bits_Len32 := rfl
theorem t_math_bits_Len64 : T f_math_bits_Len64 = some c_math_bits_Len64 := rfl
theorem t_math_bits_Len : T f_math_bits_Len = some c_math_bits_Len := rfl
theorem t_cmp_isNaN_int : T f_cmp_isNaN_int = some c_cmp_isNaN_int := rfl
theorem t_cmp_Less_int : T f_cmp_Less_int = some c_cmp_Less_int := rfl
theorem t_slices_insertionSortOrdered_int : T f_slices_insertionSortOrdered_int = some c_slices_insertionSortOrdered_int := rfl
theorem t_slices_siftDownOrdered_int : T f_slices_siftDownOrdered_int = some c_slices_siftDownOrdered_int := rfl
theorem t_slices_heapSortOrdered_int : T f_slices_heapSortOrdered_int = some c_slices_heapSortOrdered_int := rfl
theorem t_slices_nextPowerOfTwo : T f_slices_nextPowerOfTwo = some c_slices_nextPowerOfTwo := rfl
theorem t_slices_xorshift_Next : T f_slices_xorshift_Next = some c_slices_xorshift_Next := rfl
theorem t_slices_breakPatternsOrdered_int : T f_slices_breakPatternsOrdered_int = some c_slices_breakPatternsOrdered_int := rfl
theorem t_slices_order2Ordered_int : T f_slices_order2Ordered_int = some c_slices_order2Ordered_int := rfl
theorem t_slices_medianOrdered_int : T f_slices_medianOrdered_int = some c_slices_medianOrdered_int := rfl
theorem t_slices_medianAdjacentOrdered_int : T f_slices_medianAdjacentOrdered_int = some c_slices_medianAdjacentOrdered_int := rfl
theorem t_slices_choosePivotOrdered_int : T f_slices_choosePivotOrdered_int = some c_slices_choosePivotOrdered_int := rfl
theorem t_slices_reverseRangeOrdered_int : T f_slices_reverseRangeOrdered_int = some c_slices_reverseRangeOrdered_int := rfl
theorem t_slices_partialInsertionSortOrdered_int : T f_slices_partialInsertionSortOrdered_int = some c_slices_partialInsertionSortOrdered_int := rfl
theorem t_slices_partitionEqualOrdered_int : T f_slices_partitionEqualOrdered_int = some c_slices_partitionEqualOrdered_int := rfl
theorem t_slices_partitionOrdered_int : T f_slices_partitionOrdered_int = some c_slices_partitionOrdered_int := rfl
theorem t_slices_pdqsortOrdered_int : T f_slices_pdqsortOrdered_int = some c_slices_pdqsortOrdered_int := rfl
theorem t_slices_Sort_int_int : T f_slices_Sort_int_int = some c_slices_Sort_int_int := rfl
theorem t_slices_Compact_int_int : T f_slices_Compact_int_int = some c_slices_Compact_int_int := rfl
theorem t_place_Used : T f_place_Used = some c_place_Used := rfl
theorem t_slices_Index_int_int : T f_slices_Index_int_int = some c_slices_Index_int_int := rfl
theorem t_slices_Contains_int_int : T f_slices_Contains_int_int = some c_slices_Contains_int_int := rfl
theorem t_slices_Clone_api_Place_api_Place : T f_slices_Clone_api_Place_api_Place = some c_slices_Clone_api_Place_api_Place := rfl
theorem t_place_choice_others_1 : T f_place_choice_others_1 = some c_place_choice_others_1 := rfl
theorem t_slices_IndexFunc_api_Place_api_Place : T f_slices_IndexFunc_api_Place_api_Place = some c_slices_IndexFunc_api_Place_api_Place := rfl
theorem t_place_choice_others : T f_place_choice_others = some c_place_choice_others := rfl
theorem t_place_choice_shrink : T f_place_choice_shrink = some c_place_choice_shrink := rfl
theorem t_place_Choose : T f_place_Choose = some c_place_Choose := rfl
theorem t_ref20_Places : T f_ref20_Places = some c_ref20_Places := rfl
theorem t_ref01_Ints : T f_ref01_Ints = some c_ref01_Ints := rfl
theorem t_place_Count : T f_place_Count = some c_place_Count := rfl
theorem t_slices_Clone_int_int : T f_slices_Clone_int_int = some c_slices_Clone_int_int := rfl
theorem t_place_Free_1 : T f_place_Free_1 = some c_place_Free_1 := rfl
theorem t_slices_IndexFunc_int_int : T f_slices_IndexFunc_int_int = some c_slices_IndexFunc_int_int := rfl
theorem t_slices_DeleteFunc_int_int : T f_slices_DeleteFunc_int_int = some c_slices_DeleteFunc_int_int := rfl
theorem t_place_Free : T f_place_Free = some c_place_Free := rfl
theorem t_place_Stuck_1 : T f_place_Stuck_1 = some c_place_Stuck_1 := rfl
theorem t_slices_DeleteFunc_api_Place_api_Place : T f_slices_DeleteFunc_api_Place_api_Place = some c_slices_DeleteFunc_api_Place_api_Place := rfl
theorem t_place_Stuck : T f_place_Stuck = some c_place_Stuck := rfl
theorem t_law20_awake : T f_law20_awake = some c_law20_awake := rfl
theorem t_law20_few : T f_law20_few = some c_law20_few := rfl
theorem t_ref20_Blocks : T f_ref20_Blocks = some c_ref20_Blocks := rfl
theorem t_ref13_Has : T f_ref13_Has = some c_ref13_Has := rfl
theorem t_ref20_In : T f_ref20_In = some c_ref20_In := rfl
theorem t_ref20_Other : T f_ref20_Other = some c_ref20_Other := rfl
theorem t_ref20_Can : T f_ref20_Can = some c_ref20_Can := rfl
theorem t_ref20_Choose : T f_ref20_Choose = some c_ref20_Choose := rfl
theorem t_law20_PlaceChooses : T f_law20_PlaceChooses = some c_law20_PlaceChooses := rfl
end Ev
