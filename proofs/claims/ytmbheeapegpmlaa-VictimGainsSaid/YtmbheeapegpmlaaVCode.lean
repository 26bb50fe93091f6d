/- The code of the functions that the claim reaches, in the evaluator's form; what it is held against stands in the text of the checks. No condition. -/
import Derived.Test.YtmbheeapegpmlaaEv9
/-! The code of the functions, as the evaluator takes it. -/
set_option linter.all false
namespace Ev
open Go

abbrev f_law22_VictimPicks : Nat := 12
abbrev f_law22_VictimGains : Nat := 13
abbrev f_ref01_Ints : Nat := 21
abbrev f_ref13_Has : Nat := 26
abbrev f_ref01_High : Nat := 28
abbrev f_ref01_Low : Nat := 29
abbrev f_law22_light : Nat := 58
abbrev f_law22_awake : Nat := 59
abbrev f_victim_Pick : Nat := 60
abbrev f_ref22_Pick : Nat := 61
abbrev f_ref22_Count : Nat := 62
abbrev f_victim_Gain : Nat := 63
abbrev f_victim_Order : Nat := 64
abbrev f_victim_Total : Nat := 65
abbrev f_place_Count : Nat := 84
abbrev f_slices_Clone_int_int : Nat := 85
abbrev f_victim_Order_1 : Nat := 86
abbrev f_slices_SortFunc_int_int : Nat := 87
abbrev f_victim_Order_2 : Nat := 88
abbrev f_cmp_Or_int : Nat := 89
abbrev f_cmp_Compare_int : Nat := 90
abbrev f_slices_pdqsortCmpFunc_int : Nat := 95
abbrev f_math_bits_Len : Nat := 96
abbrev f_cmp_isNaN_int : Nat := 97
abbrev f_slices_insertionSortCmpFunc_int : Nat := 99
abbrev f_slices_heapSortCmpFunc_int : Nat := 100
abbrev f_slices_breakPatternsCmpFunc_int : Nat := 101
abbrev f_slices_choosePivotCmpFunc_int : Nat := 102
abbrev f_slices_reverseRangeCmpFunc_int : Nat := 103
abbrev f_slices_partialInsertionSortCmpFunc_int : Nat := 104
abbrev f_slices_partitionEqualCmpFunc_int : Nat := 105
abbrev f_slices_partitionCmpFunc_int : Nat := 106
abbrev f_math_bits_Len32 : Nat := 107
abbrev f_math_bits_Len64 : Nat := 108
abbrev f_slices_siftDownCmpFunc_int : Nat := 110
abbrev f_slices_nextPowerOfTwo : Nat := 111
abbrev f_slices_xorshift_Next : Nat := 112
abbrev f_slices_medianAdjacentCmpFunc_int : Nat := 113
abbrev f_slices_medianCmpFunc_int : Nat := 114
abbrev f_slices_order2CmpFunc_int : Nat := 116
-- 21: wagtail/wagtailref01.Ints
def bl_ref01_Ints_0 : ACode := (.seq (.seq (.reg [⟨(some 11), .mv (.t 5) false, none⟩,
  ⟨(some 12), .mv (.t 0) false, none⟩,
  ⟨(some 13), .len false (.t 12), none⟩,
  ⟨(some 14), .bin .lss .int (.t 11) (.t 13), none⟩] [0, 1, 5, 14]) (.cond (.t 14)
 .skip
 (.exit 0))) (.seq (.block 1 (.seq (.regd [⟨(some 17), .mv (.t 0) false, none⟩,
  ⟨(some 18), .mv (.t 5) false, none⟩,
  ⟨(some 19), .ia (.sl 1) (.t 17) (.t 18), none⟩,
  ⟨(some 20), .load 0 (.t 19), none⟩,
  ⟨(some 21), .mv (.t 1) false, none⟩,
  ⟨(some 22), .mv (.t 5) false, none⟩,
  ⟨(some 23), .ia (.sl 1) (.t 21) (.t 22), none⟩,
  ⟨(some 24), .load 0 (.t 23), none⟩,
  ⟨(some 25), .bin .neq .int (.t 20) (.t 24), none⟩] [0, 1, 5, 25] [] []) (.cond (.t 25)
 (.seq (.reg [⟨(some 4), .mv (.c (.bool false)) false, none⟩] [4]) .ret)
 .skip))) (.reg [⟨(some 15), .mv (.t 5) true, none⟩,
  ⟨(some 16), .bin .add .int (.t 15) (.c (.int .i64 1)), none⟩,
  ⟨(some 5), .mv (.t 16) true, none⟩] [0, 1, 5])))
def l_ref01_Ints_0 : ACode := .loop [0, 1, 5] [] bl_ref01_Ints_0
theorem L_ref01_Ints_0 {T : Table} (ks : List Kt) (e : Env) (h : Heap) (Q : Ex → Env → Heap → Prop) : Xc T l_ref01_Ints_0 ks e h Q = Xc T bl_ref01_Ints_0 (.seq l_ref01_Ints_0 :: ks) (e.keep [0, 1, 5]) h Q := Xc_loop ks _ e h Q _ _
def k_ref01_Ints : ACode := (.seq (.reg [⟨(some 4), .mv (.c (.bool false)) false, none⟩] [0, 1]) (.seq (.seq (.reg [⟨(some 6), .mv (.t 0) false, none⟩,
  ⟨(some 7), .len false (.t 6), none⟩,
  ⟨(some 8), .mv (.t 1) false, none⟩,
  ⟨(some 9), .len false (.t 8), none⟩,
  ⟨(some 10), .bin .neq .int (.t 7) (.t 9), none⟩] [0, 1, 10]) (.cond (.t 10)
 (.seq (.reg [⟨(some 4), .mv (.c (.bool false)) false, none⟩] [4]) .ret)
 .skip)) (.seq (.seq (.reg [⟨(some 5), .mv (.c (.int .i64 0)) false, none⟩] [0, 1, 5]) (.block 0 l_ref01_Ints_0)) (.seq (.reg [⟨(some 4), .mv (.c (.bool true)) false, none⟩] [4]) .ret))))
def c_ref01_Ints : AFunc := ⟨k_ref01_Ints, 26, [.t 4], [], [], []⟩
-- 28: wagtail/wagtailref01.High

def k_ref01_High : ACode := (.seq (.reg [⟨(some 4), .mv (.c (.int .i64 0)) false, none⟩] [0, 1]) (.seq (.seq (.reg [⟨(some 5), .mv (.t 0) false, none⟩,
  ⟨(some 6), .mv (.t 1) false, none⟩,
  ⟨(some 7), .bin .gtr .int (.t 5) (.t 6), none⟩] [0, 1, 7]) (.cond (.t 7)
 (.seq (.reg [⟨(some 8), .mv (.t 0) true, none⟩,
  ⟨(some 4), .mv (.t 8) true, none⟩] [4]) .ret)
 .skip)) (.seq (.reg [⟨(some 9), .mv (.t 1) true, none⟩,
  ⟨(some 4), .mv (.t 9) true, none⟩] [4]) .ret)))
def c_ref01_High : AFunc := ⟨k_ref01_High, 10, [.t 4], [], [], []⟩
-- 29: wagtail/wagtailref01.Low

def k_ref01_Low : ACode := (.seq (.reg [⟨(some 4), .mv (.c (.int .i64 0)) false, none⟩] [0, 1]) (.seq (.seq (.reg [⟨(some 5), .mv (.t 0) false, none⟩,
  ⟨(some 6), .mv (.t 1) false, none⟩,
  ⟨(some 7), .bin .lss .int (.t 5) (.t 6), none⟩] [0, 1, 7]) (.cond (.t 7)
 (.seq (.reg [⟨(some 8), .mv (.t 0) true, none⟩,
  ⟨(some 4), .mv (.t 8) true, none⟩] [4]) .ret)
 .skip)) (.seq (.reg [⟨(some 9), .mv (.t 1) true, none⟩,
  ⟨(some 4), .mv (.t 9) true, none⟩] [4]) .ret)))
def c_ref01_Low : AFunc := ⟨k_ref01_Low, 10, [.t 4], [], [], []⟩
-- 26: wagtail/wagtailref13.Has
def bl_ref13_Has_0 : ACode := (.seq (.seq (.reg [⟨(some 6), .mv (.t 5) false, none⟩,
  ⟨(some 7), .mv (.t 0) false, none⟩,
  ⟨(some 8), .len false (.t 7), none⟩,
  ⟨(some 9), .bin .lss .int (.t 6) (.t 8), none⟩] [0, 1, 5, 9]) (.cond (.t 9)
 .skip
 (.exit 0))) (.seq (.block 1 (.seq (.reg [⟨(some 12), .mv (.t 0) false, none⟩,
  ⟨(some 13), .mv (.t 5) false, none⟩,
  ⟨(some 14), .ia (.sl 1) (.t 12) (.t 13), none⟩,
  ⟨(some 15), .load 0 (.t 14), none⟩,
  ⟨(some 16), .mv (.t 1) false, none⟩,
  ⟨(some 17), .bin .eql .int (.t 15) (.t 16), none⟩] [0, 1, 5, 17]) (.cond (.t 17)
 (.seq (.reg [⟨(some 4), .mv (.c (.bool true)) false, none⟩] [4]) .ret)
 .skip))) (.reg [⟨(some 10), .mv (.t 5) true, none⟩,
  ⟨(some 11), .bin .add .int (.t 10) (.c (.int .i64 1)), none⟩,
  ⟨(some 5), .mv (.t 11) true, none⟩] [0, 1, 5])))
def l_ref13_Has_0 : ACode := .loop [0, 1, 5] [] bl_ref13_Has_0
theorem L_ref13_Has_0 {T : Table} (ks : List Kt) (e : Env) (h : Heap) (Q : Ex → Env → Heap → Prop) : Xc T l_ref13_Has_0 ks e h Q = Xc T bl_ref13_Has_0 (.seq l_ref13_Has_0 :: ks) (e.keep [0, 1, 5]) h Q := Xc_loop ks _ e h Q _ _
def k_ref13_Has : ACode := (.seq (.reg [⟨(some 4), .mv (.c (.bool false)) false, none⟩] [0, 1]) (.seq (.seq (.reg [⟨(some 5), .mv (.c (.int .i64 0)) false, none⟩] [0, 1, 5]) (.block 0 l_ref13_Has_0)) (.seq (.reg [⟨(some 4), .mv (.c (.bool false)) false, none⟩] [4]) .ret)))
def c_ref13_Has : AFunc := ⟨k_ref13_Has, 18, [.t 4], [], [], []⟩
-- 58: wagtail/wagtaillaw22.light

def k_law22_light : ACode := (.seq (.reg [⟨(some 4), .mv (.c (.bool false)) false, none⟩] [0, 1]) (.seq (.reg [⟨(some 5), .mv (.t 0) true, none⟩,
  ⟨(some 6), .len false (.t 5), none⟩,
  ⟨(some 7), .bin .leq .int (.t 6) (.c (.int .i64 40)), none⟩,
  ⟨(some 8), .mv (.t 7) true, none⟩,
  ⟨(some 9), .mv (.t 1) true, (some (8, true))⟩,
  ⟨(some 10), .len false (.t 9), (some (8, true))⟩,
  ⟨(some 11), .bin .leq .int (.t 10) (.c (.int .i64 100)), (some (8, true))⟩,
  ⟨(some 12), .pick (.t 8) (.t 11) (.c (.bool false)), none⟩,
  ⟨(some 4), .mv (.t 12) true, none⟩] [4]) .ret))
def c_law22_light : AFunc := ⟨k_law22_light, 13, [.t 4], [], [], []⟩
-- 85: slices.Clone[[]int,int]

def k_slices_Clone_int_int : ACode := (.seq (.reg [⟨(some 2), .mv (.c (.hn 1)) false, none⟩] [0]) (.nilc [⟨(some 3), .mv (.t 0) false, none⟩] (.t 3) 4 false [0]
 (.seq (.reg [⟨(some 2), .mv (.c (.hn 1)) false, none⟩] [2]) .ret)
 .skip
 (.seq (.reg [⟨(some 5), .bsl 1 [] true, none⟩,
  ⟨(some 6), .mv (.t 0) true, none⟩,
  ⟨(some 7), .apph 1 8 (.t 5) (.t 6), none⟩,
  ⟨(some 2), .mv (.t 7) true, none⟩] [2]) .ret)))
def c_slices_Clone_int_int : AFunc := ⟨k_slices_Clone_int_int, 8, [.t 2], [], [], []⟩
-- 84: wagtail/place.Count
def bl_place_Count_0 : ACode := (.seq (.reg [⟨(some 11), .bin .lss .int (.t 10) (.t 9), none⟩] [1, 5, 8, 9, 10, 11]) (.seq (.cond (.t 11)
 .skip
 (.exit 0)) (.seq (.block 1 (.seq (.reg [⟨(some 12), .ia (.sl 2) (.t 8) (.t 10), none⟩,
  ⟨(some 13), .load 2 (.t 12), none⟩,
  ⟨(some 7), .alloc [(.int .i64 0), (.int .i64 0)], none⟩,
  ⟨none, .store 2 (.t 7) (.t 13), none⟩] [1, 5, 7, 8, 9, 10]) (.seq (.reg [⟨(some 14), .fa 0 (.t 7), none⟩,
  ⟨(some 15), .load 0 (.t 14), none⟩,
  ⟨(some 16), .mv (.t 1) false, none⟩,
  ⟨(some 17), .bin .eql .int (.t 15) (.t 16), none⟩] [1, 5, 8, 9, 10, 17]) (.cond (.t 17)
 (.reg [⟨(some 18), .mv (.t 5) true, none⟩,
  ⟨(some 19), .bin .add .int (.t 18) (.c (.int .i64 1)), none⟩,
  ⟨(some 5), .mv (.t 19) true, none⟩] [1, 5, 8, 9, 10])
 .skip)))) (.reg [⟨(some 20), .bin .add .int (.t 10) (.c (.int .i64 1)), none⟩,
  ⟨(some 10), .mv (.t 20) true, none⟩] [1, 5, 8, 9, 10]))))
def l_place_Count_0 : ACode := .loop [1, 5, 8, 9, 10] [] bl_place_Count_0
theorem L_place_Count_0 {T : Table} (ks : List Kt) (e : Env) (h : Heap) (Q : Ex → Env → Heap → Prop) : Xc T l_place_Count_0 ks e h Q = Xc T bl_place_Count_0 (.seq l_place_Count_0 :: ks) (e.keep [1, 5, 8, 9, 10]) h Q := Xc_loop ks _ e h Q _ _
def k_place_Count : ACode := (.seq (.reg [⟨(some 4), .mv (.c (.int .i64 0)) false, none⟩] [0, 1]) (.seq (.reg [⟨(some 5), .mv (.c (.int .i64 0)) false, none⟩] [0, 1, 5]) (.seq (.seq (.reg [⟨(some 8), .mv (.t 0) true, none⟩,
  ⟨(some 9), .len false (.t 8), none⟩,
  ⟨(some 10), .mv (.c (.int .i64 0)) false, none⟩] [1, 5, 8, 9, 10]) (.block 0 l_place_Count_0)) (.seq (.reg [⟨(some 21), .mv (.t 5) true, none⟩,
  ⟨(some 4), .mv (.t 21) true, none⟩] [4]) .ret))))
def c_place_Count : AFunc := ⟨k_place_Count, 22, [.t 4], [], [], []⟩
-- 86: wagtail/victim.Order$1

def k_victim_Order_1 : ACode := (.seq (.reg [⟨(some 3), .mv (.c (.int .i64 0)) false, none⟩] [0, 1]) (.seq (.reg [⟨(some 4), .load 0 (.t 1), none⟩,
  ⟨(some 5), .mv (.t 0) true, none⟩,
  ⟨(some 6), .callp f_place_Count [(.t 4), (.t 5)] [(0, true)], none⟩,
  ⟨(some 3), .mv (.t 6) true, none⟩] [3]) .ret))
def c_victim_Order_1 : AFunc := ⟨k_victim_Order_1, 7, [.t 3], [], [], []⟩
-- 97: cmp.isNaN[int]

def k_cmp_isNaN_int : ACode := (.seq (.reg [⟨(some 2), .mv (.c (.bool false)) false, none⟩] [0]) (.seq (.reg [⟨(some 3), .mv (.t 0) false, none⟩,
  ⟨(some 4), .mv (.t 0) true, none⟩,
  ⟨(some 5), .bin .neq .int (.t 3) (.t 4), none⟩,
  ⟨(some 2), .mv (.t 5) true, none⟩] [2]) .ret))
def c_cmp_isNaN_int : AFunc := ⟨k_cmp_isNaN_int, 6, [.t 2], [], [], []⟩
-- 90: cmp.Compare[int]

def k_cmp_Compare_int : ACode := (.seq (.reg [⟨(some 4), .mv (.c (.int .i64 0)) false, none⟩] [0, 1]) (.seq (.reg [⟨(some 7), .mv (.t 0) false, none⟩,
  ⟨(some 8), .callp f_cmp_isNaN_int [(.t 7)] [], none⟩,
  ⟨(some 5), .mv (.t 8) true, none⟩] [0, 1, 5]) (.seq (.reg [⟨(some 9), .mv (.t 1) false, none⟩,
  ⟨(some 10), .callp f_cmp_isNaN_int [(.t 9)] [], none⟩,
  ⟨(some 6), .mv (.t 10) true, none⟩] [0, 1, 5, 6]) (.seq (.seq (.reg [⟨(some 11), .mv (.t 5) true, none⟩] [0, 1, 6, 11]) (.cond (.t 11)
 (.seq (.seq (.reg [⟨(some 12), .mv (.t 6) true, none⟩] [12]) (.cond (.t 12)
 (.seq (.reg [⟨(some 4), .mv (.c (.int .i64 0)) false, none⟩] [4]) .ret)
 .skip)) (.seq (.reg [⟨(some 4), .mv (.c (.int .i64 (-1))) false, none⟩] [4]) .ret))
 .skip)) (.seq (.seq (.reg [⟨(some 13), .mv (.t 6) true, none⟩] [0, 1, 13]) (.cond (.t 13)
 (.seq (.reg [⟨(some 4), .mv (.c (.int .i64 1)) false, none⟩] [4]) .ret)
 .skip)) (.seq (.seq (.reg [⟨(some 14), .mv (.t 0) false, none⟩,
  ⟨(some 15), .mv (.t 1) false, none⟩,
  ⟨(some 16), .bin .lss .int (.t 14) (.t 15), none⟩] [0, 1, 16]) (.cond (.t 16)
 (.seq (.reg [⟨(some 4), .mv (.c (.int .i64 (-1))) false, none⟩] [4]) .ret)
 .skip)) (.seq (.seq (.reg [⟨(some 17), .mv (.t 0) true, none⟩,
  ⟨(some 18), .mv (.t 1) true, none⟩,
  ⟨(some 19), .bin .gtr .int (.t 17) (.t 18), none⟩] [19]) (.cond (.t 19)
 (.seq (.reg [⟨(some 4), .mv (.c (.int .i64 1)) false, none⟩] [4]) .ret)
 .skip)) (.seq (.reg [⟨(some 4), .mv (.c (.int .i64 0)) false, none⟩] [4]) .ret))))))))
def c_cmp_Compare_int : AFunc := ⟨k_cmp_Compare_int, 20, [.t 4], [], [], []⟩
-- 89: cmp.Or[int]
def bl_cmp_Or_int_0 : ACode := (.seq (.reg [⟨(some 9), .bin .lss .int (.t 8) (.t 7), none⟩] [3, 6, 7, 8, 9]) (.seq (.cond (.t 9)
 .skip
 (.exit 0)) (.seq (.block 1 (.seq (.reg [⟨(some 10), .ia (.sl 1) (.t 6) (.t 8), none⟩,
  ⟨(some 11), .load 0 (.t 10), none⟩,
  ⟨(some 5), .mv (.t 11) true, none⟩] [3, 5, 6, 7, 8]) (.seq (.reg [⟨(some 12), .mv (.t 5) false, none⟩,
  ⟨(some 13), .mv (.t 3) false, none⟩,
  ⟨(some 14), .bin .neq .int (.t 12) (.t 13), none⟩] [3, 5, 6, 7, 8, 14]) (.cond (.t 14)
 (.seq (.reg [⟨(some 15), .mv (.t 5) true, none⟩,
  ⟨(some 2), .mv (.t 15) true, none⟩] [2]) .ret)
 .skip)))) (.reg [⟨(some 16), .bin .add .int (.t 8) (.c (.int .i64 1)), none⟩,
  ⟨(some 8), .mv (.t 16) true, none⟩] [3, 6, 7, 8]))))
def l_cmp_Or_int_0 : ACode := .loop [3, 6, 7, 8] [] bl_cmp_Or_int_0
theorem L_cmp_Or_int_0 {T : Table} (ks : List Kt) (e : Env) (h : Heap) (Q : Ex → Env → Heap → Prop) : Xc T l_cmp_Or_int_0 ks e h Q = Xc T bl_cmp_Or_int_0 (.seq l_cmp_Or_int_0 :: ks) (e.keep [3, 6, 7, 8]) h Q := Xc_loop ks _ e h Q _ _
def k_cmp_Or_int : ACode := (.seq (.reg [⟨(some 2), .mv (.c (.int .i64 0)) false, none⟩] [0]) (.seq (.reg [⟨(some 3), .mv (.c (.int .i64 0)) false, none⟩] [0, 3]) (.seq (.seq (.reg [⟨(some 6), .mv (.t 0) true, none⟩,
  ⟨(some 7), .len false (.t 6), none⟩,
  ⟨(some 8), .mv (.c (.int .i64 0)) false, none⟩] [3, 6, 7, 8]) (.block 0 l_cmp_Or_int_0)) (.seq (.reg [⟨(some 17), .mv (.t 3) true, none⟩,
  ⟨(some 2), .mv (.t 17) true, none⟩] [2]) .ret))))
def c_cmp_Or_int : AFunc := ⟨k_cmp_Or_int, 18, [.t 2], [], [], []⟩
-- 88: wagtail/victim.Order$2

def k_victim_Order_2 : ACode := (.seq (.reg [⟨(some 5), .mv (.c (.int .i64 0)) false, none⟩] [0, 1, 2]) (.seq (.regd [⟨(some 6), .load 0 (.t 2), none⟩,
  ⟨(some 7), .mv (.t 0) false, none⟩,
  ⟨(some 8), .callv (.t 6) [(.t 7)], none⟩,
  ⟨(some 9), .load 0 (.t 2), none⟩,
  ⟨(some 10), .mv (.t 1) false, none⟩,
  ⟨(some 11), .callv (.t 9) [(.t 10)], none⟩,
  ⟨(some 12), .callp f_cmp_Compare_int [(.t 8), (.t 11)] [], none⟩,
  ⟨(some 13), .mv (.t 0) false, none⟩,
  ⟨(some 14), .mv (.t 1) false, none⟩,
  ⟨(some 15), .callp f_cmp_Compare_int [(.t 13), (.t 14)] [], none⟩,
  ⟨(some 16), .bsl 1 [(.t 12), (.t 15)] false, none⟩,
  ⟨(some 17), .callp f_cmp_Or_int [(.t 16)] [(0, false)], none⟩,
  ⟨(some 5), .mv (.t 17) false, none⟩] [5] [] [(3, 0, 5)]) .ret))
def c_victim_Order_2 : AFunc := ⟨k_victim_Order_2, 18, [.t 5], [], [], []⟩
-- 107: math/bits.Len32

def k_math_bits_Len32 : ACode := (.seq (.reg [⟨(some 2), .mv (.c (.int .i64 0)) false, none⟩] [0, 2]) (.seq (.seq (.reg [⟨(some 3), .mv (.t 0) false, none⟩,
  ⟨(some 4), .bin .geq .int (.t 3) (.c (.int .u32 65536)), none⟩] [0, 2, 4]) (.cond (.t 4)
 (.seq (.reg [⟨(some 5), .mv (.t 0) true, none⟩,
  ⟨(some 6), .bin .shr .int (.t 5) (.c (.int .u64 16)), none⟩,
  ⟨(some 0), .mv (.t 6) true, none⟩] [0]) (.reg [⟨(some 2), .mv (.c (.int .i64 16)) false, none⟩] [0, 2]))
 .skip)) (.seq (.seq (.reg [⟨(some 7), .mv (.t 0) false, none⟩,
  ⟨(some 8), .bin .geq .int (.t 7) (.c (.int .u32 256)), none⟩] [0, 2, 8]) (.cond (.t 8)
 (.seq (.reg [⟨(some 9), .mv (.t 0) true, none⟩,
  ⟨(some 10), .bin .shr .int (.t 9) (.c (.int .u64 8)), none⟩,
  ⟨(some 0), .mv (.t 10) true, none⟩] [0, 2]) (.reg [⟨(some 11), .mv (.t 2) true, none⟩,
  ⟨(some 12), .bin .add .int (.t 11) (.c (.int .i64 8)), none⟩,
  ⟨(some 2), .mv (.t 12) true, none⟩] [0, 2]))
 .skip)) (.seq (.reg [⟨(some 13), .mv (.t 2) true, none⟩,
  ⟨(some 14), .mv (.t 0) true, none⟩,
  ⟨(some 15), .conv (.i .u8) (.t 14), none⟩,
  ⟨(some 16), .idx .str 0 (.c (.str [0, 1, 2, 2, 3, 3, 3, 3, 4, 4, 4, 4, 4, 4, 4, 4, 5, 5, 5, 5, 5, 5, 5, 5, 5, 5, 5, 5, 5, 5, 5, 5, 6, 6, 6, 6, 6, 6, 6, 6, 6, 6, 6, 6, 6, 6, 6, 6, 6, 6, 6, 6, 6, 6, 6, 6, 6, 6, 6, 6, 6, 6, 6, 6, 7, 7, 7, 7, 7, 7, 7, 7, 7, 7, 7, 7, 7, 7, 7, 7, 7, 7, 7, 7, 7, 7, 7, 7, 7, 7, 7, 7, 7, 7, 7, 7, 7, 7, 7, 7, 7, 7, 7, 7, 7, 7, 7, 7, 7, 7, 7, 7, 7, 7, 7, 7, 7, 7, 7, 7, 7, 7, 7, 7, 7, 7, 7, 7, 8, 8, 8, 8, 8, 8, 8, 8, 8, 8, 8, 8, 8, 8, 8, 8, 8, 8, 8, 8, 8, 8, 8, 8, 8, 8, 8, 8, 8, 8, 8, 8, 8, 8, 8, 8, 8, 8, 8, 8, 8, 8, 8, 8, 8, 8, 8, 8, 8, 8, 8, 8, 8, 8, 8, 8, 8, 8, 8, 8, 8, 8, 8, 8, 8, 8, 8, 8, 8, 8, 8, 8, 8, 8, 8, 8, 8, 8, 8, 8, 8, 8, 8, 8, 8, 8, 8, 8, 8, 8, 8, 8, 8, 8, 8, 8, 8, 8, 8, 8, 8, 8, 8, 8, 8, 8, 8, 8, 8, 8, 8, 8, 8, 8, 8, 8, 8, 8, 8, 8, 8, 8, 8, 8, 8, 8, 8, 8])) (.t 15), none⟩,
  ⟨(some 17), .conv (.i .i64) (.t 16), none⟩,
  ⟨(some 18), .bin .add .int (.t 13) (.t 17), none⟩,
  ⟨(some 2), .mv (.t 18) true, none⟩] [2]) .ret))))
def c_math_bits_Len32 : AFunc := ⟨k_math_bits_Len32, 19, [.t 2], [], [], []⟩
-- 108: math/bits.Len64

def k_math_bits_Len64 : ACode := (.seq (.reg [⟨(some 2), .mv (.c (.int .i64 0)) false, none⟩] [0, 2]) (.seq (.seq (.reg [⟨(some 3), .mv (.t 0) false, none⟩,
  ⟨(some 4), .bin .geq .int (.t 3) (.c (.int .u64 4294967296)), none⟩] [0, 2, 4]) (.cond (.t 4)
 (.seq (.reg [⟨(some 5), .mv (.t 0) true, none⟩,
  ⟨(some 6), .bin .shr .int (.t 5) (.c (.int .u64 32)), none⟩,
  ⟨(some 0), .mv (.t 6) true, none⟩] [0]) (.reg [⟨(some 2), .mv (.c (.int .i64 32)) false, none⟩] [0, 2]))
 .skip)) (.seq (.seq (.reg [⟨(some 7), .mv (.t 0) false, none⟩,
  ⟨(some 8), .bin .geq .int (.t 7) (.c (.int .u64 65536)), none⟩] [0, 2, 8]) (.cond (.t 8)
 (.seq (.reg [⟨(some 9), .mv (.t 0) true, none⟩,
  ⟨(some 10), .bin .shr .int (.t 9) (.c (.int .u64 16)), none⟩,
  ⟨(some 0), .mv (.t 10) true, none⟩] [0, 2]) (.reg [⟨(some 11), .mv (.t 2) true, none⟩,
  ⟨(some 12), .bin .add .int (.t 11) (.c (.int .i64 16)), none⟩,
  ⟨(some 2), .mv (.t 12) true, none⟩] [0, 2]))
 .skip)) (.seq (.seq (.reg [⟨(some 13), .mv (.t 0) false, none⟩,
  ⟨(some 14), .bin .geq .int (.t 13) (.c (.int .u64 256)), none⟩] [0, 2, 14]) (.cond (.t 14)
 (.seq (.reg [⟨(some 15), .mv (.t 0) true, none⟩,
  ⟨(some 16), .bin .shr .int (.t 15) (.c (.int .u64 8)), none⟩,
  ⟨(some 0), .mv (.t 16) true, none⟩] [0, 2]) (.reg [⟨(some 17), .mv (.t 2) true, none⟩,
  ⟨(some 18), .bin .add .int (.t 17) (.c (.int .i64 8)), none⟩,
  ⟨(some 2), .mv (.t 18) true, none⟩] [0, 2]))
 .skip)) (.seq (.reg [⟨(some 19), .mv (.t 2) true, none⟩,
  ⟨(some 20), .mv (.t 0) true, none⟩,
  ⟨(some 21), .conv (.i .u8) (.t 20), none⟩,
  ⟨(some 22), .idx .str 0 (.c (.str [0, 1, 2, 2, 3, 3, 3, 3, 4, 4, 4, 4, 4, 4, 4, 4, 5, 5, 5, 5, 5, 5, 5, 5, 5, 5, 5, 5, 5, 5, 5, 5, 6, 6, 6, 6, 6, 6, 6, 6, 6, 6, 6, 6, 6, 6, 6, 6, 6, 6, 6, 6, 6, 6, 6, 6, 6, 6, 6, 6, 6, 6, 6, 6, 7, 7, 7, 7, 7, 7, 7, 7, 7, 7, 7, 7, 7, 7, 7, 7, 7, 7, 7, 7, 7, 7, 7, 7, 7, 7, 7, 7, 7, 7, 7, 7, 7, 7, 7, 7, 7, 7, 7, 7, 7, 7, 7, 7, 7, 7, 7, 7, 7, 7, 7, 7, 7, 7, 7, 7, 7, 7, 7, 7, 7, 7, 7, 7, 8, 8, 8, 8, 8, 8, 8, 8, 8, 8, 8, 8, 8, 8, 8, 8, 8, 8, 8, 8, 8, 8, 8, 8, 8, 8, 8, 8, 8, 8, 8, 8, 8, 8, 8, 8, 8, 8, 8, 8, 8, 8, 8, 8, 8, 8, 8, 8, 8, 8, 8, 8, 8, 8, 8, 8, 8, 8, 8, 8, 8, 8, 8, 8, 8, 8, 8, 8, 8, 8, 8, 8, 8, 8, 8, 8, 8, 8, 8, 8, 8, 8, 8, 8, 8, 8, 8, 8, 8, 8, 8, 8, 8, 8, 8, 8, 8, 8, 8, 8, 8, 8, 8, 8, 8, 8, 8, 8, 8, 8, 8, 8, 8, 8, 8, 8, 8, 8, 8, 8, 8, 8, 8, 8, 8, 8, 8, 8])) (.t 21), none⟩,
  ⟨(some 23), .conv (.i .i64) (.t 22), none⟩,
  ⟨(some 24), .bin .add .int (.t 19) (.t 23), none⟩,
  ⟨(some 2), .mv (.t 24) true, none⟩] [2]) .ret)))))
def c_math_bits_Len64 : AFunc := ⟨k_math_bits_Len64, 25, [.t 2], [], [], []⟩
-- 96: math/bits.Len

def k_math_bits_Len : ACode := (.seq (.reg [⟨(some 2), .mv (.c (.int .i64 0)) false, none⟩] [0]) (.seq (.cond (.c (.bool false))
 (.seq (.reg [⟨(some 3), .mv (.t 0) true, none⟩,
  ⟨(some 4), .conv (.i .u32) (.t 3), none⟩,
  ⟨(some 5), .callp f_math_bits_Len32 [(.t 4)] [], none⟩,
  ⟨(some 2), .mv (.t 5) true, none⟩] [2]) .ret)
 .skip) (.seq (.reg [⟨(some 6), .mv (.t 0) true, none⟩,
  ⟨(some 7), .callp f_math_bits_Len64 [(.t 6)] [], none⟩,
  ⟨(some 2), .mv (.t 7) true, none⟩] [2]) .ret)))
def c_math_bits_Len : AFunc := ⟨k_math_bits_Len, 8, [.t 2], [], [], []⟩
-- 99: slices.insertionSortCmpFunc[int]
def bl_slices_insertionSortCmpFunc_int_0 : ACode := (.seq (.seq (.regd [⟨(some 18), .mv (.t 9) false, none⟩,
  ⟨(some 19), .mv (.t 1) false, none⟩,
  ⟨(some 20), .bin .gtr .int (.t 18) (.t 19), none⟩,
  ⟨(some 21), .mv (.t 20) false, none⟩,
  ⟨(some 22), .mv (.t 3) false, (some (21, true))⟩,
  ⟨(some 23), .mv (.t 0) false, (some (21, true))⟩,
  ⟨(some 24), .mv (.t 9) false, (some (21, true))⟩,
  ⟨(some 25), .ia (.sl 1) (.t 23) (.t 24), (some (21, true))⟩,
  ⟨(some 26), .load 0 (.t 25), (some (21, true))⟩,
  ⟨(some 27), .mv (.t 0) false, (some (21, true))⟩,
  ⟨(some 28), .mv (.t 9) false, (some (21, true))⟩,
  ⟨(some 29), .bin .sub .int (.t 28) (.c (.int .i64 1)), (some (21, true))⟩,
  ⟨(some 30), .ia (.sl 1) (.t 27) (.t 29), (some (21, true))⟩,
  ⟨(some 31), .load 0 (.t 30), (some (21, true))⟩,
  ⟨(some 32), .callv (.t 22) [(.t 26), (.t 31)], (some (21, true))⟩,
  ⟨(some 33), .bin .lss .int (.t 32) (.c (.int .i64 0)), (some (21, true))⟩,
  ⟨(some 34), .pick (.t 21) (.t 33) (.c (.bool false)), none⟩] [0, 1, 2, 3, 8, 9, 34] [] []) (.cond (.t 34)
 .skip
 (.exit 2))) (.seq (.block 3 (.regd [⟨(some 37), .mv (.t 0) false, none⟩,
  ⟨(some 38), .mv (.t 9) false, none⟩,
  ⟨(some 39), .mv (.t 0) false, none⟩,
  ⟨(some 40), .mv (.t 9) false, none⟩,
  ⟨(some 41), .bin .sub .int (.t 40) (.c (.int .i64 1)), none⟩,
  ⟨(some 42), .mv (.t 0) false, none⟩,
  ⟨(some 43), .mv (.t 9) false, none⟩,
  ⟨(some 44), .bin .sub .int (.t 43) (.c (.int .i64 1)), none⟩,
  ⟨(some 45), .ia (.sl 1) (.t 42) (.t 44), none⟩,
  ⟨(some 46), .load 0 (.t 45), none⟩,
  ⟨(some 47), .mv (.t 0) false, none⟩,
  ⟨(some 48), .mv (.t 9) false, none⟩,
  ⟨(some 49), .ia (.sl 1) (.t 47) (.t 48), none⟩,
  ⟨(some 50), .load 0 (.t 49), none⟩,
  ⟨(some 51), .ia (.sl 1) (.t 37) (.t 38), none⟩,
  ⟨none, .store 1 (.t 51) (.t 46), none⟩,
  ⟨(some 52), .ia (.sl 1) (.t 39) (.t 41), none⟩,
  ⟨none, .store 1 (.t 52) (.t 50), none⟩] [0, 1, 2, 3, 8, 9] [] [])) (.reg [⟨(some 35), .mv (.t 9) true, none⟩,
  ⟨(some 36), .bin .sub .int (.t 35) (.c (.int .i64 1)), none⟩,
  ⟨(some 9), .mv (.t 36) true, none⟩] [0, 1, 2, 3, 8, 9])))
def l_slices_insertionSortCmpFunc_int_0 : ACode := .loop [0, 1, 2, 3, 8, 9] [] bl_slices_insertionSortCmpFunc_int_0
theorem L_slices_insertionSortCmpFunc_int_0 {T : Table} (ks : List Kt) (e : Env) (h : Heap) (Q : Ex → Env → Heap → Prop) : Xc T l_slices_insertionSortCmpFunc_int_0 ks e h Q = Xc T bl_slices_insertionSortCmpFunc_int_0 (.seq l_slices_insertionSortCmpFunc_int_0 :: ks) (e.keep [0, 1, 2, 3, 8, 9]) h Q := Xc_loop ks _ e h Q _ _
def bl_slices_insertionSortCmpFunc_int_1 : ACode := (.seq (.seq (.reg [⟨(some 12), .mv (.t 8) false, none⟩,
  ⟨(some 13), .mv (.t 2) false, none⟩,
  ⟨(some 14), .bin .lss .int (.t 12) (.t 13), none⟩] [0, 1, 2, 3, 8, 14]) (.cond (.t 14)
 .skip
 (.exit 0))) (.seq (.block 1 (.seq (.reg [⟨(some 17), .mv (.t 8) false, none⟩,
  ⟨(some 9), .mv (.t 17) true, none⟩] [0, 1, 2, 3, 8, 9]) (.block 2 l_slices_insertionSortCmpFunc_int_0))) (.reg [⟨(some 15), .mv (.t 8) true, none⟩,
  ⟨(some 16), .bin .add .int (.t 15) (.c (.int .i64 1)), none⟩,
  ⟨(some 8), .mv (.t 16) true, none⟩] [0, 1, 2, 3, 8])))
def l_slices_insertionSortCmpFunc_int_1 : ACode := .loop [0, 1, 2, 3, 8] [] bl_slices_insertionSortCmpFunc_int_1
theorem L_slices_insertionSortCmpFunc_int_1 {T : Table} (ks : List Kt) (e : Env) (h : Heap) (Q : Ex → Env → Heap → Prop) : Xc T l_slices_insertionSortCmpFunc_int_1 ks e h Q = Xc T bl_slices_insertionSortCmpFunc_int_1 (.seq l_slices_insertionSortCmpFunc_int_1 :: ks) (e.keep [0, 1, 2, 3, 8]) h Q := Xc_loop ks _ e h Q _ _
def k_slices_insertionSortCmpFunc_int : ACode := (.seq (.reg [⟨(some 10), .mv (.t 1) false, none⟩,
  ⟨(some 11), .bin .add .int (.t 10) (.c (.int .i64 1)), none⟩,
  ⟨(some 8), .mv (.t 11) true, none⟩] [0, 1, 2, 3, 8]) (.block 0 l_slices_insertionSortCmpFunc_int_1))
def c_slices_insertionSortCmpFunc_int : AFunc := ⟨k_slices_insertionSortCmpFunc_int, 53, [], [], [], []⟩
-- 110: slices.siftDownCmpFunc[int]
def bl_slices_siftDownCmpFunc_int_0 : ACode := (.block 1 (.seq (.reg [⟨(some 13), .mv (.t 10) false, none⟩,
  ⟨(some 14), .bin .mul .int (.c (.int .i64 2)) (.t 13), none⟩,
  ⟨(some 15), .bin .add .int (.t 14) (.c (.int .i64 1)), none⟩,
  ⟨(some 11), .mv (.t 15) true, none⟩] [0, 2, 3, 4, 10, 11]) (.seq (.seq (.reg [⟨(some 16), .mv (.t 11) false, none⟩,
  ⟨(some 17), .mv (.t 2) false, none⟩,
  ⟨(some 18), .bin .geq .int (.t 16) (.t 17), none⟩] [0, 2, 3, 4, 10, 11, 18]) (.cond (.t 18)
 (.exit 0)
 .skip)) (.seq (.seq (.regd [⟨(some 19), .mv (.t 11) false, none⟩,
  ⟨(some 20), .bin .add .int (.t 19) (.c (.int .i64 1)), none⟩,
  ⟨(some 21), .mv (.t 2) false, none⟩,
  ⟨(some 22), .bin .lss .int (.t 20) (.t 21), none⟩,
  ⟨(some 23), .mv (.t 22) false, none⟩,
  ⟨(some 24), .mv (.t 4) false, (some (23, true))⟩,
  ⟨(some 25), .mv (.t 0) false, (some (23, true))⟩,
  ⟨(some 26), .mv (.t 3) false, (some (23, true))⟩,
  ⟨(some 27), .mv (.t 11) false, (some (23, true))⟩,
  ⟨(some 28), .bin .add .int (.t 26) (.t 27), (some (23, true))⟩,
  ⟨(some 29), .ia (.sl 1) (.t 25) (.t 28), (some (23, true))⟩,
  ⟨(some 30), .load 0 (.t 29), (some (23, true))⟩,
  ⟨(some 31), .mv (.t 0) false, (some (23, true))⟩,
  ⟨(some 32), .mv (.t 3) false, (some (23, true))⟩,
  ⟨(some 33), .mv (.t 11) false, (some (23, true))⟩,
  ⟨(some 34), .bin .add .int (.t 32) (.t 33), (some (23, true))⟩,
  ⟨(some 35), .bin .add .int (.t 34) (.c (.int .i64 1)), (some (23, true))⟩,
  ⟨(some 36), .ia (.sl 1) (.t 31) (.t 35), (some (23, true))⟩,
  ⟨(some 37), .load 0 (.t 36), (some (23, true))⟩,
  ⟨(some 38), .callv (.t 24) [(.t 30), (.t 37)], (some (23, true))⟩,
  ⟨(some 39), .bin .lss .int (.t 38) (.c (.int .i64 0)), (some (23, true))⟩,
  ⟨(some 40), .pick (.t 23) (.t 39) (.c (.bool false)), none⟩] [0, 2, 3, 4, 10, 11, 40] [] []) (.cond (.t 40)
 (.reg [⟨(some 41), .mv (.t 11) true, none⟩,
  ⟨(some 42), .bin .add .int (.t 41) (.c (.int .i64 1)), none⟩,
  ⟨(some 11), .mv (.t 42) true, none⟩] [0, 2, 3, 4, 10, 11])
 .skip)) (.seq (.seq (.regd [⟨(some 43), .mv (.t 4) false, none⟩,
  ⟨(some 44), .mv (.t 0) false, none⟩,
  ⟨(some 45), .mv (.t 3) false, none⟩,
  ⟨(some 46), .mv (.t 10) false, none⟩,
  ⟨(some 47), .bin .add .int (.t 45) (.t 46), none⟩,
  ⟨(some 48), .ia (.sl 1) (.t 44) (.t 47), none⟩,
  ⟨(some 49), .load 0 (.t 48), none⟩,
  ⟨(some 50), .mv (.t 0) false, none⟩,
  ⟨(some 51), .mv (.t 3) false, none⟩,
  ⟨(some 52), .mv (.t 11) false, none⟩,
  ⟨(some 53), .bin .add .int (.t 51) (.t 52), none⟩,
  ⟨(some 54), .ia (.sl 1) (.t 50) (.t 53), none⟩,
  ⟨(some 55), .load 0 (.t 54), none⟩,
  ⟨(some 56), .callv (.t 43) [(.t 49), (.t 55)], none⟩,
  ⟨(some 57), .bin .lss .int (.t 56) (.c (.int .i64 0)), none⟩,
  ⟨(some 58), .un .not (.t 57), none⟩] [0, 2, 3, 4, 10, 11, 58] [] []) (.cond (.t 58)
 .ret
 .skip)) (.seq (.regd [⟨(some 59), .mv (.t 0) false, none⟩,
  ⟨(some 60), .mv (.t 3) false, none⟩,
  ⟨(some 61), .mv (.t 10) false, none⟩,
  ⟨(some 62), .bin .add .int (.t 60) (.t 61), none⟩,
  ⟨(some 63), .mv (.t 0) false, none⟩,
  ⟨(some 64), .mv (.t 3) false, none⟩,
  ⟨(some 65), .mv (.t 11) false, none⟩,
  ⟨(some 66), .bin .add .int (.t 64) (.t 65), none⟩,
  ⟨(some 67), .mv (.t 0) false, none⟩,
  ⟨(some 68), .mv (.t 3) false, none⟩,
  ⟨(some 69), .mv (.t 11) false, none⟩,
  ⟨(some 70), .bin .add .int (.t 68) (.t 69), none⟩,
  ⟨(some 71), .ia (.sl 1) (.t 67) (.t 70), none⟩,
  ⟨(some 72), .load 0 (.t 71), none⟩,
  ⟨(some 73), .mv (.t 0) false, none⟩,
  ⟨(some 74), .mv (.t 3) false, none⟩,
  ⟨(some 75), .mv (.t 10) false, none⟩,
  ⟨(some 76), .bin .add .int (.t 74) (.t 75), none⟩,
  ⟨(some 77), .ia (.sl 1) (.t 73) (.t 76), none⟩,
  ⟨(some 78), .load 0 (.t 77), none⟩,
  ⟨(some 79), .ia (.sl 1) (.t 59) (.t 62), none⟩,
  ⟨none, .store 1 (.t 79) (.t 72), none⟩,
  ⟨(some 80), .ia (.sl 1) (.t 63) (.t 66), none⟩,
  ⟨none, .store 1 (.t 80) (.t 78), none⟩] [0, 2, 3, 4, 11] [] []) (.reg [⟨(some 81), .mv (.t 11) true, none⟩,
  ⟨(some 10), .mv (.t 81) true, none⟩] [0, 2, 3, 4, 10])))))))
def l_slices_siftDownCmpFunc_int_0 : ACode := .loop [0, 2, 3, 4, 10] [] bl_slices_siftDownCmpFunc_int_0
theorem L_slices_siftDownCmpFunc_int_0 {T : Table} (ks : List Kt) (e : Env) (h : Heap) (Q : Ex → Env → Heap → Prop) : Xc T l_slices_siftDownCmpFunc_int_0 ks e h Q = Xc T bl_slices_siftDownCmpFunc_int_0 (.seq l_slices_siftDownCmpFunc_int_0 :: ks) (e.keep [0, 2, 3, 4, 10]) h Q := Xc_loop ks _ e h Q _ _
def k_slices_siftDownCmpFunc_int : ACode := (.seq (.reg [⟨(some 12), .mv (.t 1) true, none⟩,
  ⟨(some 10), .mv (.t 12) true, none⟩] [0, 2, 3, 4, 10]) (.block 0 l_slices_siftDownCmpFunc_int_0))
def c_slices_siftDownCmpFunc_int : AFunc := ⟨k_slices_siftDownCmpFunc_int, 82, [], [], [], []⟩
-- 100: slices.heapSortCmpFunc[int]
def bl_slices_heapSortCmpFunc_int_0 : ACode := (.seq (.seq (.reg [⟨(some 20), .mv (.t 11) false, none⟩,
  ⟨(some 21), .bin .geq .int (.t 20) (.c (.int .i64 0)), none⟩] [0, 3, 8, 9, 10, 11, 21]) (.cond (.t 21)
 .skip
 (.exit 0))) (.seq (.block 1 (.reg [⟨(some 24), .mv (.t 0) false, none⟩,
  ⟨(some 25), .mv (.t 11) false, none⟩,
  ⟨(some 26), .mv (.t 10) false, none⟩,
  ⟨(some 27), .mv (.t 8) false, none⟩,
  ⟨(some 28), .mv (.t 3) false, none⟩,
  ⟨(some 29), .callh f_slices_siftDownCmpFunc_int [(.t 24), (.t 25), (.t 26), (.t 27), (.t 28)], none⟩] [0, 3, 8, 9, 10, 11])) (.reg [⟨(some 22), .mv (.t 11) true, none⟩,
  ⟨(some 23), .bin .sub .int (.t 22) (.c (.int .i64 1)), none⟩,
  ⟨(some 11), .mv (.t 23) true, none⟩] [0, 3, 8, 9, 10, 11])))
def l_slices_heapSortCmpFunc_int_0 : ACode := .loop [0, 3, 8, 9, 10, 11] [] bl_slices_heapSortCmpFunc_int_0
theorem L_slices_heapSortCmpFunc_int_0 {T : Table} (ks : List Kt) (e : Env) (h : Heap) (Q : Ex → Env → Heap → Prop) : Xc T l_slices_heapSortCmpFunc_int_0 ks e h Q = Xc T bl_slices_heapSortCmpFunc_int_0 (.seq l_slices_heapSortCmpFunc_int_0 :: ks) (e.keep [0, 3, 8, 9, 10, 11]) h Q := Xc_loop ks _ e h Q _ _
def bl_slices_heapSortCmpFunc_int_1 : ACode := (.seq (.seq (.reg [⟨(some 32), .mv (.t 12) false, none⟩,
  ⟨(some 33), .bin .geq .int (.t 32) (.c (.int .i64 0)), none⟩] [0, 3, 8, 9, 12, 33]) (.cond (.t 33)
 .skip
 (.exit 2))) (.seq (.block 3 (.seq (.regd [⟨(some 36), .mv (.t 0) false, none⟩,
  ⟨(some 37), .mv (.t 8) false, none⟩,
  ⟨(some 38), .mv (.t 0) false, none⟩,
  ⟨(some 39), .mv (.t 8) false, none⟩,
  ⟨(some 40), .mv (.t 12) false, none⟩,
  ⟨(some 41), .bin .add .int (.t 39) (.t 40), none⟩,
  ⟨(some 42), .mv (.t 0) false, none⟩,
  ⟨(some 43), .mv (.t 8) false, none⟩,
  ⟨(some 44), .mv (.t 12) false, none⟩,
  ⟨(some 45), .bin .add .int (.t 43) (.t 44), none⟩,
  ⟨(some 46), .ia (.sl 1) (.t 42) (.t 45), none⟩,
  ⟨(some 47), .load 0 (.t 46), none⟩,
  ⟨(some 48), .mv (.t 0) false, none⟩,
  ⟨(some 49), .mv (.t 8) false, none⟩,
  ⟨(some 50), .ia (.sl 1) (.t 48) (.t 49), none⟩,
  ⟨(some 51), .load 0 (.t 50), none⟩,
  ⟨(some 52), .ia (.sl 1) (.t 36) (.t 37), none⟩,
  ⟨none, .store 1 (.t 52) (.t 47), none⟩,
  ⟨(some 53), .ia (.sl 1) (.t 38) (.t 41), none⟩,
  ⟨none, .store 1 (.t 53) (.t 51), none⟩] [0, 3, 8, 9, 12] [] []) (.reg [⟨(some 54), .mv (.t 0) false, none⟩,
  ⟨(some 55), .mv (.t 9) false, none⟩,
  ⟨(some 56), .mv (.t 12) false, none⟩,
  ⟨(some 57), .mv (.t 8) false, none⟩,
  ⟨(some 58), .mv (.t 3) false, none⟩,
  ⟨(some 59), .callh f_slices_siftDownCmpFunc_int [(.t 54), (.t 55), (.t 56), (.t 57), (.t 58)], none⟩] [0, 3, 8, 9, 12]))) (.reg [⟨(some 34), .mv (.t 12) true, none⟩,
  ⟨(some 35), .bin .sub .int (.t 34) (.c (.int .i64 1)), none⟩,
  ⟨(some 12), .mv (.t 35) true, none⟩] [0, 3, 8, 9, 12])))
def l_slices_heapSortCmpFunc_int_1 : ACode := .loop [0, 3, 8, 9, 12] [] bl_slices_heapSortCmpFunc_int_1
theorem L_slices_heapSortCmpFunc_int_1 {T : Table} (ks : List Kt) (e : Env) (h : Heap) (Q : Ex → Env → Heap → Prop) : Xc T l_slices_heapSortCmpFunc_int_1 ks e h Q = Xc T bl_slices_heapSortCmpFunc_int_1 (.seq l_slices_heapSortCmpFunc_int_1 :: ks) (e.keep [0, 3, 8, 9, 12]) h Q := Xc_loop ks _ e h Q _ _
def k_slices_heapSortCmpFunc_int : ACode := (.seq (.reg [⟨(some 13), .mv (.t 1) false, none⟩,
  ⟨(some 8), .mv (.t 13) true, none⟩] [0, 1, 2, 3, 8]) (.seq (.reg [⟨(some 9), .mv (.c (.int .i64 0)) false, none⟩] [0, 1, 2, 3, 8, 9]) (.seq (.reg [⟨(some 14), .mv (.t 2) true, none⟩,
  ⟨(some 15), .mv (.t 1) true, none⟩,
  ⟨(some 16), .bin .sub .int (.t 14) (.t 15), none⟩,
  ⟨(some 10), .mv (.t 16) true, none⟩] [0, 3, 8, 9, 10]) (.seq (.seq (.reg [⟨(some 17), .mv (.t 10) false, none⟩,
  ⟨(some 18), .bin .sub .int (.t 17) (.c (.int .i64 1)), none⟩,
  ⟨(some 19), .bin .quo .int (.t 18) (.c (.int .i64 2)), none⟩,
  ⟨(some 11), .mv (.t 19) true, none⟩] [0, 3, 8, 9, 10, 11]) (.block 0 l_slices_heapSortCmpFunc_int_0)) (.seq (.reg [⟨(some 30), .mv (.t 10) true, none⟩,
  ⟨(some 31), .bin .sub .int (.t 30) (.c (.int .i64 1)), none⟩,
  ⟨(some 12), .mv (.t 31) true, none⟩] [0, 3, 8, 9, 12]) (.block 2 l_slices_heapSortCmpFunc_int_1))))))
def c_slices_heapSortCmpFunc_int : AFunc := ⟨k_slices_heapSortCmpFunc_int, 60, [], [], [], []⟩
-- 111: slices.nextPowerOfTwo

def k_slices_nextPowerOfTwo : ACode := (.seq (.reg [⟨(some 2), .mv (.c (.int .u64 0)) false, none⟩] [0]) (.seq (.reg [⟨(some 3), .mv (.t 0) true, none⟩,
  ⟨(some 4), .conv (.i .u64) (.t 3), none⟩,
  ⟨(some 5), .callp f_math_bits_Len [(.t 4)] [], none⟩,
  ⟨(some 6), .bin .shl .int (.c (.int .u64 1)) (.t 5), none⟩,
  ⟨(some 2), .mv (.t 6) true, none⟩] [2]) .ret))
def c_slices_nextPowerOfTwo : AFunc := ⟨k_slices_nextPowerOfTwo, 7, [.t 2], [], [], []⟩
-- 112: (*slices.xorshift).Next

def k_slices_xorshift_Next : ACode := (.seq (.reg [⟨(some 2), .mv (.c (.int .u64 0)) false, none⟩] [0]) (.seq (.regd [⟨(some 3), .mv (.t 0) false, none⟩,
  ⟨(some 4), .nilck (.t 3), none⟩,
  ⟨(some 5), .load 0 (.t 4), none⟩,
  ⟨(some 6), .mv (.t 0) false, none⟩,
  ⟨(some 7), .nilck (.t 6), none⟩,
  ⟨(some 8), .load 0 (.t 7), none⟩,
  ⟨(some 9), .bin .shl .int (.t 8) (.c (.int .u64 13)), none⟩,
  ⟨(some 10), .bin .xor .int (.t 5) (.t 9), none⟩,
  ⟨(some 11), .nilck (.t 3), none⟩,
  ⟨none, .store 1 (.t 11) (.t 10), none⟩] [0] [] []) (.seq (.regd [⟨(some 12), .mv (.t 0) false, none⟩,
  ⟨(some 13), .nilck (.t 12), none⟩,
  ⟨(some 14), .load 0 (.t 13), none⟩,
  ⟨(some 15), .mv (.t 0) false, none⟩,
  ⟨(some 16), .nilck (.t 15), none⟩,
  ⟨(some 17), .load 0 (.t 16), none⟩,
  ⟨(some 18), .bin .shr .int (.t 17) (.c (.int .u64 7)), none⟩,
  ⟨(some 19), .bin .xor .int (.t 14) (.t 18), none⟩,
  ⟨(some 20), .nilck (.t 12), none⟩,
  ⟨none, .store 1 (.t 20) (.t 19), none⟩] [0] [] []) (.seq (.regd [⟨(some 21), .mv (.t 0) false, none⟩,
  ⟨(some 22), .nilck (.t 21), none⟩,
  ⟨(some 23), .load 0 (.t 22), none⟩,
  ⟨(some 24), .mv (.t 0) false, none⟩,
  ⟨(some 25), .nilck (.t 24), none⟩,
  ⟨(some 26), .load 0 (.t 25), none⟩,
  ⟨(some 27), .bin .shl .int (.t 26) (.c (.int .u64 17)), none⟩,
  ⟨(some 28), .bin .xor .int (.t 23) (.t 27), none⟩,
  ⟨(some 29), .nilck (.t 21), none⟩,
  ⟨none, .store 1 (.t 29) (.t 28), none⟩] [0] [] []) (.seq (.reg [⟨(some 30), .mv (.t 0) true, none⟩,
  ⟨(some 31), .nilck (.t 30), none⟩,
  ⟨(some 32), .load 0 (.t 31), none⟩,
  ⟨(some 2), .mv (.t 32) true, none⟩] [2]) .ret)))))
def c_slices_xorshift_Next : AFunc := ⟨k_slices_xorshift_Next, 33, [.t 2], [], [], []⟩
-- 101: slices.breakPatternsCmpFunc[int]
def bl_slices_breakPatternsCmpFunc_int_0 : ACode := (.seq (.seq (.reg [⟨(some 28), .mv (.t 11) false, none⟩,
  ⟨(some 29), .mv (.t 1) false, none⟩,
  ⟨(some 30), .mv (.t 8) false, none⟩,
  ⟨(some 31), .bin .quo .int (.t 30) (.c (.int .i64 4)), none⟩,
  ⟨(some 32), .bin .mul .int (.t 31) (.c (.int .i64 2)), none⟩,
  ⟨(some 33), .bin .add .int (.t 29) (.t 32), none⟩,
  ⟨(some 34), .bin .add .int (.t 33) (.c (.int .i64 1)), none⟩,
  ⟨(some 35), .bin .leq .int (.t 28) (.t 34), none⟩] [0, 1, 8, 9, 10, 11, 35]) (.cond (.t 35)
 .skip
 (.exit 0))) (.seq (.block 1 (.seq (.reg [⟨(some 38), .callh f_slices_xorshift_Next [(.t 9)], none⟩,
  ⟨(some 39), .mv (.t 10) false, none⟩,
  ⟨(some 40), .bin .sub .int (.t 39) (.c (.int .u64 1)), none⟩,
  ⟨(some 41), .bin .and .int (.t 38) (.t 40), none⟩,
  ⟨(some 42), .conv (.i .i64) (.t 41), none⟩,
  ⟨(some 12), .mv (.t 42) true, none⟩] [0, 1, 8, 9, 10, 11, 12]) (.seq (.seq (.reg [⟨(some 43), .mv (.t 12) false, none⟩,
  ⟨(some 44), .mv (.t 8) false, none⟩,
  ⟨(some 45), .bin .geq .int (.t 43) (.t 44), none⟩] [0, 1, 8, 9, 10, 11, 12, 45]) (.cond (.t 45)
 (.reg [⟨(some 46), .mv (.t 12) true, none⟩,
  ⟨(some 47), .mv (.t 8) false, none⟩,
  ⟨(some 48), .bin .sub .int (.t 46) (.t 47), none⟩,
  ⟨(some 12), .mv (.t 48) true, none⟩] [0, 1, 8, 9, 10, 11, 12])
 .skip)) (.regd [⟨(some 49), .mv (.t 0) false, none⟩,
  ⟨(some 50), .mv (.t 11) false, none⟩,
  ⟨(some 51), .mv (.t 0) false, none⟩,
  ⟨(some 52), .mv (.t 1) false, none⟩,
  ⟨(some 53), .mv (.t 12) false, none⟩,
  ⟨(some 54), .bin .add .int (.t 52) (.t 53), none⟩,
  ⟨(some 55), .mv (.t 0) false, none⟩,
  ⟨(some 56), .mv (.t 1) false, none⟩,
  ⟨(some 57), .mv (.t 12) false, none⟩,
  ⟨(some 58), .bin .add .int (.t 56) (.t 57), none⟩,
  ⟨(some 59), .ia (.sl 1) (.t 55) (.t 58), none⟩,
  ⟨(some 60), .load 0 (.t 59), none⟩,
  ⟨(some 61), .mv (.t 0) false, none⟩,
  ⟨(some 62), .mv (.t 11) false, none⟩,
  ⟨(some 63), .ia (.sl 1) (.t 61) (.t 62), none⟩,
  ⟨(some 64), .load 0 (.t 63), none⟩,
  ⟨(some 65), .ia (.sl 1) (.t 49) (.t 50), none⟩,
  ⟨none, .store 1 (.t 65) (.t 60), none⟩,
  ⟨(some 66), .ia (.sl 1) (.t 51) (.t 54), none⟩,
  ⟨none, .store 1 (.t 66) (.t 64), none⟩] [0, 1, 8, 9, 10, 11] [] [])))) (.reg [⟨(some 36), .mv (.t 11) true, none⟩,
  ⟨(some 37), .bin .add .int (.t 36) (.c (.int .i64 1)), none⟩,
  ⟨(some 11), .mv (.t 37) true, none⟩] [0, 1, 8, 9, 10, 11])))
def l_slices_breakPatternsCmpFunc_int_0 : ACode := .loop [0, 1, 8, 9, 10, 11] [] bl_slices_breakPatternsCmpFunc_int_0
theorem L_slices_breakPatternsCmpFunc_int_0 {T : Table} (ks : List Kt) (e : Env) (h : Heap) (Q : Ex → Env → Heap → Prop) : Xc T l_slices_breakPatternsCmpFunc_int_0 ks e h Q = Xc T bl_slices_breakPatternsCmpFunc_int_0 (.seq l_slices_breakPatternsCmpFunc_int_0 :: ks) (e.keep [0, 1, 8, 9, 10, 11]) h Q := Xc_loop ks _ e h Q _ _
def k_slices_breakPatternsCmpFunc_int : ACode := (.seq (.reg [⟨(some 13), .mv (.t 2) true, none⟩,
  ⟨(some 14), .mv (.t 1) false, none⟩,
  ⟨(some 15), .bin .sub .int (.t 13) (.t 14), none⟩,
  ⟨(some 8), .mv (.t 15) true, none⟩] [0, 1, 8]) (.seq (.reg [⟨(some 16), .mv (.t 8) false, none⟩,
  ⟨(some 17), .bin .geq .int (.t 16) (.c (.int .i64 8)), none⟩] [0, 1, 8, 17]) (.cond (.t 17)
 (.seq (.reg [⟨(some 18), .mv (.t 8) false, none⟩,
  ⟨(some 19), .conv (.i .u64) (.t 18), none⟩,
  ⟨(some 9), .alloc [(.int .u64 0)], none⟩,
  ⟨none, .store 1 (.t 9) (.t 19), none⟩] [0, 1, 8, 9]) (.seq (.reg [⟨(some 20), .mv (.t 8) false, none⟩,
  ⟨(some 21), .callp f_slices_nextPowerOfTwo [(.t 20)] [], none⟩,
  ⟨(some 10), .mv (.t 21) true, none⟩] [0, 1, 8, 9, 10]) (.seq (.reg [⟨(some 22), .mv (.t 1) false, none⟩,
  ⟨(some 23), .mv (.t 8) false, none⟩,
  ⟨(some 24), .bin .quo .int (.t 23) (.c (.int .i64 4)), none⟩,
  ⟨(some 25), .bin .mul .int (.t 24) (.c (.int .i64 2)), none⟩,
  ⟨(some 26), .bin .add .int (.t 22) (.t 25), none⟩,
  ⟨(some 27), .bin .sub .int (.t 26) (.c (.int .i64 1)), none⟩,
  ⟨(some 11), .mv (.t 27) true, none⟩] [0, 1, 8, 9, 10, 11]) (.block 0 l_slices_breakPatternsCmpFunc_int_0))))
 .skip)))
def c_slices_breakPatternsCmpFunc_int : AFunc := ⟨k_slices_breakPatternsCmpFunc_int, 67, [], [], [], []⟩
-- 116: slices.order2CmpFunc[int]

def k_slices_order2CmpFunc_int : ACode := (.seq (.reg [⟨(some 10), .mv (.c (.int .i64 0)) false, none⟩,
  ⟨(some 11), .mv (.c (.int .i64 0)) false, none⟩] [0, 1, 2, 3, 4]) (.seq (.seq (.regd [⟨(some 12), .mv (.t 4) false, none⟩,
  ⟨(some 13), .mv (.t 0) false, none⟩,
  ⟨(some 14), .mv (.t 2) false, none⟩,
  ⟨(some 15), .ia (.sl 1) (.t 13) (.t 14), none⟩,
  ⟨(some 16), .load 0 (.t 15), none⟩,
  ⟨(some 17), .mv (.t 0) false, none⟩,
  ⟨(some 18), .mv (.t 1) false, none⟩,
  ⟨(some 19), .ia (.sl 1) (.t 17) (.t 18), none⟩,
  ⟨(some 20), .load 0 (.t 19), none⟩,
  ⟨(some 21), .callv (.t 12) [(.t 16), (.t 20)], none⟩,
  ⟨(some 22), .bin .lss .int (.t 21) (.c (.int .i64 0)), none⟩] [1, 2, 3, 22] [] []) (.cond (.t 22)
 (.seq (.reg [⟨(some 23), .mv (.t 3) true, none⟩,
  ⟨(some 24), .nilck (.t 23), none⟩,
  ⟨(some 25), .load 0 (.t 24), none⟩,
  ⟨(some 26), .bin .add .int (.t 25) (.c (.int .i64 1)), none⟩,
  ⟨(some 27), .nilck (.t 23), none⟩,
  ⟨none, .store 1 (.t 27) (.t 26), none⟩] [1, 2]) (.seq (.reg [⟨(some 28), .mv (.t 2) true, none⟩,
  ⟨(some 29), .mv (.t 1) true, none⟩,
  ⟨(some 10), .mv (.t 28) true, none⟩,
  ⟨(some 11), .mv (.t 29) true, none⟩] [10, 11]) .ret))
 .skip)) (.seq (.reg [⟨(some 30), .mv (.t 1) true, none⟩,
  ⟨(some 31), .mv (.t 2) true, none⟩,
  ⟨(some 10), .mv (.t 30) true, none⟩,
  ⟨(some 11), .mv (.t 31) true, none⟩] [10, 11]) .ret)))
def c_slices_order2CmpFunc_int : AFunc := ⟨k_slices_order2CmpFunc_int, 32, [.t 10, .t 11], [], [], []⟩
-- 114: slices.medianCmpFunc[int]

def k_slices_medianCmpFunc_int : ACode := (.seq (.reg [⟨(some 12), .mv (.c (.int .i64 0)) false, none⟩] [0, 1, 2, 3, 4, 5]) (.seq (.reg [⟨(some 14), .mv (.t 0) false, none⟩,
  ⟨(some 15), .mv (.t 1) true, none⟩,
  ⟨(some 16), .mv (.t 2) true, none⟩,
  ⟨(some 17), .mv (.t 4) false, none⟩,
  ⟨(some 18), .mv (.t 5) false, none⟩,
  ⟨(some 19), .callh f_slices_order2CmpFunc_int [(.t 14), (.t 15), (.t 16), (.t 17), (.t 18)], none⟩,
  ⟨(some 13), .mv (.t 19) true, none⟩,
  ⟨(some 20), .ext (.t 13) 0, none⟩,
  ⟨(some 21), .ext (.t 13) 1, none⟩,
  ⟨(some 1), .mv (.t 20) true, none⟩,
  ⟨(some 2), .mv (.t 21) true, none⟩] [0, 1, 2, 3, 4, 5]) (.seq (.reg [⟨(some 23), .mv (.t 0) false, none⟩,
  ⟨(some 24), .mv (.t 2) true, none⟩,
  ⟨(some 25), .mv (.t 3) true, none⟩,
  ⟨(some 26), .mv (.t 4) false, none⟩,
  ⟨(some 27), .mv (.t 5) false, none⟩,
  ⟨(some 28), .callh f_slices_order2CmpFunc_int [(.t 23), (.t 24), (.t 25), (.t 26), (.t 27)], none⟩,
  ⟨(some 22), .mv (.t 28) true, none⟩,
  ⟨(some 29), .ext (.t 22) 0, none⟩,
  ⟨(some 30), .ext (.t 22) 1, none⟩,
  ⟨(some 2), .mv (.t 29) true, none⟩,
  ⟨(some 3), .mv (.t 30) true, none⟩] [0, 1, 2, 4, 5]) (.seq (.reg [⟨(some 32), .mv (.t 0) true, none⟩,
  ⟨(some 33), .mv (.t 1) true, none⟩,
  ⟨(some 34), .mv (.t 2) true, none⟩,
  ⟨(some 35), .mv (.t 4) true, none⟩,
  ⟨(some 36), .mv (.t 5) true, none⟩,
  ⟨(some 37), .callh f_slices_order2CmpFunc_int [(.t 32), (.t 33), (.t 34), (.t 35), (.t 36)], none⟩,
  ⟨(some 31), .mv (.t 37) true, none⟩,
  ⟨(some 38), .ext (.t 31) 0, none⟩,
  ⟨(some 39), .ext (.t 31) 1, none⟩,
  ⟨(some 1), .mv (.t 38) true, none⟩,
  ⟨(some 2), .mv (.t 39) true, none⟩] [2]) (.seq (.reg [⟨(some 40), .mv (.t 2) true, none⟩,
  ⟨(some 12), .mv (.t 40) true, none⟩] [12]) .ret)))))
def c_slices_medianCmpFunc_int : AFunc := ⟨k_slices_medianCmpFunc_int, 41, [.t 12], [], [], []⟩
-- 113: slices.medianAdjacentCmpFunc[int]

def k_slices_medianAdjacentCmpFunc_int : ACode := (.seq (.reg [⟨(some 8), .mv (.c (.int .i64 0)) false, none⟩] [0, 1, 2, 3]) (.seq (.reg [⟨(some 9), .mv (.t 0) true, none⟩,
  ⟨(some 10), .mv (.t 1) false, none⟩,
  ⟨(some 11), .bin .sub .int (.t 10) (.c (.int .i64 1)), none⟩,
  ⟨(some 12), .mv (.t 1) false, none⟩,
  ⟨(some 13), .mv (.t 1) true, none⟩,
  ⟨(some 14), .bin .add .int (.t 13) (.c (.int .i64 1)), none⟩,
  ⟨(some 15), .mv (.t 2) true, none⟩,
  ⟨(some 16), .mv (.t 3) true, none⟩,
  ⟨(some 17), .callh f_slices_medianCmpFunc_int [(.t 9), (.t 11), (.t 12), (.t 14), (.t 15), (.t 16)], none⟩,
  ⟨(some 8), .mv (.t 17) true, none⟩] [8]) .ret))
def c_slices_medianAdjacentCmpFunc_int : AFunc := ⟨k_slices_medianAdjacentCmpFunc_int, 18, [.t 8], [], [], []⟩
-- 102: slices.choosePivotCmpFunc[int]

def k_slices_choosePivotCmpFunc_int : ACode := (.seq (.reg [⟨(some 8), .mv (.c (.int .i64 0)) false, none⟩,
  ⟨(some 9), .mv (.c (.int .i64 0)) false, none⟩] [0, 1, 2, 3]) (.seq (.reg [⟨(some 15), .mv (.t 2) true, none⟩,
  ⟨(some 16), .mv (.t 1) false, none⟩,
  ⟨(some 17), .bin .sub .int (.t 15) (.t 16), none⟩,
  ⟨(some 10), .mv (.t 17) true, none⟩] [0, 1, 3, 10]) (.seq (.reg [⟨(some 11), .alloc [(.int .i64 0)], none⟩] [0, 1, 3, 10, 11]) (.seq (.reg [⟨(some 18), .mv (.t 1) false, none⟩,
  ⟨(some 19), .mv (.t 10) false, none⟩,
  ⟨(some 20), .bin .quo .int (.t 19) (.c (.int .i64 4)), none⟩,
  ⟨(some 21), .bin .mul .int (.t 20) (.c (.int .i64 1)), none⟩,
  ⟨(some 22), .bin .add .int (.t 18) (.t 21), none⟩,
  ⟨(some 12), .mv (.t 22) true, none⟩] [0, 1, 3, 10, 11, 12]) (.seq (.reg [⟨(some 23), .mv (.t 1) false, none⟩,
  ⟨(some 24), .mv (.t 10) false, none⟩,
  ⟨(some 25), .bin .quo .int (.t 24) (.c (.int .i64 4)), none⟩,
  ⟨(some 26), .bin .mul .int (.t 25) (.c (.int .i64 2)), none⟩,
  ⟨(some 27), .bin .add .int (.t 23) (.t 26), none⟩,
  ⟨(some 13), .mv (.t 27) true, none⟩] [0, 1, 3, 10, 11, 12, 13]) (.seq (.reg [⟨(some 28), .mv (.t 1) true, none⟩,
  ⟨(some 29), .mv (.t 10) false, none⟩,
  ⟨(some 30), .bin .quo .int (.t 29) (.c (.int .i64 4)), none⟩,
  ⟨(some 31), .bin .mul .int (.t 30) (.c (.int .i64 3)), none⟩,
  ⟨(some 32), .bin .add .int (.t 28) (.t 31), none⟩,
  ⟨(some 14), .mv (.t 32) true, none⟩] [0, 3, 10, 11, 12, 13, 14]) (.seq (.seq (.reg [⟨(some 33), .mv (.t 10) false, none⟩,
  ⟨(some 34), .bin .geq .int (.t 33) (.c (.int .i64 8)), none⟩] [0, 3, 10, 11, 12, 13, 14, 34]) (.cond (.t 34)
 (.seq (.seq (.reg [⟨(some 35), .mv (.t 10) true, none⟩,
  ⟨(some 36), .bin .geq .int (.t 35) (.c (.int .i64 50)), none⟩] [0, 3, 11, 12, 13, 14, 36]) (.cond (.t 36)
 (.seq (.reg [⟨(some 37), .mv (.t 0) false, none⟩,
  ⟨(some 38), .mv (.t 12) true, none⟩,
  ⟨(some 39), .mv (.t 3) false, none⟩,
  ⟨(some 40), .callh f_slices_medianAdjacentCmpFunc_int [(.t 37), (.t 38), (.t 11), (.t 39)], none⟩,
  ⟨(some 12), .mv (.t 40) true, none⟩] [0, 3, 11, 12, 13, 14]) (.seq (.reg [⟨(some 41), .mv (.t 0) false, none⟩,
  ⟨(some 42), .mv (.t 13) true, none⟩,
  ⟨(some 43), .mv (.t 3) false, none⟩,
  ⟨(some 44), .callh f_slices_medianAdjacentCmpFunc_int [(.t 41), (.t 42), (.t 11), (.t 43)], none⟩,
  ⟨(some 13), .mv (.t 44) true, none⟩] [0, 3, 11, 12, 13, 14]) (.reg [⟨(some 45), .mv (.t 0) false, none⟩,
  ⟨(some 46), .mv (.t 14) true, none⟩,
  ⟨(some 47), .mv (.t 3) false, none⟩,
  ⟨(some 48), .callh f_slices_medianAdjacentCmpFunc_int [(.t 45), (.t 46), (.t 11), (.t 47)], none⟩,
  ⟨(some 14), .mv (.t 48) true, none⟩] [0, 3, 11, 12, 13, 14])))
 .skip)) (.reg [⟨(some 49), .mv (.t 0) true, none⟩,
  ⟨(some 50), .mv (.t 12) true, none⟩,
  ⟨(some 51), .mv (.t 13) true, none⟩,
  ⟨(some 52), .mv (.t 14) true, none⟩,
  ⟨(some 53), .mv (.t 3) true, none⟩,
  ⟨(some 54), .callh f_slices_medianCmpFunc_int [(.t 49), (.t 50), (.t 51), (.t 52), (.t 11), (.t 53)], none⟩,
  ⟨(some 13), .mv (.t 54) true, none⟩] [11, 13]))
 .skip)) (.seq (.reg [⟨(some 55), .load 0 (.t 11), none⟩] [13, 55]) (.block 0 (.seq (.reg [⟨(some 58), .bin .eql .int (.t 55) (.c (.int .i64 0)), none⟩,
  ⟨(some 57), .mv (.t 58) true, none⟩] [13, 55, 57]) (.cond (.t 57)
 (.seq (.reg [⟨(some 59), .mv (.t 13) true, none⟩,
  ⟨(some 8), .mv (.t 59) true, none⟩,
  ⟨(some 9), .mv (.c (.int .i64 1)) false, none⟩] [8, 9]) .ret)
 (.seq (.reg [⟨(some 61), .bin .eql .int (.t 55) (.c (.int .i64 12)), none⟩,
  ⟨(some 60), .mv (.t 61) true, none⟩] [13, 60]) (.cond (.t 60)
 (.seq (.reg [⟨(some 62), .mv (.t 13) true, none⟩,
  ⟨(some 8), .mv (.t 62) true, none⟩,
  ⟨(some 9), .mv (.c (.int .i64 2)) false, none⟩] [8, 9]) .ret)
 (.seq (.reg [⟨(some 56), .mv (.t 13) true, none⟩,
  ⟨(some 8), .mv (.t 56) true, none⟩,
  ⟨(some 9), .mv (.c (.int .i64 0)) false, none⟩] [8, 9]) .ret))))))))))))))
def c_slices_choosePivotCmpFunc_int : AFunc := ⟨k_slices_choosePivotCmpFunc_int, 63, [.t 8, .t 9], [], [], []⟩
-- 103: slices.reverseRangeCmpFunc[int]
def bl_slices_reverseRangeCmpFunc_int_0 : ACode := (.seq (.seq (.reg [⟨(some 13), .mv (.t 8) false, none⟩,
  ⟨(some 14), .mv (.t 9) false, none⟩,
  ⟨(some 15), .bin .lss .int (.t 13) (.t 14), none⟩] [0, 8, 9, 15]) (.cond (.t 15)
 .skip
 (.exit 0))) (.block 1 (.seq (.regd [⟨(some 16), .mv (.t 0) false, none⟩,
  ⟨(some 17), .mv (.t 8) false, none⟩,
  ⟨(some 18), .mv (.t 0) false, none⟩,
  ⟨(some 19), .mv (.t 9) false, none⟩,
  ⟨(some 20), .mv (.t 0) false, none⟩,
  ⟨(some 21), .mv (.t 9) false, none⟩,
  ⟨(some 22), .ia (.sl 1) (.t 20) (.t 21), none⟩,
  ⟨(some 23), .load 0 (.t 22), none⟩,
  ⟨(some 24), .mv (.t 0) false, none⟩,
  ⟨(some 25), .mv (.t 8) false, none⟩,
  ⟨(some 26), .ia (.sl 1) (.t 24) (.t 25), none⟩,
  ⟨(some 27), .load 0 (.t 26), none⟩,
  ⟨(some 28), .ia (.sl 1) (.t 16) (.t 17), none⟩,
  ⟨none, .store 1 (.t 28) (.t 23), none⟩,
  ⟨(some 29), .ia (.sl 1) (.t 18) (.t 19), none⟩,
  ⟨none, .store 1 (.t 29) (.t 27), none⟩] [0, 8, 9] [] []) (.seq (.reg [⟨(some 30), .mv (.t 8) true, none⟩,
  ⟨(some 31), .bin .add .int (.t 30) (.c (.int .i64 1)), none⟩,
  ⟨(some 8), .mv (.t 31) true, none⟩] [0, 8, 9]) (.reg [⟨(some 32), .mv (.t 9) true, none⟩,
  ⟨(some 33), .bin .sub .int (.t 32) (.c (.int .i64 1)), none⟩,
  ⟨(some 9), .mv (.t 33) true, none⟩] [0, 8, 9])))))
def l_slices_reverseRangeCmpFunc_int_0 : ACode := .loop [0, 8, 9] [] bl_slices_reverseRangeCmpFunc_int_0
theorem L_slices_reverseRangeCmpFunc_int_0 {T : Table} (ks : List Kt) (e : Env) (h : Heap) (Q : Ex → Env → Heap → Prop) : Xc T l_slices_reverseRangeCmpFunc_int_0 ks e h Q = Xc T bl_slices_reverseRangeCmpFunc_int_0 (.seq l_slices_reverseRangeCmpFunc_int_0 :: ks) (e.keep [0, 8, 9]) h Q := Xc_loop ks _ e h Q _ _
def k_slices_reverseRangeCmpFunc_int : ACode := (.seq (.reg [⟨(some 10), .mv (.t 1) true, none⟩,
  ⟨(some 8), .mv (.t 10) true, none⟩] [0, 2, 8]) (.seq (.reg [⟨(some 11), .mv (.t 2) true, none⟩,
  ⟨(some 12), .bin .sub .int (.t 11) (.c (.int .i64 1)), none⟩,
  ⟨(some 9), .mv (.t 12) true, none⟩] [0, 8, 9]) (.block 0 l_slices_reverseRangeCmpFunc_int_0)))
def c_slices_reverseRangeCmpFunc_int : AFunc := ⟨k_slices_reverseRangeCmpFunc_int, 34, [], [], [], []⟩
-- 104: slices.partialInsertionSortCmpFunc[int]
def bl_slices_partialInsertionSortCmpFunc_int_0 : ACode := (.seq (.seq (.regd [⟨(some 19), .mv (.t 9) false, none⟩,
  ⟨(some 20), .mv (.t 2) false, none⟩,
  ⟨(some 21), .bin .lss .int (.t 19) (.t 20), none⟩,
  ⟨(some 22), .mv (.t 21) false, none⟩,
  ⟨(some 23), .mv (.t 3) false, (some (22, true))⟩,
  ⟨(some 24), .mv (.t 0) false, (some (22, true))⟩,
  ⟨(some 25), .mv (.t 9) false, (some (22, true))⟩,
  ⟨(some 26), .ia (.sl 1) (.t 24) (.t 25), (some (22, true))⟩,
  ⟨(some 27), .load 0 (.t 26), (some (22, true))⟩,
  ⟨(some 28), .mv (.t 0) false, (some (22, true))⟩,
  ⟨(some 29), .mv (.t 9) false, (some (22, true))⟩,
  ⟨(some 30), .bin .sub .int (.t 29) (.c (.int .i64 1)), (some (22, true))⟩,
  ⟨(some 31), .ia (.sl 1) (.t 28) (.t 30), (some (22, true))⟩,
  ⟨(some 32), .load 0 (.t 31), (some (22, true))⟩,
  ⟨(some 33), .callv (.t 23) [(.t 27), (.t 32)], (some (22, true))⟩,
  ⟨(some 34), .bin .lss .int (.t 33) (.c (.int .i64 0)), (some (22, true))⟩,
  ⟨(some 35), .un .not (.t 34), (some (22, true))⟩,
  ⟨(some 36), .pick (.t 22) (.t 35) (.c (.bool false)), none⟩] [0, 1, 2, 3, 9, 10, 36] [] []) (.cond (.t 36)
 .skip
 (.exit 2))) (.block 3 (.reg [⟨(some 37), .mv (.t 9) true, none⟩,
  ⟨(some 38), .bin .add .int (.t 37) (.c (.int .i64 1)), none⟩,
  ⟨(some 9), .mv (.t 38) true, none⟩] [0, 1, 2, 3, 9, 10])))
def l_slices_partialInsertionSortCmpFunc_int_0 : ACode := .loop [0, 1, 2, 3, 9, 10] [] bl_slices_partialInsertionSortCmpFunc_int_0
theorem L_slices_partialInsertionSortCmpFunc_int_0 {T : Table} (ks : List Kt) (e : Env) (h : Heap) (Q : Ex → Env → Heap → Prop) : Xc T l_slices_partialInsertionSortCmpFunc_int_0 ks e h Q = Xc T bl_slices_partialInsertionSortCmpFunc_int_0 (.seq l_slices_partialInsertionSortCmpFunc_int_0 :: ks) (e.keep [0, 1, 2, 3, 9, 10]) h Q := Xc_loop ks _ e h Q _ _
def bl_slices_partialInsertionSortCmpFunc_int_1 : ACode := (.seq (.seq (.reg [⟨(some 68), .mv (.t 11) false, none⟩,
  ⟨(some 69), .bin .geq .int (.t 68) (.c (.int .i64 1)), none⟩] [0, 1, 2, 3, 9, 10, 11, 69]) (.cond (.t 69)
 .skip
 (.exit 4))) (.seq (.block 5 (.seq (.seq (.regd [⟨(some 72), .mv (.t 3) false, none⟩,
  ⟨(some 73), .mv (.t 0) false, none⟩,
  ⟨(some 74), .mv (.t 11) false, none⟩,
  ⟨(some 75), .ia (.sl 1) (.t 73) (.t 74), none⟩,
  ⟨(some 76), .load 0 (.t 75), none⟩,
  ⟨(some 77), .mv (.t 0) false, none⟩,
  ⟨(some 78), .mv (.t 11) false, none⟩,
  ⟨(some 79), .bin .sub .int (.t 78) (.c (.int .i64 1)), none⟩,
  ⟨(some 80), .ia (.sl 1) (.t 77) (.t 79), none⟩,
  ⟨(some 81), .load 0 (.t 80), none⟩,
  ⟨(some 82), .callv (.t 72) [(.t 76), (.t 81)], none⟩,
  ⟨(some 83), .bin .lss .int (.t 82) (.c (.int .i64 0)), none⟩,
  ⟨(some 84), .un .not (.t 83), none⟩] [0, 1, 2, 3, 9, 10, 11, 84] [] []) (.cond (.t 84)
 (.exit 4)
 .skip)) (.regd [⟨(some 85), .mv (.t 0) false, none⟩,
  ⟨(some 86), .mv (.t 11) false, none⟩,
  ⟨(some 87), .mv (.t 0) false, none⟩,
  ⟨(some 88), .mv (.t 11) false, none⟩,
  ⟨(some 89), .bin .sub .int (.t 88) (.c (.int .i64 1)), none⟩,
  ⟨(some 90), .mv (.t 0) false, none⟩,
  ⟨(some 91), .mv (.t 11) false, none⟩,
  ⟨(some 92), .bin .sub .int (.t 91) (.c (.int .i64 1)), none⟩,
  ⟨(some 93), .ia (.sl 1) (.t 90) (.t 92), none⟩,
  ⟨(some 94), .load 0 (.t 93), none⟩,
  ⟨(some 95), .mv (.t 0) false, none⟩,
  ⟨(some 96), .mv (.t 11) false, none⟩,
  ⟨(some 97), .ia (.sl 1) (.t 95) (.t 96), none⟩,
  ⟨(some 98), .load 0 (.t 97), none⟩,
  ⟨(some 99), .ia (.sl 1) (.t 85) (.t 86), none⟩,
  ⟨none, .store 1 (.t 99) (.t 94), none⟩,
  ⟨(some 100), .ia (.sl 1) (.t 87) (.t 89), none⟩,
  ⟨none, .store 1 (.t 100) (.t 98), none⟩] [0, 1, 2, 3, 9, 10, 11] [] []))) (.reg [⟨(some 70), .mv (.t 11) true, none⟩,
  ⟨(some 71), .bin .sub .int (.t 70) (.c (.int .i64 1)), none⟩,
  ⟨(some 11), .mv (.t 71) true, none⟩] [0, 1, 2, 3, 9, 10, 11])))
def l_slices_partialInsertionSortCmpFunc_int_1 : ACode := .loop [0, 1, 2, 3, 9, 10, 11] [] bl_slices_partialInsertionSortCmpFunc_int_1
theorem L_slices_partialInsertionSortCmpFunc_int_1 {T : Table} (ks : List Kt) (e : Env) (h : Heap) (Q : Ex → Env → Heap → Prop) : Xc T l_slices_partialInsertionSortCmpFunc_int_1 ks e h Q = Xc T bl_slices_partialInsertionSortCmpFunc_int_1 (.seq l_slices_partialInsertionSortCmpFunc_int_1 :: ks) (e.keep [0, 1, 2, 3, 9, 10, 11]) h Q := Xc_loop ks _ e h Q _ _
def bl_slices_partialInsertionSortCmpFunc_int_2 : ACode := (.seq (.seq (.reg [⟨(some 107), .mv (.t 12) false, none⟩,
  ⟨(some 108), .mv (.t 2) false, none⟩,
  ⟨(some 109), .bin .lss .int (.t 107) (.t 108), none⟩] [0, 1, 2, 3, 9, 10, 12, 109]) (.cond (.t 109)
 .skip
 (.exit 6))) (.seq (.block 7 (.seq (.seq (.regd [⟨(some 112), .mv (.t 3) false, none⟩,
  ⟨(some 113), .mv (.t 0) false, none⟩,
  ⟨(some 114), .mv (.t 12) false, none⟩,
  ⟨(some 115), .ia (.sl 1) (.t 113) (.t 114), none⟩,
  ⟨(some 116), .load 0 (.t 115), none⟩,
  ⟨(some 117), .mv (.t 0) false, none⟩,
  ⟨(some 118), .mv (.t 12) false, none⟩,
  ⟨(some 119), .bin .sub .int (.t 118) (.c (.int .i64 1)), none⟩,
  ⟨(some 120), .ia (.sl 1) (.t 117) (.t 119), none⟩,
  ⟨(some 121), .load 0 (.t 120), none⟩,
  ⟨(some 122), .callv (.t 112) [(.t 116), (.t 121)], none⟩,
  ⟨(some 123), .bin .lss .int (.t 122) (.c (.int .i64 0)), none⟩,
  ⟨(some 124), .un .not (.t 123), none⟩] [0, 1, 2, 3, 9, 10, 12, 124] [] []) (.cond (.t 124)
 (.exit 6)
 .skip)) (.regd [⟨(some 125), .mv (.t 0) false, none⟩,
  ⟨(some 126), .mv (.t 12) false, none⟩,
  ⟨(some 127), .mv (.t 0) false, none⟩,
  ⟨(some 128), .mv (.t 12) false, none⟩,
  ⟨(some 129), .bin .sub .int (.t 128) (.c (.int .i64 1)), none⟩,
  ⟨(some 130), .mv (.t 0) false, none⟩,
  ⟨(some 131), .mv (.t 12) false, none⟩,
  ⟨(some 132), .bin .sub .int (.t 131) (.c (.int .i64 1)), none⟩,
  ⟨(some 133), .ia (.sl 1) (.t 130) (.t 132), none⟩,
  ⟨(some 134), .load 0 (.t 133), none⟩,
  ⟨(some 135), .mv (.t 0) false, none⟩,
  ⟨(some 136), .mv (.t 12) false, none⟩,
  ⟨(some 137), .ia (.sl 1) (.t 135) (.t 136), none⟩,
  ⟨(some 138), .load 0 (.t 137), none⟩,
  ⟨(some 139), .ia (.sl 1) (.t 125) (.t 126), none⟩,
  ⟨none, .store 1 (.t 139) (.t 134), none⟩,
  ⟨(some 140), .ia (.sl 1) (.t 127) (.t 129), none⟩,
  ⟨none, .store 1 (.t 140) (.t 138), none⟩] [0, 1, 2, 3, 9, 10, 12] [] []))) (.reg [⟨(some 110), .mv (.t 12) true, none⟩,
  ⟨(some 111), .bin .add .int (.t 110) (.c (.int .i64 1)), none⟩,
  ⟨(some 12), .mv (.t 111) true, none⟩] [0, 1, 2, 3, 9, 10, 12])))
def l_slices_partialInsertionSortCmpFunc_int_2 : ACode := .loop [0, 1, 2, 3, 9, 10, 12] [] bl_slices_partialInsertionSortCmpFunc_int_2
theorem L_slices_partialInsertionSortCmpFunc_int_2 {T : Table} (ks : List Kt) (e : Env) (h : Heap) (Q : Ex → Env → Heap → Prop) : Xc T l_slices_partialInsertionSortCmpFunc_int_2 ks e h Q = Xc T bl_slices_partialInsertionSortCmpFunc_int_2 (.seq l_slices_partialInsertionSortCmpFunc_int_2 :: ks) (e.keep [0, 1, 2, 3, 9, 10, 12]) h Q := Xc_loop ks _ e h Q _ _
def bl_slices_partialInsertionSortCmpFunc_int_3 : ACode := (.seq (.seq (.reg [⟨(some 15), .mv (.t 10) false, none⟩,
  ⟨(some 16), .bin .lss .int (.t 15) (.c (.int .i64 5)), none⟩] [0, 1, 2, 3, 9, 10, 16]) (.cond (.t 16)
 .skip
 (.exit 0))) (.seq (.block 1 (.seq (.block 2 l_slices_partialInsertionSortCmpFunc_int_0) (.seq (.seq (.reg [⟨(some 39), .mv (.t 9) false, none⟩,
  ⟨(some 40), .mv (.t 2) false, none⟩,
  ⟨(some 41), .bin .eql .int (.t 39) (.t 40), none⟩] [0, 1, 2, 3, 9, 10, 41]) (.cond (.t 41)
 (.seq (.reg [⟨(some 8), .mv (.c (.bool true)) false, none⟩] [8]) .ret)
 .skip)) (.seq (.seq (.reg [⟨(some 42), .mv (.t 2) false, none⟩,
  ⟨(some 43), .mv (.t 1) false, none⟩,
  ⟨(some 44), .bin .sub .int (.t 42) (.t 43), none⟩,
  ⟨(some 45), .bin .lss .int (.t 44) (.c (.int .i64 50)), none⟩] [0, 1, 2, 3, 9, 10, 45]) (.cond (.t 45)
 (.seq (.reg [⟨(some 8), .mv (.c (.bool false)) false, none⟩] [8]) .ret)
 .skip)) (.seq (.regd [⟨(some 46), .mv (.t 0) false, none⟩,
  ⟨(some 47), .mv (.t 9) false, none⟩,
  ⟨(some 48), .mv (.t 0) false, none⟩,
  ⟨(some 49), .mv (.t 9) false, none⟩,
  ⟨(some 50), .bin .sub .int (.t 49) (.c (.int .i64 1)), none⟩,
  ⟨(some 51), .mv (.t 0) false, none⟩,
  ⟨(some 52), .mv (.t 9) false, none⟩,
  ⟨(some 53), .bin .sub .int (.t 52) (.c (.int .i64 1)), none⟩,
  ⟨(some 54), .ia (.sl 1) (.t 51) (.t 53), none⟩,
  ⟨(some 55), .load 0 (.t 54), none⟩,
  ⟨(some 56), .mv (.t 0) false, none⟩,
  ⟨(some 57), .mv (.t 9) false, none⟩,
  ⟨(some 58), .ia (.sl 1) (.t 56) (.t 57), none⟩,
  ⟨(some 59), .load 0 (.t 58), none⟩,
  ⟨(some 60), .ia (.sl 1) (.t 46) (.t 47), none⟩,
  ⟨none, .store 1 (.t 60) (.t 55), none⟩,
  ⟨(some 61), .ia (.sl 1) (.t 48) (.t 50), none⟩,
  ⟨none, .store 1 (.t 61) (.t 59), none⟩] [0, 1, 2, 3, 9, 10] [] []) (.seq (.seq (.reg [⟨(some 62), .mv (.t 9) false, none⟩,
  ⟨(some 63), .mv (.t 1) false, none⟩,
  ⟨(some 64), .bin .sub .int (.t 62) (.t 63), none⟩,
  ⟨(some 65), .bin .geq .int (.t 64) (.c (.int .i64 2)), none⟩] [0, 1, 2, 3, 9, 10, 65]) (.cond (.t 65)
 (.seq (.reg [⟨(some 66), .mv (.t 9) false, none⟩,
  ⟨(some 67), .bin .sub .int (.t 66) (.c (.int .i64 1)), none⟩,
  ⟨(some 11), .mv (.t 67) true, none⟩] [0, 1, 2, 3, 9, 10, 11]) (.block 4 l_slices_partialInsertionSortCmpFunc_int_1))
 .skip)) (.seq (.reg [⟨(some 101), .mv (.t 2) false, none⟩,
  ⟨(some 102), .mv (.t 9) false, none⟩,
  ⟨(some 103), .bin .sub .int (.t 101) (.t 102), none⟩,
  ⟨(some 104), .bin .geq .int (.t 103) (.c (.int .i64 2)), none⟩] [0, 1, 2, 3, 9, 10, 104]) (.cond (.t 104)
 (.seq (.reg [⟨(some 105), .mv (.t 9) false, none⟩,
  ⟨(some 106), .bin .add .int (.t 105) (.c (.int .i64 1)), none⟩,
  ⟨(some 12), .mv (.t 106) true, none⟩] [0, 1, 2, 3, 9, 10, 12]) (.block 6 l_slices_partialInsertionSortCmpFunc_int_2))
 .skip)))))))) (.reg [⟨(some 17), .mv (.t 10) true, none⟩,
  ⟨(some 18), .bin .add .int (.t 17) (.c (.int .i64 1)), none⟩,
  ⟨(some 10), .mv (.t 18) true, none⟩] [0, 1, 2, 3, 9, 10])))
def l_slices_partialInsertionSortCmpFunc_int_3 : ACode := .loop [0, 1, 2, 3, 9, 10] [] bl_slices_partialInsertionSortCmpFunc_int_3
theorem L_slices_partialInsertionSortCmpFunc_int_3 {T : Table} (ks : List Kt) (e : Env) (h : Heap) (Q : Ex → Env → Heap → Prop) : Xc T l_slices_partialInsertionSortCmpFunc_int_3 ks e h Q = Xc T bl_slices_partialInsertionSortCmpFunc_int_3 (.seq l_slices_partialInsertionSortCmpFunc_int_3 :: ks) (e.keep [0, 1, 2, 3, 9, 10]) h Q := Xc_loop ks _ e h Q _ _
def k_slices_partialInsertionSortCmpFunc_int : ACode := (.seq (.reg [⟨(some 8), .mv (.c (.bool false)) false, none⟩] [0, 1, 2, 3]) (.seq (.reg [⟨(some 13), .mv (.t 1) false, none⟩,
  ⟨(some 14), .bin .add .int (.t 13) (.c (.int .i64 1)), none⟩,
  ⟨(some 9), .mv (.t 14) true, none⟩] [0, 1, 2, 3, 9]) (.seq (.seq (.reg [⟨(some 10), .mv (.c (.int .i64 0)) false, none⟩] [0, 1, 2, 3, 9, 10]) (.block 0 l_slices_partialInsertionSortCmpFunc_int_3)) (.seq (.reg [⟨(some 8), .mv (.c (.bool false)) false, none⟩] [8]) .ret))))
def c_slices_partialInsertionSortCmpFunc_int : AFunc := ⟨k_slices_partialInsertionSortCmpFunc_int, 141, [.t 8], [], [], []⟩
-- 105: slices.partitionEqualCmpFunc[int]
def bl_slices_partitionEqualCmpFunc_int_0 : ACode := (.seq (.seq (.regd [⟨(some 31), .mv (.t 11) false, none⟩,
  ⟨(some 32), .mv (.t 12) false, none⟩,
  ⟨(some 33), .bin .leq .int (.t 31) (.t 32), none⟩,
  ⟨(some 34), .mv (.t 33) false, none⟩,
  ⟨(some 35), .mv (.t 4) false, (some (34, true))⟩,
  ⟨(some 36), .mv (.t 0) false, (some (34, true))⟩,
  ⟨(some 37), .mv (.t 1) false, (some (34, true))⟩,
  ⟨(some 38), .ia (.sl 1) (.t 36) (.t 37), (some (34, true))⟩,
  ⟨(some 39), .load 0 (.t 38), (some (34, true))⟩,
  ⟨(some 40), .mv (.t 0) false, (some (34, true))⟩,
  ⟨(some 41), .mv (.t 11) false, (some (34, true))⟩,
  ⟨(some 42), .ia (.sl 1) (.t 40) (.t 41), (some (34, true))⟩,
  ⟨(some 43), .load 0 (.t 42), (some (34, true))⟩,
  ⟨(some 44), .callv (.t 35) [(.t 39), (.t 43)], (some (34, true))⟩,
  ⟨(some 45), .bin .lss .int (.t 44) (.c (.int .i64 0)), (some (34, true))⟩,
  ⟨(some 46), .un .not (.t 45), (some (34, true))⟩,
  ⟨(some 47), .pick (.t 34) (.t 46) (.c (.bool false)), none⟩] [0, 1, 4, 11, 12, 47] [] []) (.cond (.t 47)
 .skip
 (.exit 2))) (.block 3 (.reg [⟨(some 48), .mv (.t 11) true, none⟩,
  ⟨(some 49), .bin .add .int (.t 48) (.c (.int .i64 1)), none⟩,
  ⟨(some 11), .mv (.t 49) true, none⟩] [0, 1, 4, 11, 12])))
def l_slices_partitionEqualCmpFunc_int_0 : ACode := .loop [0, 1, 4, 11, 12] [] bl_slices_partitionEqualCmpFunc_int_0
theorem L_slices_partitionEqualCmpFunc_int_0 {T : Table} (ks : List Kt) (e : Env) (h : Heap) (Q : Ex → Env → Heap → Prop) : Xc T l_slices_partitionEqualCmpFunc_int_0 ks e h Q = Xc T bl_slices_partitionEqualCmpFunc_int_0 (.seq l_slices_partitionEqualCmpFunc_int_0 :: ks) (e.keep [0, 1, 4, 11, 12]) h Q := Xc_loop ks _ e h Q _ _
def bl_slices_partitionEqualCmpFunc_int_1 : ACode := (.seq (.seq (.regd [⟨(some 50), .mv (.t 11) false, none⟩,
  ⟨(some 51), .mv (.t 12) false, none⟩,
  ⟨(some 52), .bin .leq .int (.t 50) (.t 51), none⟩,
  ⟨(some 53), .mv (.t 52) false, none⟩,
  ⟨(some 54), .mv (.t 4) false, (some (53, true))⟩,
  ⟨(some 55), .mv (.t 0) false, (some (53, true))⟩,
  ⟨(some 56), .mv (.t 1) false, (some (53, true))⟩,
  ⟨(some 57), .ia (.sl 1) (.t 55) (.t 56), (some (53, true))⟩,
  ⟨(some 58), .load 0 (.t 57), (some (53, true))⟩,
  ⟨(some 59), .mv (.t 0) false, (some (53, true))⟩,
  ⟨(some 60), .mv (.t 12) false, (some (53, true))⟩,
  ⟨(some 61), .ia (.sl 1) (.t 59) (.t 60), (some (53, true))⟩,
  ⟨(some 62), .load 0 (.t 61), (some (53, true))⟩,
  ⟨(some 63), .callv (.t 54) [(.t 58), (.t 62)], (some (53, true))⟩,
  ⟨(some 64), .bin .lss .int (.t 63) (.c (.int .i64 0)), (some (53, true))⟩,
  ⟨(some 65), .pick (.t 53) (.t 64) (.c (.bool false)), none⟩] [0, 1, 4, 11, 12, 65] [] []) (.cond (.t 65)
 .skip
 (.exit 4))) (.block 5 (.reg [⟨(some 66), .mv (.t 12) true, none⟩,
  ⟨(some 67), .bin .sub .int (.t 66) (.c (.int .i64 1)), none⟩,
  ⟨(some 12), .mv (.t 67) true, none⟩] [0, 1, 4, 11, 12])))
def l_slices_partitionEqualCmpFunc_int_1 : ACode := .loop [0, 1, 4, 11, 12] [] bl_slices_partitionEqualCmpFunc_int_1
theorem L_slices_partitionEqualCmpFunc_int_1 {T : Table} (ks : List Kt) (e : Env) (h : Heap) (Q : Ex → Env → Heap → Prop) : Xc T l_slices_partitionEqualCmpFunc_int_1 ks e h Q = Xc T bl_slices_partitionEqualCmpFunc_int_1 (.seq l_slices_partitionEqualCmpFunc_int_1 :: ks) (e.keep [0, 1, 4, 11, 12]) h Q := Xc_loop ks _ e h Q _ _
def bl_slices_partitionEqualCmpFunc_int_2 : ACode := (.block 1 (.seq (.block 2 l_slices_partitionEqualCmpFunc_int_0) (.seq (.block 4 l_slices_partitionEqualCmpFunc_int_1) (.seq (.seq (.reg [⟨(some 68), .mv (.t 11) false, none⟩,
  ⟨(some 69), .mv (.t 12) false, none⟩,
  ⟨(some 70), .bin .gtr .int (.t 68) (.t 69), none⟩] [0, 1, 4, 11, 12, 70]) (.cond (.t 70)
 (.exit 0)
 .skip)) (.seq (.regd [⟨(some 71), .mv (.t 0) false, none⟩,
  ⟨(some 72), .mv (.t 11) false, none⟩,
  ⟨(some 73), .mv (.t 0) false, none⟩,
  ⟨(some 74), .mv (.t 12) false, none⟩,
  ⟨(some 75), .mv (.t 0) false, none⟩,
  ⟨(some 76), .mv (.t 12) false, none⟩,
  ⟨(some 77), .ia (.sl 1) (.t 75) (.t 76), none⟩,
  ⟨(some 78), .load 0 (.t 77), none⟩,
  ⟨(some 79), .mv (.t 0) false, none⟩,
  ⟨(some 80), .mv (.t 11) false, none⟩,
  ⟨(some 81), .ia (.sl 1) (.t 79) (.t 80), none⟩,
  ⟨(some 82), .load 0 (.t 81), none⟩,
  ⟨(some 83), .ia (.sl 1) (.t 71) (.t 72), none⟩,
  ⟨none, .store 1 (.t 83) (.t 78), none⟩,
  ⟨(some 84), .ia (.sl 1) (.t 73) (.t 74), none⟩,
  ⟨none, .store 1 (.t 84) (.t 82), none⟩] [0, 1, 4, 11, 12] [] []) (.seq (.reg [⟨(some 85), .mv (.t 11) true, none⟩,
  ⟨(some 86), .bin .add .int (.t 85) (.c (.int .i64 1)), none⟩,
  ⟨(some 11), .mv (.t 86) true, none⟩] [0, 1, 4, 11, 12]) (.reg [⟨(some 87), .mv (.t 12) true, none⟩,
  ⟨(some 88), .bin .sub .int (.t 87) (.c (.int .i64 1)), none⟩,
  ⟨(some 12), .mv (.t 88) true, none⟩] [0, 1, 4, 11, 12])))))))
def l_slices_partitionEqualCmpFunc_int_2 : ACode := .loop [0, 1, 4, 11, 12] [] bl_slices_partitionEqualCmpFunc_int_2
theorem L_slices_partitionEqualCmpFunc_int_2 {T : Table} (ks : List Kt) (e : Env) (h : Heap) (Q : Ex → Env → Heap → Prop) : Xc T l_slices_partitionEqualCmpFunc_int_2 ks e h Q = Xc T bl_slices_partitionEqualCmpFunc_int_2 (.seq l_slices_partitionEqualCmpFunc_int_2 :: ks) (e.keep [0, 1, 4, 11, 12]) h Q := Xc_loop ks _ e h Q _ _
def k_slices_partitionEqualCmpFunc_int : ACode := (.seq (.reg [⟨(some 10), .mv (.c (.int .i64 0)) false, none⟩] [0, 1, 2, 3, 4]) (.seq (.regd [⟨(some 13), .mv (.t 0) false, none⟩,
  ⟨(some 14), .mv (.t 1) false, none⟩,
  ⟨(some 15), .mv (.t 0) false, none⟩,
  ⟨(some 16), .mv (.t 3) false, none⟩,
  ⟨(some 17), .mv (.t 0) false, none⟩,
  ⟨(some 18), .mv (.t 3) false, none⟩,
  ⟨(some 19), .ia (.sl 1) (.t 17) (.t 18), none⟩,
  ⟨(some 20), .load 0 (.t 19), none⟩,
  ⟨(some 21), .mv (.t 0) false, none⟩,
  ⟨(some 22), .mv (.t 1) false, none⟩,
  ⟨(some 23), .ia (.sl 1) (.t 21) (.t 22), none⟩,
  ⟨(some 24), .load 0 (.t 23), none⟩,
  ⟨(some 25), .ia (.sl 1) (.t 13) (.t 14), none⟩,
  ⟨none, .store 1 (.t 25) (.t 20), none⟩,
  ⟨(some 26), .ia (.sl 1) (.t 15) (.t 16), none⟩,
  ⟨none, .store 1 (.t 26) (.t 24), none⟩] [0, 1, 2, 4] [] []) (.seq (.reg [⟨(some 27), .mv (.t 1) false, none⟩,
  ⟨(some 28), .bin .add .int (.t 27) (.c (.int .i64 1)), none⟩,
  ⟨(some 29), .mv (.t 2) true, none⟩,
  ⟨(some 30), .bin .sub .int (.t 29) (.c (.int .i64 1)), none⟩,
  ⟨(some 11), .mv (.t 28) true, none⟩,
  ⟨(some 12), .mv (.t 30) true, none⟩] [0, 1, 4, 11, 12]) (.seq (.block 0 l_slices_partitionEqualCmpFunc_int_2) (.seq (.reg [⟨(some 89), .mv (.t 11) true, none⟩,
  ⟨(some 10), .mv (.t 89) true, none⟩] [10]) .ret)))))
def c_slices_partitionEqualCmpFunc_int : AFunc := ⟨k_slices_partitionEqualCmpFunc_int, 90, [.t 10], [], [], []⟩
-- 106: slices.partitionCmpFunc[int]
def bl_slices_partitionCmpFunc_int_0 : ACode := (.seq (.seq (.regd [⟨(some 32), .mv (.t 12) false, none⟩,
  ⟨(some 33), .mv (.t 13) false, none⟩,
  ⟨(some 34), .bin .leq .int (.t 32) (.t 33), none⟩,
  ⟨(some 35), .mv (.t 34) false, none⟩,
  ⟨(some 36), .mv (.t 4) false, (some (35, true))⟩,
  ⟨(some 37), .mv (.t 0) false, (some (35, true))⟩,
  ⟨(some 38), .mv (.t 12) false, (some (35, true))⟩,
  ⟨(some 39), .ia (.sl 1) (.t 37) (.t 38), (some (35, true))⟩,
  ⟨(some 40), .load 0 (.t 39), (some (35, true))⟩,
  ⟨(some 41), .mv (.t 0) false, (some (35, true))⟩,
  ⟨(some 42), .mv (.t 1) false, (some (35, true))⟩,
  ⟨(some 43), .ia (.sl 1) (.t 41) (.t 42), (some (35, true))⟩,
  ⟨(some 44), .load 0 (.t 43), (some (35, true))⟩,
  ⟨(some 45), .callv (.t 36) [(.t 40), (.t 44)], (some (35, true))⟩,
  ⟨(some 46), .bin .lss .int (.t 45) (.c (.int .i64 0)), (some (35, true))⟩,
  ⟨(some 47), .pick (.t 35) (.t 46) (.c (.bool false)), none⟩] [0, 1, 4, 12, 13, 47] [] []) (.cond (.t 47)
 .skip
 (.exit 0))) (.block 1 (.reg [⟨(some 48), .mv (.t 12) true, none⟩,
  ⟨(some 49), .bin .add .int (.t 48) (.c (.int .i64 1)), none⟩,
  ⟨(some 12), .mv (.t 49) true, none⟩] [0, 1, 4, 12, 13])))
def l_slices_partitionCmpFunc_int_0 : ACode := .loop [0, 1, 4, 12, 13] [] bl_slices_partitionCmpFunc_int_0
theorem L_slices_partitionCmpFunc_int_0 {T : Table} (ks : List Kt) (e : Env) (h : Heap) (Q : Ex → Env → Heap → Prop) : Xc T l_slices_partitionCmpFunc_int_0 ks e h Q = Xc T bl_slices_partitionCmpFunc_int_0 (.seq l_slices_partitionCmpFunc_int_0 :: ks) (e.keep [0, 1, 4, 12, 13]) h Q := Xc_loop ks _ e h Q _ _
def bl_slices_partitionCmpFunc_int_1 : ACode := (.seq (.seq (.regd [⟨(some 50), .mv (.t 12) false, none⟩,
  ⟨(some 51), .mv (.t 13) false, none⟩,
  ⟨(some 52), .bin .leq .int (.t 50) (.t 51), none⟩,
  ⟨(some 53), .mv (.t 52) false, none⟩,
  ⟨(some 54), .mv (.t 4) false, (some (53, true))⟩,
  ⟨(some 55), .mv (.t 0) false, (some (53, true))⟩,
  ⟨(some 56), .mv (.t 13) false, (some (53, true))⟩,
  ⟨(some 57), .ia (.sl 1) (.t 55) (.t 56), (some (53, true))⟩,
  ⟨(some 58), .load 0 (.t 57), (some (53, true))⟩,
  ⟨(some 59), .mv (.t 0) false, (some (53, true))⟩,
  ⟨(some 60), .mv (.t 1) false, (some (53, true))⟩,
  ⟨(some 61), .ia (.sl 1) (.t 59) (.t 60), (some (53, true))⟩,
  ⟨(some 62), .load 0 (.t 61), (some (53, true))⟩,
  ⟨(some 63), .callv (.t 54) [(.t 58), (.t 62)], (some (53, true))⟩,
  ⟨(some 64), .bin .lss .int (.t 63) (.c (.int .i64 0)), (some (53, true))⟩,
  ⟨(some 65), .un .not (.t 64), (some (53, true))⟩,
  ⟨(some 66), .pick (.t 53) (.t 65) (.c (.bool false)), none⟩] [0, 1, 4, 12, 13, 66] [] []) (.cond (.t 66)
 .skip
 (.exit 2))) (.block 3 (.reg [⟨(some 67), .mv (.t 13) true, none⟩,
  ⟨(some 68), .bin .sub .int (.t 67) (.c (.int .i64 1)), none⟩,
  ⟨(some 13), .mv (.t 68) true, none⟩] [0, 1, 4, 12, 13])))
def l_slices_partitionCmpFunc_int_1 : ACode := .loop [0, 1, 4, 12, 13] [] bl_slices_partitionCmpFunc_int_1
theorem L_slices_partitionCmpFunc_int_1 {T : Table} (ks : List Kt) (e : Env) (h : Heap) (Q : Ex → Env → Heap → Prop) : Xc T l_slices_partitionCmpFunc_int_1 ks e h Q = Xc T bl_slices_partitionCmpFunc_int_1 (.seq l_slices_partitionCmpFunc_int_1 :: ks) (e.keep [0, 1, 4, 12, 13]) h Q := Xc_loop ks _ e h Q _ _
def bl_slices_partitionCmpFunc_int_2 : ACode := (.seq (.seq (.regd [⟨(some 105), .mv (.t 12) false, none⟩,
  ⟨(some 106), .mv (.t 13) false, none⟩,
  ⟨(some 107), .bin .leq .int (.t 105) (.t 106), none⟩,
  ⟨(some 108), .mv (.t 107) false, none⟩,
  ⟨(some 109), .mv (.t 4) false, (some (108, true))⟩,
  ⟨(some 110), .mv (.t 0) false, (some (108, true))⟩,
  ⟨(some 111), .mv (.t 12) false, (some (108, true))⟩,
  ⟨(some 112), .ia (.sl 1) (.t 110) (.t 111), (some (108, true))⟩,
  ⟨(some 113), .load 0 (.t 112), (some (108, true))⟩,
  ⟨(some 114), .mv (.t 0) false, (some (108, true))⟩,
  ⟨(some 115), .mv (.t 1) false, (some (108, true))⟩,
  ⟨(some 116), .ia (.sl 1) (.t 114) (.t 115), (some (108, true))⟩,
  ⟨(some 117), .load 0 (.t 116), (some (108, true))⟩,
  ⟨(some 118), .callv (.t 109) [(.t 113), (.t 117)], (some (108, true))⟩,
  ⟨(some 119), .bin .lss .int (.t 118) (.c (.int .i64 0)), (some (108, true))⟩,
  ⟨(some 120), .pick (.t 108) (.t 119) (.c (.bool false)), none⟩] [0, 1, 4, 12, 13, 120] [] []) (.cond (.t 120)
 .skip
 (.exit 6))) (.block 7 (.reg [⟨(some 121), .mv (.t 12) true, none⟩,
  ⟨(some 122), .bin .add .int (.t 121) (.c (.int .i64 1)), none⟩,
  ⟨(some 12), .mv (.t 122) true, none⟩] [0, 1, 4, 12, 13])))
def l_slices_partitionCmpFunc_int_2 : ACode := .loop [0, 1, 4, 12, 13] [] bl_slices_partitionCmpFunc_int_2
theorem L_slices_partitionCmpFunc_int_2 {T : Table} (ks : List Kt) (e : Env) (h : Heap) (Q : Ex → Env → Heap → Prop) : Xc T l_slices_partitionCmpFunc_int_2 ks e h Q = Xc T bl_slices_partitionCmpFunc_int_2 (.seq l_slices_partitionCmpFunc_int_2 :: ks) (e.keep [0, 1, 4, 12, 13]) h Q := Xc_loop ks _ e h Q _ _
def bl_slices_partitionCmpFunc_int_3 : ACode := (.seq (.seq (.regd [⟨(some 123), .mv (.t 12) false, none⟩,
  ⟨(some 124), .mv (.t 13) false, none⟩,
  ⟨(some 125), .bin .leq .int (.t 123) (.t 124), none⟩,
  ⟨(some 126), .mv (.t 125) false, none⟩,
  ⟨(some 127), .mv (.t 4) false, (some (126, true))⟩,
  ⟨(some 128), .mv (.t 0) false, (some (126, true))⟩,
  ⟨(some 129), .mv (.t 13) false, (some (126, true))⟩,
  ⟨(some 130), .ia (.sl 1) (.t 128) (.t 129), (some (126, true))⟩,
  ⟨(some 131), .load 0 (.t 130), (some (126, true))⟩,
  ⟨(some 132), .mv (.t 0) false, (some (126, true))⟩,
  ⟨(some 133), .mv (.t 1) false, (some (126, true))⟩,
  ⟨(some 134), .ia (.sl 1) (.t 132) (.t 133), (some (126, true))⟩,
  ⟨(some 135), .load 0 (.t 134), (some (126, true))⟩,
  ⟨(some 136), .callv (.t 127) [(.t 131), (.t 135)], (some (126, true))⟩,
  ⟨(some 137), .bin .lss .int (.t 136) (.c (.int .i64 0)), (some (126, true))⟩,
  ⟨(some 138), .un .not (.t 137), (some (126, true))⟩,
  ⟨(some 139), .pick (.t 126) (.t 138) (.c (.bool false)), none⟩] [0, 1, 4, 12, 13, 139] [] []) (.cond (.t 139)
 .skip
 (.exit 8))) (.block 9 (.reg [⟨(some 140), .mv (.t 13) true, none⟩,
  ⟨(some 141), .bin .sub .int (.t 140) (.c (.int .i64 1)), none⟩,
  ⟨(some 13), .mv (.t 141) true, none⟩] [0, 1, 4, 12, 13])))
def l_slices_partitionCmpFunc_int_3 : ACode := .loop [0, 1, 4, 12, 13] [] bl_slices_partitionCmpFunc_int_3
theorem L_slices_partitionCmpFunc_int_3 {T : Table} (ks : List Kt) (e : Env) (h : Heap) (Q : Ex → Env → Heap → Prop) : Xc T l_slices_partitionCmpFunc_int_3 ks e h Q = Xc T bl_slices_partitionCmpFunc_int_3 (.seq l_slices_partitionCmpFunc_int_3 :: ks) (e.keep [0, 1, 4, 12, 13]) h Q := Xc_loop ks _ e h Q _ _
def bl_slices_partitionCmpFunc_int_4 : ACode := (.block 5 (.seq (.block 6 l_slices_partitionCmpFunc_int_2) (.seq (.block 8 l_slices_partitionCmpFunc_int_3) (.seq (.seq (.reg [⟨(some 142), .mv (.t 12) false, none⟩,
  ⟨(some 143), .mv (.t 13) false, none⟩,
  ⟨(some 144), .bin .gtr .int (.t 142) (.t 143), none⟩] [0, 1, 4, 12, 13, 144]) (.cond (.t 144)
 (.exit 4)
 .skip)) (.seq (.regd [⟨(some 145), .mv (.t 0) false, none⟩,
  ⟨(some 146), .mv (.t 12) false, none⟩,
  ⟨(some 147), .mv (.t 0) false, none⟩,
  ⟨(some 148), .mv (.t 13) false, none⟩,
  ⟨(some 149), .mv (.t 0) false, none⟩,
  ⟨(some 150), .mv (.t 13) false, none⟩,
  ⟨(some 151), .ia (.sl 1) (.t 149) (.t 150), none⟩,
  ⟨(some 152), .load 0 (.t 151), none⟩,
  ⟨(some 153), .mv (.t 0) false, none⟩,
  ⟨(some 154), .mv (.t 12) false, none⟩,
  ⟨(some 155), .ia (.sl 1) (.t 153) (.t 154), none⟩,
  ⟨(some 156), .load 0 (.t 155), none⟩,
  ⟨(some 157), .ia (.sl 1) (.t 145) (.t 146), none⟩,
  ⟨none, .store 1 (.t 157) (.t 152), none⟩,
  ⟨(some 158), .ia (.sl 1) (.t 147) (.t 148), none⟩,
  ⟨none, .store 1 (.t 158) (.t 156), none⟩] [0, 1, 4, 12, 13] [] []) (.seq (.reg [⟨(some 159), .mv (.t 12) true, none⟩,
  ⟨(some 160), .bin .add .int (.t 159) (.c (.int .i64 1)), none⟩,
  ⟨(some 12), .mv (.t 160) true, none⟩] [0, 1, 4, 12, 13]) (.reg [⟨(some 161), .mv (.t 13) true, none⟩,
  ⟨(some 162), .bin .sub .int (.t 161) (.c (.int .i64 1)), none⟩,
  ⟨(some 13), .mv (.t 162) true, none⟩] [0, 1, 4, 12, 13])))))))
def l_slices_partitionCmpFunc_int_4 : ACode := .loop [0, 1, 4, 12, 13] [] bl_slices_partitionCmpFunc_int_4
theorem L_slices_partitionCmpFunc_int_4 {T : Table} (ks : List Kt) (e : Env) (h : Heap) (Q : Ex → Env → Heap → Prop) : Xc T l_slices_partitionCmpFunc_int_4 ks e h Q = Xc T bl_slices_partitionCmpFunc_int_4 (.seq l_slices_partitionCmpFunc_int_4 :: ks) (e.keep [0, 1, 4, 12, 13]) h Q := Xc_loop ks _ e h Q _ _
def k_slices_partitionCmpFunc_int : ACode := (.seq (.reg [⟨(some 10), .mv (.c (.int .i64 0)) false, none⟩,
  ⟨(some 11), .mv (.c (.bool false)) false, none⟩] [0, 1, 2, 3, 4]) (.seq (.regd [⟨(some 14), .mv (.t 0) false, none⟩,
  ⟨(some 15), .mv (.t 1) false, none⟩,
  ⟨(some 16), .mv (.t 0) false, none⟩,
  ⟨(some 17), .mv (.t 3) false, none⟩,
  ⟨(some 18), .mv (.t 0) false, none⟩,
  ⟨(some 19), .mv (.t 3) false, none⟩,
  ⟨(some 20), .ia (.sl 1) (.t 18) (.t 19), none⟩,
  ⟨(some 21), .load 0 (.t 20), none⟩,
  ⟨(some 22), .mv (.t 0) false, none⟩,
  ⟨(some 23), .mv (.t 1) false, none⟩,
  ⟨(some 24), .ia (.sl 1) (.t 22) (.t 23), none⟩,
  ⟨(some 25), .load 0 (.t 24), none⟩,
  ⟨(some 26), .ia (.sl 1) (.t 14) (.t 15), none⟩,
  ⟨none, .store 1 (.t 26) (.t 21), none⟩,
  ⟨(some 27), .ia (.sl 1) (.t 16) (.t 17), none⟩,
  ⟨none, .store 1 (.t 27) (.t 25), none⟩] [0, 1, 2, 4] [] []) (.seq (.reg [⟨(some 28), .mv (.t 1) false, none⟩,
  ⟨(some 29), .bin .add .int (.t 28) (.c (.int .i64 1)), none⟩,
  ⟨(some 30), .mv (.t 2) true, none⟩,
  ⟨(some 31), .bin .sub .int (.t 30) (.c (.int .i64 1)), none⟩,
  ⟨(some 12), .mv (.t 29) true, none⟩,
  ⟨(some 13), .mv (.t 31) true, none⟩] [0, 1, 4, 12, 13]) (.seq (.block 0 l_slices_partitionCmpFunc_int_0) (.seq (.block 2 l_slices_partitionCmpFunc_int_1) (.seq (.seq (.reg [⟨(some 69), .mv (.t 12) false, none⟩,
  ⟨(some 70), .mv (.t 13) false, none⟩,
  ⟨(some 71), .bin .gtr .int (.t 69) (.t 70), none⟩] [0, 1, 4, 12, 13, 71]) (.cond (.t 71)
 (.seq (.regd [⟨(some 72), .mv (.t 0) false, none⟩,
  ⟨(some 73), .mv (.t 13) false, none⟩,
  ⟨(some 74), .mv (.t 0) false, none⟩,
  ⟨(some 75), .mv (.t 1) false, none⟩,
  ⟨(some 76), .mv (.t 0) false, none⟩,
  ⟨(some 77), .mv (.t 1) false, none⟩,
  ⟨(some 78), .ia (.sl 1) (.t 76) (.t 77), none⟩,
  ⟨(some 79), .load 0 (.t 78), none⟩,
  ⟨(some 80), .mv (.t 0) false, none⟩,
  ⟨(some 81), .mv (.t 13) false, none⟩,
  ⟨(some 82), .ia (.sl 1) (.t 80) (.t 81), none⟩,
  ⟨(some 83), .load 0 (.t 82), none⟩,
  ⟨(some 84), .ia (.sl 1) (.t 72) (.t 73), none⟩,
  ⟨none, .store 1 (.t 84) (.t 79), none⟩,
  ⟨(some 85), .ia (.sl 1) (.t 74) (.t 75), none⟩,
  ⟨none, .store 1 (.t 85) (.t 83), none⟩] [13] [] []) (.seq (.reg [⟨(some 86), .mv (.t 13) true, none⟩,
  ⟨(some 10), .mv (.t 86) true, none⟩,
  ⟨(some 11), .mv (.c (.bool true)) false, none⟩] [10, 11]) .ret))
 .skip)) (.seq (.regd [⟨(some 87), .mv (.t 0) false, none⟩,
  ⟨(some 88), .mv (.t 12) false, none⟩,
  ⟨(some 89), .mv (.t 0) false, none⟩,
  ⟨(some 90), .mv (.t 13) false, none⟩,
  ⟨(some 91), .mv (.t 0) false, none⟩,
  ⟨(some 92), .mv (.t 13) false, none⟩,
  ⟨(some 93), .ia (.sl 1) (.t 91) (.t 92), none⟩,
  ⟨(some 94), .load 0 (.t 93), none⟩,
  ⟨(some 95), .mv (.t 0) false, none⟩,
  ⟨(some 96), .mv (.t 12) false, none⟩,
  ⟨(some 97), .ia (.sl 1) (.t 95) (.t 96), none⟩,
  ⟨(some 98), .load 0 (.t 97), none⟩,
  ⟨(some 99), .ia (.sl 1) (.t 87) (.t 88), none⟩,
  ⟨none, .store 1 (.t 99) (.t 94), none⟩,
  ⟨(some 100), .ia (.sl 1) (.t 89) (.t 90), none⟩,
  ⟨none, .store 1 (.t 100) (.t 98), none⟩] [0, 1, 4, 12, 13] [] []) (.seq (.reg [⟨(some 101), .mv (.t 12) true, none⟩,
  ⟨(some 102), .bin .add .int (.t 101) (.c (.int .i64 1)), none⟩,
  ⟨(some 12), .mv (.t 102) true, none⟩] [0, 1, 4, 12, 13]) (.seq (.reg [⟨(some 103), .mv (.t 13) true, none⟩,
  ⟨(some 104), .bin .sub .int (.t 103) (.c (.int .i64 1)), none⟩,
  ⟨(some 13), .mv (.t 104) true, none⟩] [0, 1, 4, 12, 13]) (.seq (.block 4 l_slices_partitionCmpFunc_int_4) (.seq (.regd [⟨(some 163), .mv (.t 0) false, none⟩,
  ⟨(some 164), .mv (.t 13) false, none⟩,
  ⟨(some 165), .mv (.t 0) false, none⟩,
  ⟨(some 166), .mv (.t 1) false, none⟩,
  ⟨(some 167), .mv (.t 0) false, none⟩,
  ⟨(some 168), .mv (.t 1) false, none⟩,
  ⟨(some 169), .ia (.sl 1) (.t 167) (.t 168), none⟩,
  ⟨(some 170), .load 0 (.t 169), none⟩,
  ⟨(some 171), .mv (.t 0) false, none⟩,
  ⟨(some 172), .mv (.t 13) false, none⟩,
  ⟨(some 173), .ia (.sl 1) (.t 171) (.t 172), none⟩,
  ⟨(some 174), .load 0 (.t 173), none⟩,
  ⟨(some 175), .ia (.sl 1) (.t 163) (.t 164), none⟩,
  ⟨none, .store 1 (.t 175) (.t 170), none⟩,
  ⟨(some 176), .ia (.sl 1) (.t 165) (.t 166), none⟩,
  ⟨none, .store 1 (.t 176) (.t 174), none⟩] [13] [] []) (.seq (.reg [⟨(some 177), .mv (.t 13) true, none⟩,
  ⟨(some 10), .mv (.t 177) true, none⟩,
  ⟨(some 11), .mv (.c (.bool false)) false, none⟩] [10, 11]) .ret))))))))))))
def c_slices_partitionCmpFunc_int : AFunc := ⟨k_slices_partitionCmpFunc_int, 178, [.t 10, .t 11], [], [], []⟩
-- 95: slices.pdqsortCmpFunc[int]
def bl_slices_pdqsortCmpFunc_int_0 : ACode := (.block 1 (.seq (.reg [⟨(some 21), .mv (.t 2) false, none⟩,
  ⟨(some 22), .mv (.t 1) false, none⟩,
  ⟨(some 23), .bin .sub .int (.t 21) (.t 22), none⟩,
  ⟨(some 12), .mv (.t 23) true, none⟩] [0, 1, 2, 3, 4, 10, 11, 12]) (.seq (.seq (.reg [⟨(some 24), .mv (.t 12) false, none⟩,
  ⟨(some 25), .bin .leq .int (.t 24) (.c (.int .i64 12)), none⟩] [0, 1, 2, 3, 4, 10, 11, 12, 25]) (.cond (.t 25)
 (.seq (.reg [⟨(some 26), .mv (.t 0) true, none⟩,
  ⟨(some 27), .mv (.t 1) true, none⟩,
  ⟨(some 28), .mv (.t 2) true, none⟩,
  ⟨(some 29), .mv (.t 4) true, none⟩,
  ⟨(some 30), .callh f_slices_insertionSortCmpFunc_int [(.t 26), (.t 27), (.t 28), (.t 29)], none⟩] []) .ret)
 .skip)) (.seq (.seq (.reg [⟨(some 31), .mv (.t 3) false, none⟩,
  ⟨(some 32), .bin .eql .int (.t 31) (.c (.int .i64 0)), none⟩] [0, 1, 2, 3, 4, 10, 11, 12, 32]) (.cond (.t 32)
 (.seq (.reg [⟨(some 33), .mv (.t 0) true, none⟩,
  ⟨(some 34), .mv (.t 1) true, none⟩,
  ⟨(some 35), .mv (.t 2) true, none⟩,
  ⟨(some 36), .mv (.t 4) true, none⟩,
  ⟨(some 37), .callh f_slices_heapSortCmpFunc_int [(.t 33), (.t 34), (.t 35), (.t 36)], none⟩] []) .ret)
 .skip)) (.seq (.seq (.reg [⟨(some 38), .mv (.t 10) false, none⟩,
  ⟨(some 39), .un .not (.t 38), none⟩] [0, 1, 2, 3, 4, 10, 11, 12, 39]) (.cond (.t 39)
 (.seq (.reg [⟨(some 40), .mv (.t 0) false, none⟩,
  ⟨(some 41), .mv (.t 1) false, none⟩,
  ⟨(some 42), .mv (.t 2) false, none⟩,
  ⟨(some 43), .mv (.t 4) false, none⟩,
  ⟨(some 44), .callh f_slices_breakPatternsCmpFunc_int [(.t 40), (.t 41), (.t 42), (.t 43)], none⟩] [0, 1, 2, 3, 4, 10, 11, 12]) (.reg [⟨(some 45), .mv (.t 3) true, none⟩,
  ⟨(some 46), .bin .sub .int (.t 45) (.c (.int .i64 1)), none⟩,
  ⟨(some 3), .mv (.t 46) true, none⟩] [0, 1, 2, 3, 4, 10, 11, 12]))
 .skip)) (.seq (.reg [⟨(some 48), .mv (.t 0) false, none⟩,
  ⟨(some 49), .mv (.t 1) false, none⟩,
  ⟨(some 50), .mv (.t 2) false, none⟩,
  ⟨(some 51), .mv (.t 4) false, none⟩,
  ⟨(some 52), .callh f_slices_choosePivotCmpFunc_int [(.t 48), (.t 49), (.t 50), (.t 51)], none⟩,
  ⟨(some 47), .mv (.t 52) true, none⟩,
  ⟨(some 53), .ext (.t 47) 0, none⟩,
  ⟨(some 54), .ext (.t 47) 1, none⟩,
  ⟨(some 13), .mv (.t 53) true, none⟩,
  ⟨(some 14), .mv (.t 54) true, none⟩] [0, 1, 2, 3, 4, 10, 11, 12, 13, 14]) (.seq (.seq (.reg [⟨(some 55), .mv (.t 14) false, none⟩,
  ⟨(some 56), .bin .eql .int (.t 55) (.c (.int .i64 2)), none⟩] [0, 1, 2, 3, 4, 10, 11, 12, 13, 14, 56]) (.cond (.t 56)
 (.seq (.reg [⟨(some 57), .mv (.t 0) false, none⟩,
  ⟨(some 58), .mv (.t 1) false, none⟩,
  ⟨(some 59), .mv (.t 2) false, none⟩,
  ⟨(some 60), .mv (.t 4) false, none⟩,
  ⟨(some 61), .callh f_slices_reverseRangeCmpFunc_int [(.t 57), (.t 58), (.t 59), (.t 60)], none⟩] [0, 1, 2, 3, 4, 10, 11, 12, 13]) (.seq (.reg [⟨(some 62), .mv (.t 2) false, none⟩,
  ⟨(some 63), .bin .sub .int (.t 62) (.c (.int .i64 1)), none⟩,
  ⟨(some 64), .mv (.t 13) true, none⟩,
  ⟨(some 65), .mv (.t 1) false, none⟩,
  ⟨(some 66), .bin .sub .int (.t 64) (.t 65), none⟩,
  ⟨(some 67), .bin .sub .int (.t 63) (.t 66), none⟩,
  ⟨(some 13), .mv (.t 67) true, none⟩] [0, 1, 2, 3, 4, 10, 11, 12, 13]) (.reg [⟨(some 14), .mv (.c (.int .i64 1)) false, none⟩] [0, 1, 2, 3, 4, 10, 11, 12, 13, 14])))
 .skip)) (.seq (.seq (.reg [⟨(some 68), .mv (.t 10) false, none⟩,
  ⟨(some 69), .mv (.t 68) true, none⟩,
  ⟨(some 70), .mv (.t 11) false, (some (69, true))⟩,
  ⟨(some 71), .pick (.t 69) (.t 70) (.c (.bool false)), none⟩,
  ⟨(some 72), .mv (.t 71) true, none⟩,
  ⟨(some 73), .mv (.t 14) true, (some (72, true))⟩,
  ⟨(some 74), .bin .eql .int (.t 73) (.c (.int .i64 1)), (some (72, true))⟩,
  ⟨(some 75), .pick (.t 72) (.t 74) (.c (.bool false)), none⟩] [0, 1, 2, 3, 4, 10, 11, 12, 13, 75]) (.cond (.t 75)
 (.seq (.reg [⟨(some 76), .mv (.t 0) false, none⟩,
  ⟨(some 77), .mv (.t 1) false, none⟩,
  ⟨(some 78), .mv (.t 2) false, none⟩,
  ⟨(some 79), .mv (.t 4) false, none⟩,
  ⟨(some 80), .callh f_slices_partialInsertionSortCmpFunc_int [(.t 76), (.t 77), (.t 78), (.t 79)], none⟩] [0, 1, 2, 3, 4, 10, 11, 12, 13, 80]) (.cond (.t 80)
 .ret
 .skip))
 .skip)) (.seq (.seq (.regd [⟨(some 81), .mv (.t 1) false, none⟩,
  ⟨(some 82), .bin .gtr .int (.t 81) (.c (.int .i64 0)), none⟩,
  ⟨(some 83), .mv (.t 82) false, none⟩,
  ⟨(some 84), .mv (.t 4) false, (some (83, true))⟩,
  ⟨(some 85), .mv (.t 0) false, (some (83, true))⟩,
  ⟨(some 86), .mv (.t 1) false, (some (83, true))⟩,
  ⟨(some 87), .bin .sub .int (.t 86) (.c (.int .i64 1)), (some (83, true))⟩,
  ⟨(some 88), .ia (.sl 1) (.t 85) (.t 87), (some (83, true))⟩,
  ⟨(some 89), .load 0 (.t 88), (some (83, true))⟩,
  ⟨(some 90), .mv (.t 0) false, (some (83, true))⟩,
  ⟨(some 91), .mv (.t 13) false, (some (83, true))⟩,
  ⟨(some 92), .ia (.sl 1) (.t 90) (.t 91), (some (83, true))⟩,
  ⟨(some 93), .load 0 (.t 92), (some (83, true))⟩,
  ⟨(some 94), .callv (.t 84) [(.t 89), (.t 93)], (some (83, true))⟩,
  ⟨(some 95), .bin .lss .int (.t 94) (.c (.int .i64 0)), (some (83, true))⟩,
  ⟨(some 96), .un .not (.t 95), (some (83, true))⟩,
  ⟨(some 97), .pick (.t 83) (.t 96) (.c (.bool false)), none⟩] [0, 1, 2, 3, 4, 10, 11, 12, 13, 97] [] []) (.cond (.t 97)
 (.seq (.reg [⟨(some 98), .mv (.t 0) false, none⟩,
  ⟨(some 99), .mv (.t 1) true, none⟩,
  ⟨(some 100), .mv (.t 2) false, none⟩,
  ⟨(some 101), .mv (.t 13) true, none⟩,
  ⟨(some 102), .mv (.t 4) false, none⟩,
  ⟨(some 103), .callh f_slices_partitionEqualCmpFunc_int [(.t 98), (.t 99), (.t 100), (.t 101), (.t 102)], none⟩,
  ⟨(some 15), .mv (.t 103) true, none⟩] [0, 2, 3, 4, 10, 11, 15]) (.seq (.reg [⟨(some 104), .mv (.t 15) true, none⟩,
  ⟨(some 1), .mv (.t 104) true, none⟩] [0, 1, 2, 3, 4, 10, 11]) (.exit 1)))
 .skip)) (.seq (.reg [⟨(some 106), .mv (.t 0) false, none⟩,
  ⟨(some 107), .mv (.t 1) false, none⟩,
  ⟨(some 108), .mv (.t 2) false, none⟩,
  ⟨(some 109), .mv (.t 13) true, none⟩,
  ⟨(some 110), .mv (.t 4) false, none⟩,
  ⟨(some 111), .callh f_slices_partitionCmpFunc_int [(.t 106), (.t 107), (.t 108), (.t 109), (.t 110)], none⟩,
  ⟨(some 105), .mv (.t 111) true, none⟩,
  ⟨(some 112), .ext (.t 105) 0, none⟩,
  ⟨(some 113), .ext (.t 105) 1, none⟩,
  ⟨(some 16), .mv (.t 112) true, none⟩,
  ⟨(some 17), .mv (.t 113) true, none⟩] [0, 1, 2, 3, 4, 12, 16, 17]) (.seq (.reg [⟨(some 114), .mv (.t 17) true, none⟩,
  ⟨(some 11), .mv (.t 114) true, none⟩] [0, 1, 2, 3, 4, 11, 12, 16]) (.seq (.reg [⟨(some 115), .mv (.t 16) false, none⟩,
  ⟨(some 116), .mv (.t 1) false, none⟩,
  ⟨(some 117), .bin .sub .int (.t 115) (.t 116), none⟩,
  ⟨(some 118), .mv (.t 2) false, none⟩,
  ⟨(some 119), .mv (.t 16) false, none⟩,
  ⟨(some 120), .bin .sub .int (.t 118) (.t 119), none⟩,
  ⟨(some 18), .mv (.t 117) true, none⟩,
  ⟨(some 19), .mv (.t 120) true, none⟩] [0, 1, 2, 3, 4, 11, 12, 16, 18, 19]) (.seq (.reg [⟨(some 121), .mv (.t 12) true, none⟩,
  ⟨(some 122), .bin .quo .int (.t 121) (.c (.int .i64 8)), none⟩,
  ⟨(some 20), .mv (.t 122) true, none⟩] [0, 1, 2, 3, 4, 11, 16, 18, 19, 20]) (.seq (.reg [⟨(some 123), .mv (.t 18) false, none⟩,
  ⟨(some 124), .mv (.t 19) false, none⟩,
  ⟨(some 125), .bin .lss .int (.t 123) (.t 124), none⟩] [0, 1, 2, 3, 4, 11, 16, 18, 19, 20, 125]) (.cond (.t 125)
 (.seq (.reg [⟨(some 126), .mv (.t 18) true, none⟩,
  ⟨(some 127), .mv (.t 20) true, none⟩,
  ⟨(some 128), .bin .geq .int (.t 126) (.t 127), none⟩,
  ⟨(some 10), .mv (.t 128) true, none⟩] [0, 1, 2, 3, 4, 10, 11, 16]) (.seq (.reg [⟨(some 129), .mv (.t 0) false, none⟩,
  ⟨(some 130), .mv (.t 1) true, none⟩,
  ⟨(some 131), .mv (.t 16) false, none⟩,
  ⟨(some 132), .mv (.t 3) false, none⟩,
  ⟨(some 133), .mv (.t 4) false, none⟩,
  ⟨(some 134), .callh f_slices_pdqsortCmpFunc_int [(.t 129), (.t 130), (.t 131), (.t 132), (.t 133)], none⟩] [0, 2, 3, 4, 10, 11, 16]) (.reg [⟨(some 135), .mv (.t 16) true, none⟩,
  ⟨(some 136), .bin .add .int (.t 135) (.c (.int .i64 1)), none⟩,
  ⟨(some 1), .mv (.t 136) true, none⟩] [0, 1, 2, 3, 4, 10, 11])))
 (.seq (.reg [⟨(some 137), .mv (.t 19) true, none⟩,
  ⟨(some 138), .mv (.t 20) true, none⟩,
  ⟨(some 139), .bin .geq .int (.t 137) (.t 138), none⟩,
  ⟨(some 10), .mv (.t 139) true, none⟩] [0, 1, 2, 3, 4, 10, 11, 16]) (.seq (.reg [⟨(some 140), .mv (.t 0) false, none⟩,
  ⟨(some 141), .mv (.t 16) false, none⟩,
  ⟨(some 142), .bin .add .int (.t 141) (.c (.int .i64 1)), none⟩,
  ⟨(some 143), .mv (.t 2) true, none⟩,
  ⟨(some 144), .mv (.t 3) false, none⟩,
  ⟨(some 145), .mv (.t 4) false, none⟩,
  ⟨(some 146), .callh f_slices_pdqsortCmpFunc_int [(.t 140), (.t 142), (.t 143), (.t 144), (.t 145)], none⟩] [0, 1, 3, 4, 10, 11, 16]) (.reg [⟨(some 147), .mv (.t 16) true, none⟩,
  ⟨(some 2), .mv (.t 147) true, none⟩] [0, 1, 2, 3, 4, 10, 11]))))))))))))))))))
def l_slices_pdqsortCmpFunc_int_0 : ACode := .loop [0, 1, 2, 3, 4, 10, 11] [] bl_slices_pdqsortCmpFunc_int_0
theorem L_slices_pdqsortCmpFunc_int_0 {T : Table} (ks : List Kt) (e : Env) (h : Heap) (Q : Ex → Env → Heap → Prop) : Xc T l_slices_pdqsortCmpFunc_int_0 ks e h Q = Xc T bl_slices_pdqsortCmpFunc_int_0 (.seq l_slices_pdqsortCmpFunc_int_0 :: ks) (e.keep [0, 1, 2, 3, 4, 10, 11]) h Q := Xc_loop ks _ e h Q _ _
def k_slices_pdqsortCmpFunc_int : ACode := (.seq (.reg [⟨(some 10), .mv (.c (.bool true)) false, none⟩] [0, 1, 2, 3, 4, 10]) (.seq (.reg [⟨(some 11), .mv (.c (.bool true)) false, none⟩] [0, 1, 2, 3, 4, 10, 11]) (.block 0 l_slices_pdqsortCmpFunc_int_0)))
def c_slices_pdqsortCmpFunc_int : AFunc := ⟨k_slices_pdqsortCmpFunc_int, 148, [], [], [], []⟩
-- 87: slices.SortFunc[[]int,int]

def k_slices_SortFunc_int_int : ACode := (.seq (.reg [⟨(some 5), .mv (.t 0) false, none⟩,
  ⟨(some 6), .len false (.t 5), none⟩,
  ⟨(some 4), .mv (.t 6) true, none⟩] [0, 1, 4]) (.reg [⟨(some 7), .mv (.t 0) true, none⟩,
  ⟨(some 8), .mv (.t 4) false, none⟩,
  ⟨(some 9), .mv (.t 4) true, none⟩,
  ⟨(some 10), .conv (.i .u64) (.t 9), none⟩,
  ⟨(some 11), .callp f_math_bits_Len [(.t 10)] [], none⟩,
  ⟨(some 12), .mv (.t 1) true, none⟩,
  ⟨(some 13), .callh f_slices_pdqsortCmpFunc_int [(.t 7), (.c (.int .i64 0)), (.t 8), (.t 11), (.t 12)], none⟩] []))
def c_slices_SortFunc_int_int : AFunc := ⟨k_slices_SortFunc_int_int, 14, [], [], [], []⟩
-- 64: wagtail/victim.Order

def k_victim_Order : ACode := (.seq (.reg [⟨(some 3), .box (.t 1), none⟩,
  ⟨(some 4), .mv (.c (.hn 1)) false, none⟩] [0, 3]) (.seq (.reg [⟨(some 7), .mv (.t 0) true, none⟩,
  ⟨(some 8), .callh f_slices_Clone_int_int [(.t 7)], none⟩,
  ⟨(some 5), .mv (.t 8) true, none⟩] [3, 5]) (.seq (.reg [⟨(some 9), .mkfn f_victim_Order_1 [(.t 3)], none⟩,
  ⟨(some 6), .alloc [.nilf], none⟩,
  ⟨none, .store 1 (.t 6) (.t 9), none⟩] [5, 6]) (.seq (.reg [⟨(some 10), .mv (.t 5) false, none⟩,
  ⟨(some 11), .mkfn f_victim_Order_2 [(.t 6)], none⟩,
  ⟨(some 12), .callh f_slices_SortFunc_int_int [(.t 10), (.t 11)], none⟩] [5]) (.seq (.reg [⟨(some 13), .mv (.t 5) true, none⟩,
  ⟨(some 4), .mv (.t 13) true, none⟩] [4]) .ret)))))
def c_victim_Order : AFunc := ⟨k_victim_Order, 14, [.t 4], [], [], [(0, false)]⟩
-- 60: wagtail/victim.Pick

def k_victim_Pick : ACode := (.seq (.reg [⟨(some 6), .mv (.c (.int .i64 0)) false, none⟩,
  ⟨(some 7), .mv (.c (.bool false)) false, none⟩] [0, 1, 2]) (.seq (.reg [⟨(some 9), .mv (.t 0) true, none⟩,
  ⟨(some 10), .mv (.t 1) false, none⟩,
  ⟨(some 11), .callp f_victim_Order [(.t 9), (.t 10)] [], none⟩,
  ⟨(some 8), .mv (.t 11) true, none⟩] [1, 2, 8]) (.seq (.seq (.reg [⟨(some 12), .mv (.t 8) false, none⟩,
  ⟨(some 13), .len false (.t 12), none⟩,
  ⟨(some 14), .bin .eql .int (.t 13) (.c (.int .i64 0)), none⟩,
  ⟨(some 15), .mv (.t 14) true, none⟩,
  ⟨(some 16), .mv (.t 1) true, (some (15, false))⟩,
  ⟨(some 17), .mv (.t 8) false, (some (15, false))⟩,
  ⟨(some 18), .ia (.sl 1) (.t 17) (.c (.int .i64 0)), (some (15, false))⟩,
  ⟨(some 19), .load 0 (.t 18), (some (15, false))⟩,
  ⟨(some 20), .callp f_place_Count [(.t 16), (.t 19)] [(0, true)], (some (15, false))⟩,
  ⟨(some 21), .mv (.t 2) true, (some (15, false))⟩,
  ⟨(some 22), .bin .geq .int (.t 20) (.t 21), (some (15, false))⟩,
  ⟨(some 23), .pick (.t 15) (.c (.bool true)) (.t 22), none⟩] [8, 23]) (.cond (.t 23)
 (.seq (.reg [⟨(some 6), .mv (.c (.int .i64 0)) false, none⟩,
  ⟨(some 7), .mv (.c (.bool false)) false, none⟩] [6, 7]) .ret)
 .skip)) (.seq (.reg [⟨(some 24), .mv (.t 8) true, none⟩,
  ⟨(some 25), .ia (.sl 1) (.t 24) (.c (.int .i64 0)), none⟩,
  ⟨(some 26), .load 0 (.t 25), none⟩,
  ⟨(some 6), .mv (.t 26) true, none⟩,
  ⟨(some 7), .mv (.c (.bool true)) false, none⟩] [6, 7]) .ret))))
def c_victim_Pick : AFunc := ⟨k_victim_Pick, 27, [.t 6, .t 7], [], [], []⟩
-- 63: wagtail/victim.Gain

def k_victim_Gain : ACode := (.seq (.reg [⟨(some 6), .mv (.c (.int .i64 0)) false, none⟩] [0, 1, 2]) (.seq (.reg [⟨(some 8), .mv (.t 0) true, none⟩,
  ⟨(some 9), .mv (.t 1) true, none⟩,
  ⟨(some 10), .callp f_place_Count [(.t 8), (.t 9)] [(0, true)], none⟩,
  ⟨(some 7), .mv (.t 10) true, none⟩] [2, 7]) (.seq (.seq (.reg [⟨(some 11), .mv (.t 2) false, none⟩,
  ⟨(some 12), .mv (.t 7) false, none⟩,
  ⟨(some 13), .bin .leq .int (.t 11) (.t 12), none⟩] [2, 7, 13]) (.cond (.t 13)
 (.seq (.reg [⟨(some 6), .mv (.c (.int .i64 0)) false, none⟩] [6]) .ret)
 .skip)) (.seq (.reg [⟨(some 14), .mv (.t 2) true, none⟩,
  ⟨(some 15), .mv (.t 7) true, none⟩,
  ⟨(some 16), .bin .sub .int (.t 14) (.t 15), none⟩,
  ⟨(some 6), .mv (.t 16) true, none⟩] [6]) .ret))))
def c_victim_Gain : AFunc := ⟨k_victim_Gain, 17, [.t 6], [], [], []⟩
-- 65: wagtail/victim.Total
def bl_victim_Total_0 : ACode := (.seq (.reg [⟨(some 13), .bin .lss .int (.t 12) (.t 11), none⟩] [1, 2, 7, 10, 11, 12, 13]) (.seq (.cond (.t 13)
 .skip
 (.exit 0)) (.seq (.block 1 (.seq (.reg [⟨(some 14), .ia (.sl 1) (.t 10) (.t 12), none⟩,
  ⟨(some 15), .load 0 (.t 14), none⟩,
  ⟨(some 9), .mv (.t 15) true, none⟩] [1, 2, 7, 9, 10, 11, 12]) (.reg [⟨(some 16), .mv (.t 7) true, none⟩,
  ⟨(some 17), .mv (.t 1) false, none⟩,
  ⟨(some 18), .mv (.t 9) true, none⟩,
  ⟨(some 19), .mv (.t 2) false, none⟩,
  ⟨(some 20), .callp f_victim_Gain [(.t 17), (.t 18), (.t 19)] [(0, true)], none⟩,
  ⟨(some 21), .bin .add .int (.t 16) (.t 20), none⟩,
  ⟨(some 7), .mv (.t 21) true, none⟩] [1, 2, 7, 10, 11, 12]))) (.reg [⟨(some 22), .bin .add .int (.t 12) (.c (.int .i64 1)), none⟩,
  ⟨(some 12), .mv (.t 22) true, none⟩] [1, 2, 7, 10, 11, 12]))))
def l_victim_Total_0 : ACode := .loop [1, 2, 7, 10, 11, 12] [] bl_victim_Total_0
theorem L_victim_Total_0 {T : Table} (ks : List Kt) (e : Env) (h : Heap) (Q : Ex → Env → Heap → Prop) : Xc T l_victim_Total_0 ks e h Q = Xc T bl_victim_Total_0 (.seq l_victim_Total_0 :: ks) (e.keep [1, 2, 7, 10, 11, 12]) h Q := Xc_loop ks _ e h Q _ _
def k_victim_Total : ACode := (.seq (.reg [⟨(some 6), .mv (.c (.int .i64 0)) false, none⟩] [0, 1, 2]) (.seq (.reg [⟨(some 7), .mv (.c (.int .i64 0)) false, none⟩] [0, 1, 2, 7]) (.seq (.seq (.reg [⟨(some 10), .mv (.t 0) true, none⟩,
  ⟨(some 11), .len false (.t 10), none⟩,
  ⟨(some 12), .mv (.c (.int .i64 0)) false, none⟩] [1, 2, 7, 10, 11, 12]) (.block 0 l_victim_Total_0)) (.seq (.reg [⟨(some 23), .mv (.t 7) true, none⟩,
  ⟨(some 6), .mv (.t 23) true, none⟩] [6]) .ret))))
def c_victim_Total : AFunc := ⟨k_victim_Total, 24, [.t 6], [], [], []⟩
-- 59: wagtail/wagtaillaw22.awake

def k_law22_awake : ACode := (.seq (.reg [⟨(some 0), .mv (.c (.bool false)) false, none⟩] []) (.seq (.reg [⟨(some 4), .build [(.int .i64 0), (.int .i64 0)] [(0, 1, (.c (.int .i64 2)))], none⟩,
  ⟨(some 5), .build [(.int .i64 0), (.int .i64 0)] [(0, 1, (.c (.int .i64 2))), (1, 1, (.c (.int .i64 1)))], none⟩,
  ⟨(some 6), .build [(.int .i64 0), (.int .i64 0)] [(0, 1, (.c (.int .i64 3)))], none⟩,
  ⟨(some 7), .bsl 2 [(.t 4), (.t 5), (.t 6)] false, none⟩,
  ⟨(some 1), .mv (.t 7) true, none⟩] [1]) (.seq (.reg [⟨(some 9), .bsl 1 [(.c (.int .i64 2)), (.c (.int .i64 3))] false, none⟩,
  ⟨(some 10), .mv (.t 1) false, none⟩,
  ⟨(some 11), .callp f_victim_Pick [(.t 9), (.t 10), (.c (.int .i64 4))] [(0, false), (1, true)], none⟩,
  ⟨(some 8), .mv (.t 11) true, none⟩,
  ⟨(some 12), .ext (.t 8) 0, none⟩,
  ⟨(some 13), .ext (.t 8) 1, none⟩,
  ⟨(some 2), .mv (.t 12) true, none⟩,
  ⟨(some 3), .mv (.t 13) true, none⟩] [1, 2, 3]) (.seq (.reg [⟨(some 14), .mv (.t 2) true, none⟩,
  ⟨(some 15), .bin .eql .int (.t 14) (.c (.int .i64 3)), none⟩,
  ⟨(some 16), .mv (.t 15) true, none⟩,
  ⟨(some 17), .mv (.t 3) true, (some (16, true))⟩,
  ⟨(some 18), .pick (.t 16) (.t 17) (.c (.bool false)), none⟩,
  ⟨(some 19), .mv (.t 18) true, none⟩,
  ⟨(some 20), .mv (.t 1) false, (some (19, true))⟩,
  ⟨(some 21), .callp f_victim_Gain [(.t 20), (.c (.int .i64 2)), (.c (.int .i64 4))] [(0, true)], (some (19, true))⟩,
  ⟨(some 22), .bin .eql .int (.t 21) (.c (.int .i64 2)), (some (19, true))⟩,
  ⟨(some 23), .pick (.t 19) (.t 22) (.c (.bool false)), none⟩,
  ⟨(some 24), .mv (.t 23) true, none⟩,
  ⟨(some 25), .bsl 1 [(.c (.int .i64 2)), (.c (.int .i64 3)), (.c (.int .i64 5))] false, (some (24, true))⟩,
  ⟨(some 26), .mv (.t 1) false, (some (24, true))⟩,
  ⟨(some 27), .callp f_victim_Order [(.t 25), (.t 26)] [], (some (24, true))⟩,
  ⟨(some 28), .bsl 1 [(.c (.int .i64 5)), (.c (.int .i64 3)), (.c (.int .i64 2))] false, (some (24, true))⟩,
  ⟨(some 29), .callp f_ref01_Ints [(.t 27), (.t 28)] [(0, false), (1, false)], (some (24, true))⟩,
  ⟨(some 30), .pick (.t 24) (.t 29) (.c (.bool false)), none⟩,
  ⟨(some 31), .mv (.t 30) true, none⟩,
  ⟨(some 32), .bsl 1 [(.c (.int .i64 2)), (.c (.int .i64 3))] false, (some (31, true))⟩,
  ⟨(some 33), .mv (.t 1) true, (some (31, true))⟩,
  ⟨(some 34), .callp f_victim_Total [(.t 32), (.t 33), (.c (.int .i64 4))] [(0, false), (1, true)], (some (31, true))⟩,
  ⟨(some 35), .bin .eql .int (.t 34) (.c (.int .i64 5)), (some (31, true))⟩,
  ⟨(some 36), .pick (.t 31) (.t 35) (.c (.bool false)), none⟩,
  ⟨(some 0), .mv (.t 36) true, none⟩] [0]) .ret))))
def c_law22_awake : AFunc := ⟨k_law22_awake, 37, [.t 0], [], [], []⟩
-- 62: wagtail/wagtailref22.Count
def bl_ref22_Count_0 : ACode := (.seq (.seq (.reg [⟨(some 7), .mv (.t 6) false, none⟩,
  ⟨(some 8), .mv (.t 0) false, none⟩,
  ⟨(some 9), .len false (.t 8), none⟩,
  ⟨(some 10), .bin .lss .int (.t 7) (.t 9), none⟩] [0, 1, 5, 6, 10]) (.cond (.t 10)
 .skip
 (.exit 0))) (.seq (.block 1 (.seq (.reg [⟨(some 13), .mv (.t 0) false, none⟩,
  ⟨(some 14), .mv (.t 6) false, none⟩,
  ⟨(some 15), .ia (.sl 2) (.t 13) (.t 14), none⟩,
  ⟨(some 16), .fa 0 (.t 15), none⟩,
  ⟨(some 17), .load 0 (.t 16), none⟩,
  ⟨(some 18), .mv (.t 1) false, none⟩,
  ⟨(some 19), .bin .eql .int (.t 17) (.t 18), none⟩] [0, 1, 5, 6, 19]) (.cond (.t 19)
 (.reg [⟨(some 20), .mv (.t 5) true, none⟩,
  ⟨(some 21), .bin .add .int (.t 20) (.c (.int .i64 1)), none⟩,
  ⟨(some 5), .mv (.t 21) true, none⟩] [0, 1, 5, 6])
 .skip))) (.reg [⟨(some 11), .mv (.t 6) true, none⟩,
  ⟨(some 12), .bin .add .int (.t 11) (.c (.int .i64 1)), none⟩,
  ⟨(some 6), .mv (.t 12) true, none⟩] [0, 1, 5, 6])))
def l_ref22_Count_0 : ACode := .loop [0, 1, 5, 6] [] bl_ref22_Count_0
theorem L_ref22_Count_0 {T : Table} (ks : List Kt) (e : Env) (h : Heap) (Q : Ex → Env → Heap → Prop) : Xc T l_ref22_Count_0 ks e h Q = Xc T bl_ref22_Count_0 (.seq l_ref22_Count_0 :: ks) (e.keep [0, 1, 5, 6]) h Q := Xc_loop ks _ e h Q _ _
def k_ref22_Count : ACode := (.seq (.reg [⟨(some 4), .mv (.c (.int .i64 0)) false, none⟩] [0, 1]) (.seq (.reg [⟨(some 5), .mv (.c (.int .i64 0)) false, none⟩] [0, 1, 5]) (.seq (.seq (.reg [⟨(some 6), .mv (.c (.int .i64 0)) false, none⟩] [0, 1, 5, 6]) (.block 0 l_ref22_Count_0)) (.seq (.reg [⟨(some 22), .mv (.t 5) true, none⟩,
  ⟨(some 4), .mv (.t 22) true, none⟩] [4]) .ret))))
def c_ref22_Count : AFunc := ⟨k_ref22_Count, 23, [.t 4], [], [], []⟩
-- 61: wagtail/wagtailref22.Pick
def bl_ref22_Pick_0 : ACode := (.seq (.seq (.reg [⟨(some 14), .mv (.t 11) false, none⟩,
  ⟨(some 15), .mv (.t 0) false, none⟩,
  ⟨(some 16), .len false (.t 15), none⟩,
  ⟨(some 17), .bin .lss .int (.t 14) (.t 16), none⟩] [0, 1, 8, 9, 10, 11, 17]) (.cond (.t 17)
 .skip
 (.exit 0))) (.seq (.block 1 (.seq (.reg [⟨(some 20), .mv (.t 1) false, none⟩,
  ⟨(some 21), .mv (.t 0) false, none⟩,
  ⟨(some 22), .mv (.t 11) false, none⟩,
  ⟨(some 23), .ia (.sl 1) (.t 21) (.t 22), none⟩,
  ⟨(some 24), .load 0 (.t 23), none⟩,
  ⟨(some 25), .callp f_ref22_Count [(.t 20), (.t 24)] [(0, true)], none⟩,
  ⟨(some 12), .mv (.t 25) true, none⟩] [0, 1, 8, 9, 10, 11, 12]) (.seq (.reg [⟨(some 26), .mv (.t 12) false, none⟩,
  ⟨(some 27), .mv (.t 9) false, none⟩,
  ⟨(some 28), .bin .lss .int (.t 26) (.t 27), none⟩,
  ⟨(some 29), .mv (.t 28) true, none⟩,
  ⟨(some 30), .mv (.t 10) false, (some (29, false))⟩,
  ⟨(some 31), .mv (.t 30) true, (some (29, false))⟩,
  ⟨(some 32), .mv (.t 12) false, (some (31, true))⟩,
  ⟨(some 33), .mv (.t 9) false, (some (31, true))⟩,
  ⟨(some 34), .bin .eql .int (.t 32) (.t 33), (some (31, true))⟩,
  ⟨(some 35), .pick (.t 31) (.t 34) (.c (.bool false)), (some (29, false))⟩,
  ⟨(some 36), .mv (.t 35) true, (some (29, false))⟩,
  ⟨(some 37), .mv (.t 0) false, (some (36, true))⟩,
  ⟨(some 38), .mv (.t 11) false, (some (36, true))⟩,
  ⟨(some 39), .ia (.sl 1) (.t 37) (.t 38), (some (36, true))⟩,
  ⟨(some 40), .load 0 (.t 39), (some (36, true))⟩,
  ⟨(some 41), .mv (.t 8) false, (some (36, true))⟩,
  ⟨(some 42), .bin .lss .int (.t 40) (.t 41), (some (36, true))⟩,
  ⟨(some 43), .pick (.t 36) (.t 42) (.c (.bool false)), (some (29, false))⟩,
  ⟨(some 44), .pick (.t 29) (.c (.bool true)) (.t 43), none⟩] [0, 1, 8, 9, 10, 11, 12, 44]) (.cond (.t 44)
 (.seq (.reg [⟨(some 45), .mv (.t 0) false, none⟩,
  ⟨(some 46), .mv (.t 11) false, none⟩,
  ⟨(some 47), .ia (.sl 1) (.t 45) (.t 46), none⟩,
  ⟨(some 48), .load 0 (.t 47), none⟩,
  ⟨(some 8), .mv (.t 48) true, none⟩] [0, 1, 8, 11, 12]) (.seq (.reg [⟨(some 49), .mv (.t 12) true, none⟩,
  ⟨(some 9), .mv (.t 49) true, none⟩] [0, 1, 8, 9, 11]) (.reg [⟨(some 10), .mv (.c (.bool true)) false, none⟩] [0, 1, 8, 9, 10, 11])))
 .skip)))) (.reg [⟨(some 18), .mv (.t 11) true, none⟩,
  ⟨(some 19), .bin .add .int (.t 18) (.c (.int .i64 1)), none⟩,
  ⟨(some 11), .mv (.t 19) true, none⟩] [0, 1, 8, 9, 10, 11])))
def l_ref22_Pick_0 : ACode := .loop [0, 1, 8, 9, 10, 11] [] bl_ref22_Pick_0
theorem L_ref22_Pick_0 {T : Table} (ks : List Kt) (e : Env) (h : Heap) (Q : Ex → Env → Heap → Prop) : Xc T l_ref22_Pick_0 ks e h Q = Xc T bl_ref22_Pick_0 (.seq l_ref22_Pick_0 :: ks) (e.keep [0, 1, 8, 9, 10, 11]) h Q := Xc_loop ks _ e h Q _ _
def k_ref22_Pick : ACode := (.seq (.reg [⟨(some 6), .mv (.c (.int .i64 0)) false, none⟩,
  ⟨(some 7), .mv (.c (.bool false)) false, none⟩] [0, 1, 2]) (.seq (.reg [⟨(some 8), .mv (.c (.int .i64 0)) false, none⟩] [0, 1, 2, 8]) (.seq (.reg [⟨(some 13), .mv (.t 2) true, none⟩,
  ⟨(some 9), .mv (.t 13) true, none⟩] [0, 1, 8, 9]) (.seq (.reg [⟨(some 10), .mv (.c (.bool false)) false, none⟩] [0, 1, 8, 9, 10]) (.seq (.seq (.reg [⟨(some 11), .mv (.c (.int .i64 0)) false, none⟩] [0, 1, 8, 9, 10, 11]) (.block 0 l_ref22_Pick_0)) (.seq (.reg [⟨(some 50), .mv (.t 8) true, none⟩,
  ⟨(some 51), .mv (.t 10) true, none⟩,
  ⟨(some 6), .mv (.t 50) true, none⟩,
  ⟨(some 7), .mv (.t 51) true, none⟩] [6, 7]) .ret))))))
def c_ref22_Pick : AFunc := ⟨k_ref22_Pick, 52, [.t 6, .t 7], [], [], []⟩
-- 12: wagtail/wagtaillaw22.VictimPicks
def bl_law22_VictimPicks_0 : ACode := (.seq (.seq (.reg [⟨(some 31), .mv (.t 11) false, none⟩,
  ⟨(some 32), .mv (.t 0) false, none⟩,
  ⟨(some 33), .len false (.t 32), none⟩,
  ⟨(some 34), .bin .lss .int (.t 31) (.t 33), none⟩,
  ⟨(some 35), .mv (.t 34) true, none⟩,
  ⟨(some 36), .mv (.t 8) false, (some (35, true))⟩,
  ⟨(some 37), .pick (.t 35) (.t 36) (.c (.bool false)), none⟩] [0, 1, 7, 8, 9, 10, 11, 37]) (.cond (.t 37)
 .skip
 (.exit 0))) (.seq (.block 1 (.seq (.reg [⟨(some 40), .mv (.t 1) false, none⟩,
  ⟨(some 41), .mv (.t 0) false, none⟩,
  ⟨(some 42), .mv (.t 11) false, none⟩,
  ⟨(some 43), .ia (.sl 1) (.t 41) (.t 42), none⟩,
  ⟨(some 44), .load 0 (.t 43), none⟩,
  ⟨(some 45), .callp f_ref22_Count [(.t 40), (.t 44)] [(0, true)], none⟩,
  ⟨(some 46), .mv (.t 1) false, none⟩,
  ⟨(some 47), .mv (.t 7) false, none⟩,
  ⟨(some 48), .callp f_ref22_Count [(.t 46), (.t 47)] [(0, true)], none⟩,
  ⟨(some 49), .bin .lss .int (.t 45) (.t 48), none⟩] [0, 1, 7, 8, 9, 10, 11, 49]) (.cond (.t 49)
 (.seq (.reg [⟨(some 6), .mv (.c (.bool false)) false, none⟩] [6]) .ret)
 .skip))) (.reg [⟨(some 38), .mv (.t 11) true, none⟩,
  ⟨(some 39), .bin .add .int (.t 38) (.c (.int .i64 1)), none⟩,
  ⟨(some 11), .mv (.t 39) true, none⟩] [0, 1, 7, 8, 9, 10, 11])))
def l_law22_VictimPicks_0 : ACode := .loop [0, 1, 7, 8, 9, 10, 11] [] bl_law22_VictimPicks_0
theorem L_law22_VictimPicks_0 {T : Table} (ks : List Kt) (e : Env) (h : Heap) (Q : Ex → Env → Heap → Prop) : Xc T l_law22_VictimPicks_0 ks e h Q = Xc T bl_law22_VictimPicks_0 (.seq l_law22_VictimPicks_0 :: ks) (e.keep [0, 1, 7, 8, 9, 10, 11]) h Q := Xc_loop ks _ e h Q _ _
def k_law22_VictimPicks : ACode := (.seq (.reg [⟨(some 6), .mv (.c (.bool false)) false, none⟩] [0, 1, 2]) (.seq (.seq (.reg [⟨(some 12), .mv (.t 0) false, none⟩,
  ⟨(some 13), .mv (.t 1) false, none⟩,
  ⟨(some 14), .callp f_law22_light [(.t 12), (.t 13)] [(0, false), (1, true)], none⟩,
  ⟨(some 15), .un .not (.t 14), none⟩] [0, 1, 2, 15]) (.cond (.t 15)
 (.seq (.reg [⟨(some 16), .callp f_law22_awake [] [], none⟩,
  ⟨(some 6), .mv (.t 16) true, none⟩] [6]) .ret)
 .skip)) (.seq (.reg [⟨(some 18), .mv (.t 0) false, none⟩,
  ⟨(some 19), .mv (.t 1) false, none⟩,
  ⟨(some 20), .mv (.t 2) false, none⟩,
  ⟨(some 21), .callp f_victim_Pick [(.t 18), (.t 19), (.t 20)] [(0, false), (1, true)], none⟩,
  ⟨(some 17), .mv (.t 21) true, none⟩,
  ⟨(some 22), .ext (.t 17) 0, none⟩,
  ⟨(some 23), .ext (.t 17) 1, none⟩,
  ⟨(some 7), .mv (.t 22) true, none⟩,
  ⟨(some 8), .mv (.t 23) true, none⟩] [0, 1, 2, 7, 8]) (.seq (.reg [⟨(some 25), .mv (.t 0) false, none⟩,
  ⟨(some 26), .mv (.t 1) false, none⟩,
  ⟨(some 27), .mv (.t 2) true, none⟩,
  ⟨(some 28), .callp f_ref22_Pick [(.t 25), (.t 26), (.t 27)] [(0, false), (1, true)], none⟩,
  ⟨(some 24), .mv (.t 28) true, none⟩,
  ⟨(some 29), .ext (.t 24) 0, none⟩,
  ⟨(some 30), .ext (.t 24) 1, none⟩,
  ⟨(some 9), .mv (.t 29) true, none⟩,
  ⟨(some 10), .mv (.t 30) true, none⟩] [0, 1, 7, 8, 9, 10]) (.seq (.seq (.reg [⟨(some 11), .mv (.c (.int .i64 0)) false, none⟩] [0, 1, 7, 8, 9, 10, 11]) (.block 0 l_law22_VictimPicks_0)) (.seq (.reg [⟨(some 50), .callp f_law22_awake [] [], none⟩,
  ⟨(some 51), .mv (.t 50) true, none⟩,
  ⟨(some 52), .mv (.t 7) true, (some (51, true))⟩,
  ⟨(some 53), .mv (.t 9) true, (some (51, true))⟩,
  ⟨(some 54), .bin .eql .int (.t 52) (.t 53), (some (51, true))⟩,
  ⟨(some 55), .pick (.t 51) (.t 54) (.c (.bool false)), none⟩,
  ⟨(some 56), .mv (.t 55) true, none⟩,
  ⟨(some 57), .mv (.t 8) true, (some (56, true))⟩,
  ⟨(some 58), .mv (.t 10) true, (some (56, true))⟩,
  ⟨(some 59), .bin .eql .bool (.t 57) (.t 58), (some (56, true))⟩,
  ⟨(some 60), .pick (.t 56) (.t 59) (.c (.bool false)), none⟩,
  ⟨(some 6), .mv (.t 60) true, none⟩] [6]) .ret))))))
def c_law22_VictimPicks : AFunc := ⟨k_law22_VictimPicks, 61, [.t 6], [], [], []⟩
-- 13: wagtail/wagtaillaw22.VictimGains
def bl_law22_VictimGains_0 : ACode := (.seq (.seq (.reg [⟨(some 22), .mv (.t 8) false, none⟩,
  ⟨(some 23), .mv (.t 0) false, none⟩,
  ⟨(some 24), .len false (.t 23), none⟩,
  ⟨(some 25), .bin .lss .int (.t 22) (.t 24), none⟩] [0, 1, 2, 7, 8, 25]) (.cond (.t 25)
 .skip
 (.exit 0))) (.seq (.block 1 (.seq (.reg [⟨(some 28), .mv (.t 1) false, none⟩,
  ⟨(some 29), .mv (.t 0) false, none⟩,
  ⟨(some 30), .mv (.t 8) false, none⟩,
  ⟨(some 31), .ia (.sl 1) (.t 29) (.t 30), none⟩,
  ⟨(some 32), .load 0 (.t 31), none⟩,
  ⟨(some 33), .callp f_ref22_Count [(.t 28), (.t 32)] [(0, true)], none⟩,
  ⟨(some 9), .mv (.t 33) true, none⟩] [0, 1, 2, 7, 8, 9]) (.seq (.reg [⟨(some 10), .mv (.c (.int .i64 0)) false, none⟩] [0, 1, 2, 7, 8, 9, 10]) (.seq (.seq (.reg [⟨(some 34), .mv (.t 2) false, none⟩,
  ⟨(some 35), .mv (.t 9) false, none⟩,
  ⟨(some 36), .bin .gtr .int (.t 34) (.t 35), none⟩] [0, 1, 2, 7, 8, 9, 10, 36]) (.cond (.t 36)
 (.reg [⟨(some 37), .mv (.t 2) false, none⟩,
  ⟨(some 38), .mv (.t 9) true, none⟩,
  ⟨(some 39), .bin .sub .int (.t 37) (.t 38), none⟩,
  ⟨(some 10), .mv (.t 39) true, none⟩] [0, 1, 2, 7, 8, 10])
 .skip)) (.seq (.seq (.reg [⟨(some 40), .mv (.t 1) false, none⟩,
  ⟨(some 41), .mv (.t 0) false, none⟩,
  ⟨(some 42), .mv (.t 8) false, none⟩,
  ⟨(some 43), .ia (.sl 1) (.t 41) (.t 42), none⟩,
  ⟨(some 44), .load 0 (.t 43), none⟩,
  ⟨(some 45), .mv (.t 2) false, none⟩,
  ⟨(some 46), .callp f_victim_Gain [(.t 40), (.t 44), (.t 45)] [(0, true)], none⟩,
  ⟨(some 47), .mv (.t 10) false, none⟩,
  ⟨(some 48), .bin .neq .int (.t 46) (.t 47), none⟩] [0, 1, 2, 7, 8, 10, 48]) (.cond (.t 48)
 (.seq (.reg [⟨(some 6), .mv (.c (.bool false)) false, none⟩] [6]) .ret)
 .skip)) (.reg [⟨(some 49), .mv (.t 7) true, none⟩,
  ⟨(some 50), .mv (.t 10) true, none⟩,
  ⟨(some 51), .bin .add .int (.t 49) (.t 50), none⟩,
  ⟨(some 7), .mv (.t 51) true, none⟩] [0, 1, 2, 7, 8])))))) (.reg [⟨(some 26), .mv (.t 8) true, none⟩,
  ⟨(some 27), .bin .add .int (.t 26) (.c (.int .i64 1)), none⟩,
  ⟨(some 8), .mv (.t 27) true, none⟩] [0, 1, 2, 7, 8])))
def l_law22_VictimGains_0 : ACode := .loop [0, 1, 2, 7, 8] [] bl_law22_VictimGains_0
theorem L_law22_VictimGains_0 {T : Table} (ks : List Kt) (e : Env) (h : Heap) (Q : Ex → Env → Heap → Prop) : Xc T l_law22_VictimGains_0 ks e h Q = Xc T bl_law22_VictimGains_0 (.seq l_law22_VictimGains_0 :: ks) (e.keep [0, 1, 2, 7, 8]) h Q := Xc_loop ks _ e h Q _ _
def bl_law22_VictimGains_1 : ACode := (.seq (.seq (.reg [⟨(some 60), .mv (.t 12) false, none⟩,
  ⟨(some 61), .mv (.t 11) false, none⟩,
  ⟨(some 62), .len false (.t 61), none⟩,
  ⟨(some 63), .bin .lss .int (.t 60) (.t 62), none⟩] [0, 1, 2, 7, 11, 12, 63]) (.cond (.t 63)
 .skip
 (.exit 2))) (.seq (.block 3 (.seq (.regd [⟨(some 66), .mv (.t 0) false, none⟩,
  ⟨(some 67), .mv (.t 11) false, none⟩,
  ⟨(some 68), .mv (.t 12) false, none⟩,
  ⟨(some 69), .ia (.sl 1) (.t 67) (.t 68), none⟩,
  ⟨(some 70), .load 0 (.t 69), none⟩,
  ⟨(some 71), .callp f_ref13_Has [(.t 66), (.t 70)] [(0, false)], none⟩,
  ⟨(some 72), .un .not (.t 71), none⟩,
  ⟨(some 73), .mv (.t 72) false, none⟩,
  ⟨(some 74), .mv (.t 12) false, (some (73, false))⟩,
  ⟨(some 75), .bin .gtr .int (.t 74) (.c (.int .i64 0)), (some (73, false))⟩,
  ⟨(some 76), .mv (.t 75) false, (some (73, false))⟩,
  ⟨(some 77), .mv (.t 1) false, (some (76, true))⟩,
  ⟨(some 78), .mv (.t 11) false, (some (76, true))⟩,
  ⟨(some 79), .mv (.t 12) false, (some (76, true))⟩,
  ⟨(some 80), .bin .sub .int (.t 79) (.c (.int .i64 1)), (some (76, true))⟩,
  ⟨(some 81), .ia (.sl 1) (.t 78) (.t 80), (some (76, true))⟩,
  ⟨(some 82), .load 0 (.t 81), (some (76, true))⟩,
  ⟨(some 83), .callp f_ref22_Count [(.t 77), (.t 82)] [(0, true)], (some (76, true))⟩,
  ⟨(some 84), .mv (.t 1) false, (some (76, true))⟩,
  ⟨(some 85), .mv (.t 11) false, (some (76, true))⟩,
  ⟨(some 86), .mv (.t 12) false, (some (76, true))⟩,
  ⟨(some 87), .ia (.sl 1) (.t 85) (.t 86), (some (76, true))⟩,
  ⟨(some 88), .load 0 (.t 87), (some (76, true))⟩,
  ⟨(some 89), .callp f_ref22_Count [(.t 84), (.t 88)] [(0, true)], (some (76, true))⟩,
  ⟨(some 90), .bin .gtr .int (.t 83) (.t 89), (some (76, true))⟩,
  ⟨(some 91), .mv (.t 90) false, (some (76, true))⟩,
  ⟨(some 92), .mv (.t 1) false, (some (91, false))⟩,
  ⟨(some 93), .mv (.t 11) false, (some (91, false))⟩,
  ⟨(some 94), .mv (.t 12) false, (some (91, false))⟩,
  ⟨(some 95), .bin .sub .int (.t 94) (.c (.int .i64 1)), (some (91, false))⟩,
  ⟨(some 96), .ia (.sl 1) (.t 93) (.t 95), (some (91, false))⟩,
  ⟨(some 97), .load 0 (.t 96), (some (91, false))⟩,
  ⟨(some 98), .callp f_ref22_Count [(.t 92), (.t 97)] [(0, true)], (some (91, false))⟩,
  ⟨(some 99), .mv (.t 1) false, (some (91, false))⟩,
  ⟨(some 100), .mv (.t 11) false, (some (91, false))⟩,
  ⟨(some 101), .mv (.t 12) false, (some (91, false))⟩,
  ⟨(some 102), .ia (.sl 1) (.t 100) (.t 101), (some (91, false))⟩,
  ⟨(some 103), .load 0 (.t 102), (some (91, false))⟩,
  ⟨(some 104), .callp f_ref22_Count [(.t 99), (.t 103)] [(0, true)], (some (91, false))⟩,
  ⟨(some 105), .bin .eql .int (.t 98) (.t 104), (some (91, false))⟩,
  ⟨(some 106), .mv (.t 105) false, (some (91, false))⟩,
  ⟨(some 107), .mv (.t 11) false, (some (106, true))⟩,
  ⟨(some 108), .mv (.t 12) false, (some (106, true))⟩,
  ⟨(some 109), .bin .sub .int (.t 108) (.c (.int .i64 1)), (some (106, true))⟩,
  ⟨(some 110), .ia (.sl 1) (.t 107) (.t 109), (some (106, true))⟩,
  ⟨(some 111), .load 0 (.t 110), (some (106, true))⟩,
  ⟨(some 112), .mv (.t 11) false, (some (106, true))⟩,
  ⟨(some 113), .mv (.t 12) false, (some (106, true))⟩,
  ⟨(some 114), .ia (.sl 1) (.t 112) (.t 113), (some (106, true))⟩,
  ⟨(some 115), .load 0 (.t 114), (some (106, true))⟩,
  ⟨(some 116), .bin .gtr .int (.t 111) (.t 115), (some (106, true))⟩,
  ⟨(some 117), .pick (.t 106) (.t 116) (.c (.bool false)), (some (91, false))⟩,
  ⟨(some 118), .pick (.t 91) (.c (.bool true)) (.t 117), (some (76, true))⟩,
  ⟨(some 119), .pick (.t 76) (.t 118) (.c (.bool false)), (some (73, false))⟩,
  ⟨(some 120), .pick (.t 73) (.c (.bool true)) (.t 119), none⟩] [0, 1, 2, 7, 11, 12, 120] [] []) (.cond (.t 120)
 (.seq (.reg [⟨(some 6), .mv (.c (.bool false)) false, none⟩] [6]) .ret)
 .skip))) (.reg [⟨(some 64), .mv (.t 12) true, none⟩,
  ⟨(some 65), .bin .add .int (.t 64) (.c (.int .i64 1)), none⟩,
  ⟨(some 12), .mv (.t 65) true, none⟩] [0, 1, 2, 7, 11, 12])))
def l_law22_VictimGains_1 : ACode := .loop [0, 1, 2, 7, 11, 12] [] bl_law22_VictimGains_1
theorem L_law22_VictimGains_1 {T : Table} (ks : List Kt) (e : Env) (h : Heap) (Q : Ex → Env → Heap → Prop) : Xc T l_law22_VictimGains_1 ks e h Q = Xc T bl_law22_VictimGains_1 (.seq l_law22_VictimGains_1 :: ks) (e.keep [0, 1, 2, 7, 11, 12]) h Q := Xc_loop ks _ e h Q _ _
def k_law22_VictimGains : ACode := (.seq (.reg [⟨(some 6), .mv (.c (.bool false)) false, none⟩] [0, 1, 2]) (.seq (.seq (.reg [⟨(some 13), .mv (.t 0) false, none⟩,
  ⟨(some 14), .mv (.t 1) false, none⟩,
  ⟨(some 15), .callp f_law22_light [(.t 13), (.t 14)] [(0, false), (1, true)], none⟩,
  ⟨(some 16), .un .not (.t 15), none⟩,
  ⟨(some 17), .mv (.t 16) true, none⟩,
  ⟨(some 18), .mv (.t 2) false, (some (17, false))⟩,
  ⟨(some 19), .bin .gtr .int (.t 18) (.c (.int .i64 1099511627776)), (some (17, false))⟩,
  ⟨(some 20), .pick (.t 17) (.c (.bool true)) (.t 19), none⟩] [0, 1, 2, 20]) (.cond (.t 20)
 (.seq (.reg [⟨(some 21), .callp f_law22_awake [] [], none⟩,
  ⟨(some 6), .mv (.t 21) true, none⟩] [6]) .ret)
 .skip)) (.seq (.reg [⟨(some 7), .mv (.c (.int .i64 0)) false, none⟩] [0, 1, 2, 7]) (.seq (.seq (.reg [⟨(some 8), .mv (.c (.int .i64 0)) false, none⟩] [0, 1, 2, 7, 8]) (.block 0 l_law22_VictimGains_0)) (.seq (.reg [⟨(some 52), .mv (.t 0) false, none⟩,
  ⟨(some 53), .mv (.t 1) false, none⟩,
  ⟨(some 54), .callp f_victim_Order [(.t 52), (.t 53)] [], none⟩,
  ⟨(some 11), .mv (.t 54) true, none⟩] [0, 1, 2, 7, 11]) (.seq (.seq (.reg [⟨(some 55), .mv (.t 11) false, none⟩,
  ⟨(some 56), .len false (.t 55), none⟩,
  ⟨(some 57), .mv (.t 0) false, none⟩,
  ⟨(some 58), .len false (.t 57), none⟩,
  ⟨(some 59), .bin .neq .int (.t 56) (.t 58), none⟩] [0, 1, 2, 7, 11, 59]) (.cond (.t 59)
 (.seq (.reg [⟨(some 6), .mv (.c (.bool false)) false, none⟩] [6]) .ret)
 .skip)) (.seq (.seq (.reg [⟨(some 12), .mv (.c (.int .i64 0)) false, none⟩] [0, 1, 2, 7, 11, 12]) (.block 2 l_law22_VictimGains_1)) (.seq (.reg [⟨(some 121), .callp f_law22_awake [] [], none⟩,
  ⟨(some 122), .mv (.t 121) true, none⟩,
  ⟨(some 123), .mv (.t 0) true, (some (122, true))⟩,
  ⟨(some 124), .mv (.t 1) true, (some (122, true))⟩,
  ⟨(some 125), .mv (.t 2) true, (some (122, true))⟩,
  ⟨(some 126), .callp f_victim_Total [(.t 123), (.t 124), (.t 125)] [(0, false), (1, true)], (some (122, true))⟩,
  ⟨(some 127), .mv (.t 7) true, (some (122, true))⟩,
  ⟨(some 128), .bin .eql .int (.t 126) (.t 127), (some (122, true))⟩,
  ⟨(some 129), .pick (.t 122) (.t 128) (.c (.bool false)), none⟩,
  ⟨(some 6), .mv (.t 129) true, none⟩] [6]) .ret))))))))
def c_law22_VictimGains : AFunc := ⟨k_law22_VictimGains, 130, [.t 6], [], [], []⟩

def tab : List (Nat × AFunc) := [(f_ref01_Ints, c_ref01_Ints),
  (f_ref01_High, c_ref01_High),
  (f_ref01_Low, c_ref01_Low),
  (f_ref13_Has, c_ref13_Has),
  (f_law22_light, c_law22_light),
  (f_slices_Clone_int_int, c_slices_Clone_int_int),
  (f_place_Count, c_place_Count),
  (f_victim_Order_1, c_victim_Order_1),
  (f_cmp_isNaN_int, c_cmp_isNaN_int),
  (f_cmp_Compare_int, c_cmp_Compare_int),
  (f_cmp_Or_int, c_cmp_Or_int),
  (f_victim_Order_2, c_victim_Order_2),
  (f_math_bits_Len32, c_math_bits_Len32),
  (f_math_bits_Len64, c_math_bits_Len64),
  (f_math_bits_Len, c_math_bits_Len),
  (f_slices_insertionSortCmpFunc_int, c_slices_insertionSortCmpFunc_int),
  (f_slices_siftDownCmpFunc_int, c_slices_siftDownCmpFunc_int),
  (f_slices_heapSortCmpFunc_int, c_slices_heapSortCmpFunc_int),
  (f_slices_nextPowerOfTwo, c_slices_nextPowerOfTwo),
  (f_slices_xorshift_Next, c_slices_xorshift_Next),
  (f_slices_breakPatternsCmpFunc_int, c_slices_breakPatternsCmpFunc_int),
  (f_slices_order2CmpFunc_int, c_slices_order2CmpFunc_int),
  (f_slices_medianCmpFunc_int, c_slices_medianCmpFunc_int),
  (f_slices_medianAdjacentCmpFunc_int, c_slices_medianAdjacentCmpFunc_int),
  (f_slices_choosePivotCmpFunc_int, c_slices_choosePivotCmpFunc_int),
  (f_slices_reverseRangeCmpFunc_int, c_slices_reverseRangeCmpFunc_int),
  (f_slices_partialInsertionSortCmpFunc_int, c_slices_partialInsertionSortCmpFunc_int),
  (f_slices_partitionEqualCmpFunc_int, c_slices_partitionEqualCmpFunc_int),
  (f_slices_partitionCmpFunc_int, c_slices_partitionCmpFunc_int),
  (f_slices_pdqsortCmpFunc_int, c_slices_pdqsortCmpFunc_int),
  (f_slices_SortFunc_int_int, c_slices_SortFunc_int_int),
  (f_victim_Order, c_victim_Order),
  (f_victim_Pick, c_victim_Pick),
  (f_victim_Gain, c_victim_Gain),
  (f_victim_Total, c_victim_Total),
  (f_law22_awake, c_law22_awake),
  (f_ref22_Count, c_ref22_Count),
  (f_ref22_Pick, c_ref22_Pick),
  (f_law22_VictimPicks, c_law22_VictimPicks),
  (f_law22_VictimGains, c_law22_VictimGains)]
def T : Table := fun f => tab.lookup f
theorem t_ref01_Ints : T f_ref01_Ints = some c_ref01_Ints := rfl
theorem t_ref01_High : T f_ref01_High = some c_ref01_High := rfl
theorem t_ref01_Low : T f_ref01_Low = some c_ref01_Low := rfl
theorem t_ref13_Has : T f_ref13_Has = some c_ref13_Has := rfl
theorem t_law22_light : T f_law22_light = some c_law22_light := rfl
theorem t_slices_Clone_int_int : T f_slices_Clone_int_int = some c_slices_Clone_int_int := rfl
theorem t_place_Count : T f_place_Count = some c_place_Count := rfl
theorem t_victim_Order_1 : T f_victim_Order_1 = some c_victim_Order_1 := rfl
theorem t_cmp_isNaN_int : T f_cmp_isNaN_int = some c_cmp_isNaN_int := rfl
theorem t_cmp_Compare_int : T f_cmp_Compare_int = some c_cmp_Compare_int := rfl
theorem t_cmp_Or_int : T f_cmp_Or_int = some c_cmp_Or_int := rfl
theorem t_victim_Order_2 : T f_victim_Order_2 = some c_victim_Order_2 := rfl
theorem t_math_bits_Len32 : T f_math_bits_Len32 = some c_math_bits_Len32 := rfl
theorem t_math_bits_Len64 : T f_math_bits_Len64 = some c_math_bits_Len64 := rfl
theorem t_math_bits_Len : T f_math_bits_Len = some c_math_bits_Len := rfl
theorem t_slices_insertionSortCmpFunc_int : T f_slices_insertionSortCmpFunc_int = some c_slices_insertionSortCmpFunc_int := rfl
theorem t_slices_siftDownCmpFunc_int : T f_slices_siftDownCmpFunc_int = some c_slices_siftDownCmpFunc_int := rfl
theorem t_slices_heapSortCmpFunc_int : T f_slices_heapSortCmpFunc_int = some c_slices_heapSortCmpFunc_int := rfl
theorem t_slices_nextPowerOfTwo : T f_slices_nextPowerOfTwo = some c_slices_nextPowerOfTwo := rfl
theorem t_slices_xorshift_Next : T f_slices_xorshift_Next = some c_slices_xorshift_Next := rfl
theorem t_slices_breakPatternsCmpFunc_int : T f_slices_breakPatternsCmpFunc_int = some c_slices_breakPatternsCmpFunc_int := rfl
theorem t_slices_order2CmpFunc_int : T f_slices_order2CmpFunc_int = some c_slices_order2CmpFunc_int := rfl
theorem t_slices_medianCmpFunc_int : T f_slices_medianCmpFunc_int = some c_slices_medianCmpFunc_int := rfl
theorem t_slices_medianAdjacentCmpFunc_int : T f_slices_medianAdjacentCmpFunc_int = some c_slices_medianAdjacentCmpFunc_int := rfl
theorem t_slices_choosePivotCmpFunc_int : T f_slices_choosePivotCmpFunc_int = some c_slices_choosePivotCmpFunc_int := rfl
theorem t_slices_reverseRangeCmpFunc_int : T f_slices_reverseRangeCmpFunc_int = some c_slices_reverseRangeCmpFunc_int := rfl
theorem t_slices_partialInsertionSortCmpFunc_int : T f_slices_partialInsertionSortCmpFunc_int = some c_slices_partialInsertionSortCmpFunc_int := rfl
theorem t_slices_partitionEqualCmpFunc_int : T f_slices_partitionEqualCmpFunc_int = some c_slices_partitionEqualCmpFunc_int := rfl
theorem t_slices_partitionCmpFunc_int : T f_slices_partitionCmpFunc_int = some c_slices_partitionCmpFunc_int := rfl
theorem t_slices_pdqsortCmpFunc_int : T f_slices_pdqsortCmpFunc_int = some c_slices_pdqsortCmpFunc_int := rfl
theorem t_slices_SortFunc_int_int : T f_slices_SortFunc_int_int = some c_slices_SortFunc_int_int := rfl
theorem t_victim_Order : T f_victim_Order = some c_victim_Order := rfl
theorem t_victim_Pick : T f_victim_Pick = some c_victim_Pick := rfl
theorem t_victim_Gain : T f_victim_Gain = some c_victim_Gain := rfl
theorem t_victim_Total : T f_victim_Total = some c_victim_Total := rfl
theorem t_law22_awake : T f_law22_awake = some c_law22_awake := rfl
theorem t_ref22_Count : T f_ref22_Count = some c_ref22_Count := rfl
theorem t_ref22_Pick : T f_ref22_Pick = some c_ref22_Pick := rfl
theorem t_law22_VictimPicks : T f_law22_VictimPicks = some c_law22_VictimPicks := rfl
theorem t_law22_VictimGains : T f_law22_VictimGains = some c_law22_VictimGains := rfl
end Ev
