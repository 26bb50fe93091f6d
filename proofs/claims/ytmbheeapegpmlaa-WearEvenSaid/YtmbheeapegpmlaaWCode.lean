/- The code of the functions that the claim reaches, in the evaluator's form; what it is held against stands in the text of the checks. No condition. -/
import Derived.Test.YtmbheeapegpmlaaEv9
/-! The code of the functions, as the evaluator takes it. -/
set_option linter.all false
namespace Ev
open Go

abbrev f_law25_ExtentDoes : Nat := 3
abbrev f_law21_WearFinds : Nat := 10
abbrev f_law21_WearEven : Nat := 11
abbrev f_law25_awake : Nat := 14
abbrev f_extent_New : Nat := 15
abbrev f_ref25_New : Nat := 16
abbrev f_extent_Extent_Give : Nat := 17
abbrev f_ref25_X_Give : Nat := 18
abbrev f_extent_Extent_Take : Nat := 19
abbrev f_ref25_X_Take : Nat := 20
abbrev f_ref01_Ints : Nat := 21
abbrev f_extent_Extent_Free : Nat := 22
abbrev f_ref25_X_Free : Nat := 23
abbrev f_extent_Extent_Taken : Nat := 24
abbrev f_extent_Extent_Is : Nat := 25
abbrev f_ref13_Has : Nat := 26
abbrev f_ref01_High : Nat := 28
abbrev f_ref01_Low : Nat := 29
abbrev f_law21_light : Nat := 46
abbrev f_law21_awake : Nat := 47
abbrev f_wear_Least : Nat := 48
abbrev f_wear_Most : Nat := 49
abbrev f_ref21_Least : Nat := 50
abbrev f_ref21_Most : Nat := 51
abbrev f_wear_Of : Nat := 52
abbrev f_ref21_Of : Nat := 53
abbrev f_wear_Gap : Nat := 54
abbrev f_wear_May : Nat := 55
abbrev f_wear_Play : Nat := 56
abbrev f_ref21_Play : Nat := 57
abbrev f_extent_Extent_right : Nat := 66
abbrev f_extent_Extent_set : Nat := 67
abbrev f_ref25_put : Nat := 68
abbrev f_extent_Extent_some : Nat := 69
abbrev f_extent_Extent_Take_1 : Nat := 70
abbrev f_extent_Extent_Taken_1 : Nat := 71
abbrev f_wear_Add : Nat := 79
abbrev f_wear_best : Nat := 80
abbrev f_wear_Least_1 : Nat := 81
abbrev f_wear_Most_1 : Nat := 82
abbrev f_slices_Contains_int_int : Nat := 83
abbrev f_slices_Index_int_int : Nat := 94
-- 66: (*wagtail/extent.Extent).right

def k_extent_Extent_right : ACode := (.seq (.reg [⟨(some 4), .mv (.c (.bool false)) false, none⟩] [0, 1]) (.seq (.reg [⟨(some 5), .mv (.t 0) false, none⟩,
  ⟨(some 6), .bin .neq .ptr (.t 5) (.c .nilp), none⟩,
  ⟨(some 7), .mv (.t 6) true, none⟩,
  ⟨(some 8), .mv (.t 1) false, (some (7, true))⟩,
  ⟨(some 9), .bin .geq .int (.t 8) (.c (.int .i64 1)), (some (7, true))⟩,
  ⟨(some 10), .pick (.t 7) (.t 9) (.c (.bool false)), none⟩,
  ⟨(some 11), .mv (.t 10) true, none⟩,
  ⟨(some 12), .mv (.t 1) true, (some (11, true))⟩,
  ⟨(some 13), .mv (.t 0) true, (some (11, true))⟩,
  ⟨(some 14), .nilck (.t 13), (some (11, true))⟩,
  ⟨(some 15), .fa 0 (.t 14), (some (11, true))⟩,
  ⟨(some 16), .load 0 (.t 15), (some (11, true))⟩,
  ⟨(some 17), .len false (.t 16), (some (11, true))⟩,
  ⟨(some 18), .bin .lss .int (.t 12) (.t 17), (some (11, true))⟩,
  ⟨(some 19), .pick (.t 11) (.t 18) (.c (.bool false)), none⟩,
  ⟨(some 4), .mv (.t 19) true, none⟩] [4]) .ret))
def c_extent_Extent_right : AFunc := ⟨k_extent_Extent_right, 20, [.t 4], [], [], []⟩
-- 67: (*wagtail/extent.Extent).set

def k_extent_Extent_set : ACode := (.seq (.reg [⟨(some 6), .mv (.t 0) false, none⟩,
  ⟨(some 7), .nilck (.t 6), none⟩,
  ⟨(some 8), .fa 0 (.t 7), none⟩,
  ⟨(some 9), .load 0 (.t 8), none⟩,
  ⟨(some 10), .mv (.t 1) true, none⟩,
  ⟨(some 11), .mv (.t 2) false, none⟩,
  ⟨(some 12), .ia (.sl 1) (.t 9) (.t 10), none⟩,
  ⟨none, .store 1 (.t 12) (.t 11), none⟩] [0, 2]) (.seq (.reg [⟨(some 13), .mv (.t 2) true, none⟩] [0, 13]) (.cond (.t 13)
 (.reg [⟨(some 14), .mv (.t 0) true, none⟩,
  ⟨(some 15), .nilck (.t 14), none⟩,
  ⟨(some 16), .fa 1 (.t 15), none⟩,
  ⟨(some 17), .load 0 (.t 16), none⟩,
  ⟨(some 18), .bin .sub .int (.t 17) (.c (.int .i64 1)), none⟩,
  ⟨(some 19), .nilck (.t 14), none⟩,
  ⟨(some 20), .fa 1 (.t 19), none⟩,
  ⟨none, .store 1 (.t 20) (.t 18), none⟩] [])
 (.reg [⟨(some 21), .mv (.t 0) true, none⟩,
  ⟨(some 22), .nilck (.t 21), none⟩,
  ⟨(some 23), .fa 1 (.t 22), none⟩,
  ⟨(some 24), .load 0 (.t 23), none⟩,
  ⟨(some 25), .bin .add .int (.t 24) (.c (.int .i64 1)), none⟩,
  ⟨(some 26), .nilck (.t 21), none⟩,
  ⟨(some 27), .fa 1 (.t 26), none⟩,
  ⟨none, .store 1 (.t 27) (.t 25), none⟩] []))))
def c_extent_Extent_set : AFunc := ⟨k_extent_Extent_set, 28, [], [], [], []⟩
-- 15: wagtail/extent.New
def bl_extent_New_0 : ACode := (.seq (.reg [⟨(some 21), .bin .lss .int (.t 20) (.t 19), none⟩] [6, 18, 19, 20, 21]) (.seq (.cond (.t 21)
 .skip
 (.exit 0)) (.seq (.block 1 (.seq (.reg [⟨(some 22), .ia (.sl 1) (.t 18) (.t 20), none⟩,
  ⟨(some 23), .load 0 (.t 22), none⟩,
  ⟨(some 8), .mv (.t 23) true, none⟩] [6, 8, 18, 19, 20]) (.seq (.reg [⟨(some 24), .mv (.t 6) false, none⟩,
  ⟨(some 25), .mv (.t 8) false, none⟩,
  ⟨(some 26), .callh f_extent_Extent_right [(.t 24), (.t 25)], none⟩,
  ⟨(some 27), .mv (.t 26) true, none⟩,
  ⟨(some 28), .mv (.t 6) false, (some (27, true))⟩,
  ⟨(some 29), .nilck (.t 28), (some (27, true))⟩,
  ⟨(some 30), .fa 0 (.t 29), (some (27, true))⟩,
  ⟨(some 31), .load 0 (.t 30), (some (27, true))⟩,
  ⟨(some 32), .mv (.t 8) false, (some (27, true))⟩,
  ⟨(some 33), .ia (.sl 1) (.t 31) (.t 32), (some (27, true))⟩,
  ⟨(some 34), .load 0 (.t 33), (some (27, true))⟩,
  ⟨(some 35), .un .not (.t 34), (some (27, true))⟩,
  ⟨(some 36), .pick (.t 27) (.t 35) (.c (.bool false)), none⟩] [6, 8, 18, 19, 20, 36]) (.cond (.t 36)
 (.reg [⟨(some 37), .mv (.t 6) false, none⟩,
  ⟨(some 38), .mv (.t 8) true, none⟩,
  ⟨(some 39), .callh f_extent_Extent_set [(.t 37), (.t 38), (.c (.bool true))], none⟩] [6, 18, 19, 20])
 .skip)))) (.reg [⟨(some 40), .bin .add .int (.t 20) (.c (.int .i64 1)), none⟩,
  ⟨(some 20), .mv (.t 40) true, none⟩] [6, 18, 19, 20]))))
def l_extent_New_0 : ACode := .loop [6, 18, 19, 20] [] bl_extent_New_0
theorem L_extent_New_0 {T : Table} (ks : List Kt) (e : Env) (h : Heap) (Q : Ex → Env → Heap → Prop) : Xc T l_extent_New_0 ks e h Q = Xc T bl_extent_New_0 (.seq l_extent_New_0 :: ks) (e.keep [6, 18, 19, 20]) h Q := Xc_loop ks _ e h Q _ _
def k_extent_New : ACode := (.seq (.reg [⟨(some 4), .mv (.c .nilp) false, none⟩] [0, 1]) (.seq (.reg [⟨(some 9), .mv (.t 0) true, none⟩,
  ⟨(some 10), .mx true [(.t 9), (.c (.int .i64 1))], none⟩,
  ⟨(some 11), .mx false [(.t 10), (.c (.int .i64 65536))], none⟩,
  ⟨(some 5), .mv (.t 11) true, none⟩] [1, 5]) (.seq (.reg [⟨(some 12), .mv (.t 5) false, none⟩,
  ⟨(some 13), .mksl 1 1 (.bool false) (.t 12) (.t 12) true, none⟩,
  ⟨(some 14), .mv (.t 5) true, none⟩,
  ⟨(some 15), .bin .sub .int (.t 14) (.c (.int .i64 1)), none⟩,
  ⟨(some 16), .build [(.hn 1), (.int .i64 0)] [(0, 1, (.t 13)), (1, 1, (.t 15))], none⟩,
  ⟨(some 17), .box (.t 16), none⟩,
  ⟨(some 6), .mv (.t 17) true, none⟩] [1, 6]) (.seq (.seq (.reg [⟨(some 18), .mv (.t 1) true, none⟩,
  ⟨(some 19), .len false (.t 18), none⟩,
  ⟨(some 20), .mv (.c (.int .i64 0)) false, none⟩] [6, 18, 19, 20]) (.block 0 l_extent_New_0)) (.seq (.reg [⟨(some 41), .mv (.t 6) true, none⟩,
  ⟨(some 4), .mv (.t 41) true, none⟩] [4]) .ret)))))
def c_extent_New : AFunc := ⟨k_extent_New, 42, [.t 4], [], [], []⟩
-- 69: (*wagtail/extent.Extent).some
def bl_extent_Extent_some_0 : ACode := (.seq (.seq (.reg [⟨(some 9), .mv (.t 8) false, none⟩,
  ⟨(some 10), .mv (.t 0) false, none⟩,
  ⟨(some 11), .nilck (.t 10), none⟩,
  ⟨(some 12), .fa 0 (.t 11), none⟩,
  ⟨(some 13), .load 0 (.t 12), none⟩,
  ⟨(some 14), .len false (.t 13), none⟩,
  ⟨(some 15), .bin .lss .int (.t 9) (.t 14), none⟩,
  ⟨(some 16), .mv (.t 15) true, none⟩,
  ⟨(some 17), .mv (.t 7) false, (some (16, true))⟩,
  ⟨(some 18), .len false (.t 17), (some (16, true))⟩,
  ⟨(some 19), .mv (.t 1) false, (some (16, true))⟩,
  ⟨(some 20), .bin .lss .int (.t 18) (.t 19), (some (16, true))⟩,
  ⟨(some 21), .pick (.t 16) (.t 20) (.c (.bool false)), none⟩] [0, 1, 2, 7, 8, 21]) (.cond (.t 21)
 .skip
 (.exit 0))) (.seq (.block 1 (.seq (.reg [⟨(some 24), .mv (.t 2) false, none⟩,
  ⟨(some 25), .mv (.t 0) false, none⟩,
  ⟨(some 26), .nilck (.t 25), none⟩,
  ⟨(some 27), .fa 0 (.t 26), none⟩,
  ⟨(some 28), .load 0 (.t 27), none⟩,
  ⟨(some 29), .mv (.t 8) false, none⟩,
  ⟨(some 30), .ia (.sl 1) (.t 28) (.t 29), none⟩,
  ⟨(some 31), .load 0 (.t 30), none⟩,
  ⟨(some 32), .callv (.t 24) [(.t 31)], none⟩] [0, 1, 2, 7, 8, 32]) (.cond (.t 32)
 (.reg [⟨(some 33), .mv (.t 7) true, none⟩,
  ⟨(some 34), .mv (.t 8) false, none⟩,
  ⟨(some 35), .bsl 1 [(.t 34)] false, none⟩,
  ⟨(some 36), .app 1 8 (.t 33) (.t 35), none⟩,
  ⟨(some 7), .mv (.t 36) true, none⟩] [0, 1, 2, 7, 8])
 .skip))) (.reg [⟨(some 22), .mv (.t 8) true, none⟩,
  ⟨(some 23), .bin .add .int (.t 22) (.c (.int .i64 1)), none⟩,
  ⟨(some 8), .mv (.t 23) true, none⟩] [0, 1, 2, 7, 8])))
def l_extent_Extent_some_0 : ACode := .loop [0, 1, 2, 7, 8] [(7, 0)] bl_extent_Extent_some_0
theorem L_extent_Extent_some_0 {T : Table} (ks : List Kt) (e : Env) (h : Heap) (Q : Ex → Env → Heap → Prop) : Xc T l_extent_Extent_some_0 ks e h Q = Xc T bl_extent_Extent_some_0 (.seq l_extent_Extent_some_0 :: ks) (e.keep [0, 1, 2, 7, 8]) h Q := Xc_loop ks _ e h Q _ _
def k_extent_Extent_some : ACode := (.seq (.reg [⟨(some 6), .mv (.c (.ps 1 [])) false, none⟩] [0, 1, 2]) (.seq (.reg [⟨(some 7), .mv (.c (.ps 1 [])) false, none⟩] [0, 1, 2, 7]) (.seq (.seq (.reg [⟨(some 8), .mv (.c (.int .i64 1)) false, none⟩] [0, 1, 2, 7, 8]) (.block 0 l_extent_Extent_some_0)) (.seq (.reg [⟨(some 37), .mv (.t 7) true, none⟩,
  ⟨(some 6), .mv (.t 37) true, none⟩] [6]) .ret))))
def c_extent_Extent_some : AFunc := ⟨k_extent_Extent_some, 38, [.t 6], [], [0], []⟩
-- 19: (*wagtail/extent.Extent).Take
def bl_extent_Extent_Take_0 : ACode := (.seq (.reg [⟨(some 28), .bin .lss .int (.t 27) (.t 26), none⟩] [0, 6, 25, 26, 27, 28]) (.seq (.cond (.t 28)
 .skip
 (.exit 1)) (.seq (.block 2 (.seq (.reg [⟨(some 29), .ia (.sl 1) (.t 25) (.t 27), none⟩,
  ⟨(some 30), .load 0 (.t 29), none⟩,
  ⟨(some 8), .mv (.t 30) true, none⟩] [0, 6, 8, 25, 26, 27]) (.reg [⟨(some 31), .mv (.t 0) false, none⟩,
  ⟨(some 32), .mv (.t 8) true, none⟩,
  ⟨(some 33), .callh f_extent_Extent_set [(.t 31), (.t 32), (.c (.bool true))], none⟩] [0, 6, 25, 26, 27]))) (.reg [⟨(some 34), .bin .add .int (.t 27) (.c (.int .i64 1)), none⟩,
  ⟨(some 27), .mv (.t 34) true, none⟩] [0, 6, 25, 26, 27]))))
def l_extent_Extent_Take_0 : ACode := .loop [0, 6, 25, 26, 27] [(6, 0)] bl_extent_Extent_Take_0
theorem L_extent_Extent_Take_0 {T : Table} (ks : List Kt) (e : Env) (h : Heap) (Q : Ex → Env → Heap → Prop) : Xc T l_extent_Extent_Take_0 ks e h Q = Xc T bl_extent_Extent_Take_0 (.seq l_extent_Extent_Take_0 :: ks) (e.keep [0, 6, 25, 26, 27]) h Q := Xc_loop ks _ e h Q _ _
def k_extent_Extent_Take : ACode := (.seq (.reg [⟨(some 4), .mv (.c (.ps 1 [])) false, none⟩,
  ⟨(some 5), .mv (.c (.int .i64 0)) false, none⟩] [0, 1]) (.seq (.block 0 (.seq (.reg [⟨(some 10), .mv (.t 0) false, none⟩,
  ⟨(some 11), .bin .eql .ptr (.t 10) (.c .nilp), none⟩,
  ⟨(some 9), .mv (.t 11) true, none⟩] [0, 1, 9]) (.cond (.t 9)
 (.seq (.reg [⟨(some 4), .mv (.c (.ps 1 [])) false, none⟩,
  ⟨(some 5), .mv (.c (.int .i64 1)) false, none⟩] [4, 5]) .ret)
 (.seq (.reg [⟨(some 13), .mv (.t 1) false, none⟩,
  ⟨(some 14), .bin .lss .int (.t 13) (.c (.int .i64 1)), none⟩,
  ⟨(some 12), .mv (.t 14) true, none⟩] [0, 1, 12]) (.cond (.t 12)
 (.seq (.reg [⟨(some 4), .mv (.c (.ps 1 [])) false, none⟩,
  ⟨(some 5), .mv (.c (.int .i64 3)) false, none⟩] [4, 5]) .ret)
 (.seq (.reg [⟨(some 16), .mv (.t 1) false, none⟩,
  ⟨(some 17), .mv (.t 0) false, none⟩,
  ⟨(some 18), .nilck (.t 17), none⟩,
  ⟨(some 19), .fa 1 (.t 18), none⟩,
  ⟨(some 20), .load 0 (.t 19), none⟩,
  ⟨(some 21), .bin .gtr .int (.t 16) (.t 20), none⟩,
  ⟨(some 15), .mv (.t 21) true, none⟩] [0, 1, 15]) (.cond (.t 15)
 (.seq (.reg [⟨(some 4), .mv (.c (.ps 1 [])) false, none⟩,
  ⟨(some 5), .mv (.c (.int .i64 13)) false, none⟩] [4, 5]) .ret)
 .skip))))))) (.seq (.reg [⟨(some 22), .mv (.t 0) false, none⟩,
  ⟨(some 23), .mv (.t 1) true, none⟩,
  ⟨(some 24), .callh f_extent_Extent_some [(.t 22), (.t 23), (.c (.fn f_extent_Extent_Take_1 []))], none⟩,
  ⟨(some 6), .mv (.t 24) true, none⟩] [0, 6]) (.seq (.seq (.reg [⟨(some 25), .mv (.t 6) false, none⟩,
  ⟨(some 26), .len false (.t 25), none⟩,
  ⟨(some 27), .mv (.c (.int .i64 0)) false, none⟩] [0, 6, 25, 26, 27]) (.block 1 l_extent_Extent_Take_0)) (.seq (.reg [⟨(some 35), .mv (.t 6) true, none⟩,
  ⟨(some 4), .mv (.t 35) true, none⟩,
  ⟨(some 5), .mv (.c (.int .i64 0)) false, none⟩] [4, 5]) .ret)))))
def c_extent_Extent_Take : AFunc := ⟨k_extent_Extent_Take, 36, [.t 4, .t 5], [], [1], []⟩
-- 21: wagtail/wagtailref01.Ints
def bl_ref01_Ints_0 : ACode := (.seq (.seq (.reg [⟨(some 11), .mv (.t 5) false, none⟩,
  ⟨(some 12), .mv (.t 0) false, none⟩,
  ⟨(some 13), .len false (.t 12), none⟩,
  ⟨(some 14), .bin .lss .int (.t 11) (.t 13), none⟩] [0, 1, 5, 14]) (.cond (.t 14)
 .skip
 (.exit 0))) (.seq (.block 1 (.seq (.regd [⟨(some 17), .mv (.t 0) false, none⟩,
  ⟨(some 18), .mv (.t 5) false, none⟩,
  ⟨(some 19), .ia (.sl 1) (.t 17) (.t 18), none⟩,
  ⟨(some 20), .load 0 (.t 19), none⟩,
  ⟨(some 21), .mv (.t 1) false, none⟩,
  ⟨(some 22), .mv (.t 5) false, none⟩,
  ⟨(some 23), .ia (.sl 1) (.t 21) (.t 22), none⟩,
  ⟨(some 24), .load 0 (.t 23), none⟩,
  ⟨(some 25), .bin .neq .int (.t 20) (.t 24), none⟩] [0, 1, 5, 25] [] []) (.cond (.t 25)
 (.seq (.reg [⟨(some 4), .mv (.c (.bool false)) false, none⟩] [4]) .ret)
 .skip))) (.reg [⟨(some 15), .mv (.t 5) true, none⟩,
  ⟨(some 16), .bin .add .int (.t 15) (.c (.int .i64 1)), none⟩,
  ⟨(some 5), .mv (.t 16) true, none⟩] [0, 1, 5])))
def l_ref01_Ints_0 : ACode := .loop [0, 1, 5] [] bl_ref01_Ints_0
theorem L_ref01_Ints_0 {T : Table} (ks : List Kt) (e : Env) (h : Heap) (Q : Ex → Env → Heap → Prop) : Xc T l_ref01_Ints_0 ks e h Q = Xc T bl_ref01_Ints_0 (.seq l_ref01_Ints_0 :: ks) (e.keep [0, 1, 5]) h Q := Xc_loop ks _ e h Q _ _
def k_ref01_Ints : ACode := (.seq (.reg [⟨(some 4), .mv (.c (.bool false)) false, none⟩] [0, 1]) (.seq (.seq (.reg [⟨(some 6), .mv (.t 0) false, none⟩,
  ⟨(some 7), .len false (.t 6), none⟩,
  ⟨(some 8), .mv (.t 1) false, none⟩,
  ⟨(some 9), .len false (.t 8), none⟩,
  ⟨(some 10), .bin .neq .int (.t 7) (.t 9), none⟩] [0, 1, 10]) (.cond (.t 10)
 (.seq (.reg [⟨(some 4), .mv (.c (.bool false)) false, none⟩] [4]) .ret)
 .skip)) (.seq (.seq (.reg [⟨(some 5), .mv (.c (.int .i64 0)) false, none⟩] [0, 1, 5]) (.block 0 l_ref01_Ints_0)) (.seq (.reg [⟨(some 4), .mv (.c (.bool true)) false, none⟩] [4]) .ret))))
def c_ref01_Ints : AFunc := ⟨k_ref01_Ints, 26, [.t 4], [], [], []⟩
-- 22: (*wagtail/extent.Extent).Free

def k_extent_Extent_Free : ACode := (.seq (.reg [⟨(some 2), .mv (.c (.int .i64 0)) false, none⟩] [0]) (.seq (.seq (.reg [⟨(some 3), .mv (.t 0) false, none⟩,
  ⟨(some 4), .bin .eql .ptr (.t 3) (.c .nilp), none⟩] [0, 4]) (.cond (.t 4)
 (.seq (.reg [⟨(some 2), .mv (.c (.int .i64 0)) false, none⟩] [2]) .ret)
 .skip)) (.seq (.reg [⟨(some 5), .mv (.t 0) true, none⟩,
  ⟨(some 6), .nilck (.t 5), none⟩,
  ⟨(some 7), .fa 1 (.t 6), none⟩,
  ⟨(some 8), .load 0 (.t 7), none⟩,
  ⟨(some 2), .mv (.t 8) true, none⟩] [2]) .ret)))
def c_extent_Extent_Free : AFunc := ⟨k_extent_Extent_Free, 9, [.t 2], [], [], []⟩
-- 25: (*wagtail/extent.Extent).Is

def k_extent_Extent_Is : ACode := (.seq (.reg [⟨(some 4), .mv (.c (.bool false)) false, none⟩] [0, 1]) (.seq (.reg [⟨(some 5), .mv (.t 0) false, none⟩,
  ⟨(some 6), .mv (.t 1) false, none⟩,
  ⟨(some 7), .callh f_extent_Extent_right [(.t 5), (.t 6)], none⟩,
  ⟨(some 8), .mv (.t 7) true, none⟩,
  ⟨(some 9), .mv (.t 0) true, (some (8, true))⟩,
  ⟨(some 10), .nilck (.t 9), (some (8, true))⟩,
  ⟨(some 11), .fa 0 (.t 10), (some (8, true))⟩,
  ⟨(some 12), .load 0 (.t 11), (some (8, true))⟩,
  ⟨(some 13), .mv (.t 1) true, (some (8, true))⟩,
  ⟨(some 14), .ia (.sl 1) (.t 12) (.t 13), (some (8, true))⟩,
  ⟨(some 15), .load 0 (.t 14), (some (8, true))⟩,
  ⟨(some 16), .pick (.t 8) (.t 15) (.c (.bool false)), none⟩,
  ⟨(some 4), .mv (.t 16) true, none⟩] [4]) .ret))
def c_extent_Extent_Is : AFunc := ⟨k_extent_Extent_Is, 17, [.t 4], [], [], []⟩
-- 17: (*wagtail/extent.Extent).Give
def bl_extent_Extent_Give_0 : ACode := (.seq (.reg [⟨(some 11), .bin .lss .int (.t 10) (.t 9), none⟩] [0, 5, 8, 9, 10, 11]) (.seq (.cond (.t 11)
 .skip
 (.exit 0)) (.seq (.block 1 (.seq (.reg [⟨(some 12), .ia (.sl 1) (.t 8) (.t 10), none⟩,
  ⟨(some 13), .load 0 (.t 12), none⟩,
  ⟨(some 7), .mv (.t 13) true, none⟩] [0, 5, 7, 8, 9, 10]) (.seq (.reg [⟨(some 14), .mv (.t 0) false, none⟩,
  ⟨(some 15), .mv (.t 7) false, none⟩,
  ⟨(some 16), .callh f_extent_Extent_Is [(.t 14), (.t 15)], none⟩] [0, 5, 7, 8, 9, 10, 16]) (.cond (.t 16)
 (.seq (.reg [⟨(some 17), .mv (.t 0) false, none⟩,
  ⟨(some 18), .mv (.t 7) true, none⟩,
  ⟨(some 19), .callh f_extent_Extent_set [(.t 17), (.t 18), (.c (.bool false))], none⟩] [0, 5, 8, 9, 10]) (.reg [⟨(some 20), .mv (.t 5) true, none⟩,
  ⟨(some 21), .bin .add .int (.t 20) (.c (.int .i64 1)), none⟩,
  ⟨(some 5), .mv (.t 21) true, none⟩] [0, 5, 8, 9, 10]))
 .skip)))) (.reg [⟨(some 22), .bin .add .int (.t 10) (.c (.int .i64 1)), none⟩,
  ⟨(some 10), .mv (.t 22) true, none⟩] [0, 5, 8, 9, 10]))))
def l_extent_Extent_Give_0 : ACode := .loop [0, 5, 8, 9, 10] [] bl_extent_Extent_Give_0
theorem L_extent_Extent_Give_0 {T : Table} (ks : List Kt) (e : Env) (h : Heap) (Q : Ex → Env → Heap → Prop) : Xc T l_extent_Extent_Give_0 ks e h Q = Xc T bl_extent_Extent_Give_0 (.seq l_extent_Extent_Give_0 :: ks) (e.keep [0, 5, 8, 9, 10]) h Q := Xc_loop ks _ e h Q _ _
def k_extent_Extent_Give : ACode := (.seq (.reg [⟨(some 4), .mv (.c (.int .i64 0)) false, none⟩] [0, 1]) (.seq (.reg [⟨(some 5), .mv (.c (.int .i64 0)) false, none⟩] [0, 1, 5]) (.seq (.seq (.reg [⟨(some 8), .mv (.t 1) true, none⟩,
  ⟨(some 9), .len false (.t 8), none⟩,
  ⟨(some 10), .mv (.c (.int .i64 0)) false, none⟩] [0, 5, 8, 9, 10]) (.block 0 l_extent_Extent_Give_0)) (.seq (.reg [⟨(some 23), .mv (.t 5) true, none⟩,
  ⟨(some 4), .mv (.t 23) true, none⟩] [4]) .ret))))
def c_extent_Extent_Give : AFunc := ⟨k_extent_Extent_Give, 24, [.t 4], [], [], []⟩
-- 24: (*wagtail/extent.Extent).Taken

def k_extent_Extent_Taken : ACode := (.seq (.reg [⟨(some 2), .mv (.c (.ps 1 [])) false, none⟩] [0]) (.seq (.seq (.reg [⟨(some 3), .mv (.t 0) false, none⟩,
  ⟨(some 4), .bin .eql .ptr (.t 3) (.c .nilp), none⟩] [0, 4]) (.cond (.t 4)
 (.seq (.reg [⟨(some 2), .mv (.c (.ps 1 [])) false, none⟩] [2]) .ret)
 .skip)) (.seq (.reg [⟨(some 5), .mv (.t 0) true, none⟩,
  ⟨(some 6), .callh f_extent_Extent_some [(.t 5), (.c (.int .i64 65536)), (.c (.fn f_extent_Extent_Taken_1 []))], none⟩,
  ⟨(some 2), .mv (.t 6) true, none⟩] [2]) .ret)))
def c_extent_Extent_Taken : AFunc := ⟨k_extent_Extent_Taken, 7, [.t 2], [], [0], []⟩
-- 14: wagtail/wagtaillaw25.awake

def k_law25_awake : ACode := (.seq (.reg [⟨(some 0), .mv (.c (.bool false)) false, none⟩] []) (.seq (.reg [⟨(some 4), .bsl 1 [(.c (.int .i64 2))] false, none⟩,
  ⟨(some 5), .callh f_extent_New [(.c (.int .i64 5)), (.t 4)], none⟩,
  ⟨(some 1), .mv (.t 5) true, none⟩] [1]) (.seq (.reg [⟨(some 7), .mv (.t 1) false, none⟩,
  ⟨(some 8), .callh f_extent_Extent_Take [(.t 7), (.c (.int .i64 2))], none⟩,
  ⟨(some 6), .mv (.t 8) true, none⟩,
  ⟨(some 9), .ext (.t 6) 0, none⟩,
  ⟨(some 10), .ext (.t 6) 1, none⟩,
  ⟨(some 2), .mv (.t 9) true, none⟩,
  ⟨(some 3), .mv (.t 10) true, none⟩] [1, 2, 3]) (.seq (.reg [⟨(some 11), .mv (.t 2) true, none⟩,
  ⟨(some 12), .bsl 1 [(.c (.int .i64 1)), (.c (.int .i64 3))] false, none⟩,
  ⟨(some 13), .callp f_ref01_Ints [(.t 11), (.t 12)] [(0, false), (1, false)], none⟩,
  ⟨(some 14), .mv (.t 13) true, none⟩,
  ⟨(some 15), .mv (.t 3) true, (some (14, true))⟩,
  ⟨(some 16), .bin .eql .int (.t 15) (.c (.int .i64 0)), (some (14, true))⟩,
  ⟨(some 17), .pick (.t 14) (.t 16) (.c (.bool false)), none⟩,
  ⟨(some 18), .mv (.t 17) true, none⟩,
  ⟨(some 19), .mv (.t 1) false, (some (18, true))⟩,
  ⟨(some 20), .callh f_extent_Extent_Free [(.t 19)], (some (18, true))⟩,
  ⟨(some 21), .bin .eql .int (.t 20) (.c (.int .i64 1)), (some (18, true))⟩,
  ⟨(some 22), .pick (.t 18) (.t 21) (.c (.bool false)), none⟩,
  ⟨(some 23), .mv (.t 22) true, none⟩,
  ⟨(some 24), .mv (.t 1) false, (some (23, true))⟩,
  ⟨(some 25), .callh f_extent_Extent_Is [(.t 24), (.c (.int .i64 3))], (some (23, true))⟩,
  ⟨(some 26), .pick (.t 23) (.t 25) (.c (.bool false)), none⟩,
  ⟨(some 27), .mv (.t 26) true, none⟩,
  ⟨(some 28), .mv (.t 1) false, (some (27, true))⟩,
  ⟨(some 29), .bsl 1 [(.c (.int .i64 3)), (.c (.int .i64 9))] false, (some (27, true))⟩,
  ⟨(some 30), .callh f_extent_Extent_Give [(.t 28), (.t 29)], (some (27, true))⟩,
  ⟨(some 31), .bin .eql .int (.t 30) (.c (.int .i64 1)), (some (27, true))⟩,
  ⟨(some 32), .pick (.t 27) (.t 31) (.c (.bool false)), none⟩,
  ⟨(some 33), .mv (.t 32) true, none⟩,
  ⟨(some 34), .mv (.t 1) true, (some (33, true))⟩,
  ⟨(some 35), .callh f_extent_Extent_Taken [(.t 34)], (some (33, true))⟩,
  ⟨(some 36), .bsl 1 [(.c (.int .i64 1)), (.c (.int .i64 2))] false, (some (33, true))⟩,
  ⟨(some 37), .callp f_ref01_Ints [(.t 35), (.t 36)] [(0, false), (1, false)], (some (33, true))⟩,
  ⟨(some 38), .pick (.t 33) (.t 37) (.c (.bool false)), none⟩,
  ⟨(some 0), .mv (.t 38) true, none⟩] [0]) .ret))))
def c_law25_awake : AFunc := ⟨k_law25_awake, 39, [.t 0], [], [], []⟩
-- 28: wagtail/wagtailref01.High

def k_ref01_High : ACode := (.seq (.reg [⟨(some 4), .mv (.c (.int .i64 0)) false, none⟩] [0, 1]) (.seq (.seq (.reg [⟨(some 5), .mv (.t 0) false, none⟩,
  ⟨(some 6), .mv (.t 1) false, none⟩,
  ⟨(some 7), .bin .gtr .int (.t 5) (.t 6), none⟩] [0, 1, 7]) (.cond (.t 7)
 (.seq (.reg [⟨(some 8), .mv (.t 0) true, none⟩,
  ⟨(some 4), .mv (.t 8) true, none⟩] [4]) .ret)
 .skip)) (.seq (.reg [⟨(some 9), .mv (.t 1) true, none⟩,
  ⟨(some 4), .mv (.t 9) true, none⟩] [4]) .ret)))
def c_ref01_High : AFunc := ⟨k_ref01_High, 10, [.t 4], [], [], []⟩
-- 29: wagtail/wagtailref01.Low

def k_ref01_Low : ACode := (.seq (.reg [⟨(some 4), .mv (.c (.int .i64 0)) false, none⟩] [0, 1]) (.seq (.seq (.reg [⟨(some 5), .mv (.t 0) false, none⟩,
  ⟨(some 6), .mv (.t 1) false, none⟩,
  ⟨(some 7), .bin .lss .int (.t 5) (.t 6), none⟩] [0, 1, 7]) (.cond (.t 7)
 (.seq (.reg [⟨(some 8), .mv (.t 0) true, none⟩,
  ⟨(some 4), .mv (.t 8) true, none⟩] [4]) .ret)
 .skip)) (.seq (.reg [⟨(some 9), .mv (.t 1) true, none⟩,
  ⟨(some 4), .mv (.t 9) true, none⟩] [4]) .ret)))
def c_ref01_Low : AFunc := ⟨k_ref01_Low, 10, [.t 4], [], [], []⟩
-- 26: wagtail/wagtailref13.Has
def bl_ref13_Has_0 : ACode := (.seq (.seq (.reg [⟨(some 6), .mv (.t 5) false, none⟩,
  ⟨(some 7), .mv (.t 0) false, none⟩,
  ⟨(some 8), .len false (.t 7), none⟩,
  ⟨(some 9), .bin .lss .int (.t 6) (.t 8), none⟩] [0, 1, 5, 9]) (.cond (.t 9)
 .skip
 (.exit 0))) (.seq (.block 1 (.seq (.reg [⟨(some 12), .mv (.t 0) false, none⟩,
  ⟨(some 13), .mv (.t 5) false, none⟩,
  ⟨(some 14), .ia (.sl 1) (.t 12) (.t 13), none⟩,
  ⟨(some 15), .load 0 (.t 14), none⟩,
  ⟨(some 16), .mv (.t 1) false, none⟩,
  ⟨(some 17), .bin .eql .int (.t 15) (.t 16), none⟩] [0, 1, 5, 17]) (.cond (.t 17)
 (.seq (.reg [⟨(some 4), .mv (.c (.bool true)) false, none⟩] [4]) .ret)
 .skip))) (.reg [⟨(some 10), .mv (.t 5) true, none⟩,
  ⟨(some 11), .bin .add .int (.t 10) (.c (.int .i64 1)), none⟩,
  ⟨(some 5), .mv (.t 11) true, none⟩] [0, 1, 5])))
def l_ref13_Has_0 : ACode := .loop [0, 1, 5] [] bl_ref13_Has_0
theorem L_ref13_Has_0 {T : Table} (ks : List Kt) (e : Env) (h : Heap) (Q : Ex → Env → Heap → Prop) : Xc T l_ref13_Has_0 ks e h Q = Xc T bl_ref13_Has_0 (.seq l_ref13_Has_0 :: ks) (e.keep [0, 1, 5]) h Q := Xc_loop ks _ e h Q _ _
def k_ref13_Has : ACode := (.seq (.reg [⟨(some 4), .mv (.c (.bool false)) false, none⟩] [0, 1]) (.seq (.seq (.reg [⟨(some 5), .mv (.c (.int .i64 0)) false, none⟩] [0, 1, 5]) (.block 0 l_ref13_Has_0)) (.seq (.reg [⟨(some 4), .mv (.c (.bool false)) false, none⟩] [4]) .ret)))
def c_ref13_Has : AFunc := ⟨k_ref13_Has, 18, [.t 4], [], [], []⟩
-- 68: wagtail/wagtailref25.put
def bl_ref25_put_0 : ACode := (.seq (.seq (.reg [⟨(some 11), .mv (.t 5) false, none⟩,
  ⟨(some 12), .mv (.t 0) false, none⟩,
  ⟨(some 13), .len false (.t 12), none⟩,
  ⟨(some 14), .bin .lss .int (.t 11) (.t 13), none⟩,
  ⟨(some 15), .mv (.t 14) true, none⟩,
  ⟨(some 16), .mv (.t 0) false, (some (15, true))⟩,
  ⟨(some 17), .mv (.t 5) false, (some (15, true))⟩,
  ⟨(some 18), .ia (.sl 1) (.t 16) (.t 17), (some (15, true))⟩,
  ⟨(some 19), .load 0 (.t 18), (some (15, true))⟩,
  ⟨(some 20), .mv (.t 1) false, (some (15, true))⟩,
  ⟨(some 21), .bin .lss .int (.t 19) (.t 20), (some (15, true))⟩,
  ⟨(some 22), .pick (.t 15) (.t 21) (.c (.bool false)), none⟩] [0, 1, 5, 22]) (.cond (.t 22)
 .skip
 (.exit 0))) (.block 1 (.reg [⟨(some 23), .mv (.t 5) true, none⟩,
  ⟨(some 24), .bin .add .int (.t 23) (.c (.int .i64 1)), none⟩,
  ⟨(some 5), .mv (.t 24) true, none⟩] [0, 1, 5])))
def l_ref25_put_0 : ACode := .loop [0, 1, 5] [] bl_ref25_put_0
theorem L_ref25_put_0 {T : Table} (ks : List Kt) (e : Env) (h : Heap) (Q : Ex → Env → Heap → Prop) : Xc T l_ref25_put_0 ks e h Q = Xc T bl_ref25_put_0 (.seq l_ref25_put_0 :: ks) (e.keep [0, 1, 5]) h Q := Xc_loop ks _ e h Q _ _
def k_ref25_put : ACode := (.seq (.reg [⟨(some 4), .mv (.c (.ps 1 [])) false, none⟩] [0, 1]) (.seq (.seq (.reg [⟨(some 7), .mv (.t 0) false, none⟩,
  ⟨(some 8), .mv (.t 1) false, none⟩,
  ⟨(some 9), .callp f_ref13_Has [(.t 7), (.t 8)] [(0, false)], none⟩] [0, 1, 9]) (.cond (.t 9)
 (.seq (.reg [⟨(some 10), .mv (.t 0) true, none⟩,
  ⟨(some 4), .mv (.t 10) true, none⟩] [4]) .ret)
 .skip)) (.seq (.reg [⟨(some 5), .mv (.c (.int .i64 0)) false, none⟩] [0, 1, 5]) (.seq (.block 0 l_ref25_put_0) (.seq (.reg [⟨(some 25), .bsl 1 [] false, none⟩,
  ⟨(some 26), .mv (.t 0) false, none⟩,
  ⟨(some 27), .mv (.t 5) false, none⟩,
  ⟨(some 28), .sl (.sl 1) (.t 26) none (some (.t 27)) none false, none⟩,
  ⟨(some 29), .app 1 8 (.t 25) (.t 28), none⟩,
  ⟨(some 6), .mv (.t 29) true, none⟩] [0, 1, 5, 6]) (.seq (.reg [⟨(some 30), .mv (.t 6) true, none⟩,
  ⟨(some 31), .mv (.t 1) true, none⟩,
  ⟨(some 32), .bsl 1 [(.t 31)] false, none⟩,
  ⟨(some 33), .app 1 8 (.t 30) (.t 32), none⟩,
  ⟨(some 6), .mv (.t 33) true, none⟩] [0, 5, 6]) (.seq (.reg [⟨(some 34), .mv (.t 6) true, none⟩,
  ⟨(some 35), .mv (.t 0) true, none⟩,
  ⟨(some 36), .mv (.t 5) true, none⟩,
  ⟨(some 37), .sl (.sl 1) (.t 35) (some (.t 36)) none none false, none⟩,
  ⟨(some 38), .app 1 8 (.t 34) (.t 37), none⟩,
  ⟨(some 4), .mv (.t 38) true, none⟩] [4]) .ret)))))))
def c_ref25_put : AFunc := ⟨k_ref25_put, 39, [.t 4], [], [], []⟩
-- 16: wagtail/wagtailref25.New
def bl_ref25_New_0 : ACode := (.seq (.seq (.reg [⟨(some 12), .mv (.t 6) false, none⟩,
  ⟨(some 13), .mv (.t 1) false, none⟩,
  ⟨(some 14), .len false (.t 13), none⟩,
  ⟨(some 15), .bin .lss .int (.t 12) (.t 14), none⟩] [1, 5, 6, 15]) (.cond (.t 15)
 .skip
 (.exit 0))) (.seq (.block 1 (.seq (.regd [⟨(some 18), .mv (.t 1) false, none⟩,
  ⟨(some 19), .mv (.t 6) false, none⟩,
  ⟨(some 20), .ia (.sl 1) (.t 18) (.t 19), none⟩,
  ⟨(some 21), .load 0 (.t 20), none⟩,
  ⟨(some 22), .bin .geq .int (.t 21) (.c (.int .i64 1)), none⟩,
  ⟨(some 23), .mv (.t 22) false, none⟩,
  ⟨(some 24), .mv (.t 1) false, (some (23, true))⟩,
  ⟨(some 25), .mv (.t 6) false, (some (23, true))⟩,
  ⟨(some 26), .ia (.sl 1) (.t 24) (.t 25), (some (23, true))⟩,
  ⟨(some 27), .load 0 (.t 26), (some (23, true))⟩,
  ⟨(some 28), .mv (.t 5) false, (some (23, true))⟩,
  ⟨(some 29), .nilck (.t 28), (some (23, true))⟩,
  ⟨(some 30), .fa 0 (.t 29), (some (23, true))⟩,
  ⟨(some 31), .load 0 (.t 30), (some (23, true))⟩,
  ⟨(some 32), .bin .lss .int (.t 27) (.t 31), (some (23, true))⟩,
  ⟨(some 33), .pick (.t 23) (.t 32) (.c (.bool false)), none⟩] [1, 5, 6, 33] [] []) (.cond (.t 33)
 (.regd [⟨(some 34), .mv (.t 5) false, none⟩,
  ⟨(some 35), .mv (.t 5) false, none⟩,
  ⟨(some 36), .nilck (.t 35), none⟩,
  ⟨(some 37), .fa 1 (.t 36), none⟩,
  ⟨(some 38), .load 0 (.t 37), none⟩,
  ⟨(some 39), .mv (.t 1) false, none⟩,
  ⟨(some 40), .mv (.t 6) false, none⟩,
  ⟨(some 41), .ia (.sl 1) (.t 39) (.t 40), none⟩,
  ⟨(some 42), .load 0 (.t 41), none⟩,
  ⟨(some 43), .callp f_ref25_put [(.t 38), (.t 42)] [], none⟩,
  ⟨(some 44), .nilck (.t 34), none⟩,
  ⟨(some 45), .fa 1 (.t 44), none⟩,
  ⟨none, .store 1 (.t 45) (.t 43), none⟩] [1, 5, 6] [] [])
 .skip))) (.reg [⟨(some 16), .mv (.t 6) true, none⟩,
  ⟨(some 17), .bin .add .int (.t 16) (.c (.int .i64 1)), none⟩,
  ⟨(some 6), .mv (.t 17) true, none⟩] [1, 5, 6])))
def l_ref25_New_0 : ACode := .loop [1, 5, 6] [] bl_ref25_New_0
theorem L_ref25_New_0 {T : Table} (ks : List Kt) (e : Env) (h : Heap) (Q : Ex → Env → Heap → Prop) : Xc T l_ref25_New_0 ks e h Q = Xc T bl_ref25_New_0 (.seq l_ref25_New_0 :: ks) (e.keep [1, 5, 6]) h Q := Xc_loop ks _ e h Q _ _
def k_ref25_New : ACode := (.seq (.reg [⟨(some 4), .mv (.c .nilp) false, none⟩] [0, 1]) (.seq (.reg [⟨(some 7), .mv (.t 0) true, none⟩,
  ⟨(some 8), .callp f_ref01_High [(.t 7), (.c (.int .i64 1))] [], none⟩,
  ⟨(some 9), .callp f_ref01_Low [(.t 8), (.c (.int .i64 65536))] [], none⟩,
  ⟨(some 10), .build [(.int .i64 0), (.ps 1 [])] [(0, 1, (.t 9))], none⟩,
  ⟨(some 11), .box (.t 10), none⟩,
  ⟨(some 5), .mv (.t 11) true, none⟩] [1, 5]) (.seq (.seq (.reg [⟨(some 6), .mv (.c (.int .i64 0)) false, none⟩] [1, 5, 6]) (.block 0 l_ref25_New_0)) (.seq (.reg [⟨(some 46), .mv (.t 5) true, none⟩,
  ⟨(some 4), .mv (.t 46) true, none⟩] [4]) .ret))))
def c_ref25_New : AFunc := ⟨k_ref25_New, 47, [.t 4], [], [], []⟩
-- 18: (*wagtail/wagtailref25.X).Give
def bl_ref25_X_Give_0 : ACode := (.seq (.seq (.reg [⟨(some 15), .mv (.t 8) false, none⟩,
  ⟨(some 16), .mv (.t 0) false, none⟩,
  ⟨(some 17), .nilck (.t 16), none⟩,
  ⟨(some 18), .fa 1 (.t 17), none⟩,
  ⟨(some 19), .load 0 (.t 18), none⟩,
  ⟨(some 20), .len false (.t 19), none⟩,
  ⟨(some 21), .bin .lss .int (.t 15) (.t 20), none⟩] [0, 1, 5, 6, 7, 8, 21]) (.cond (.t 21)
 .skip
 (.exit 2))) (.seq (.block 3 (.seq (.regd [⟨(some 24), .mv (.t 0) false, none⟩,
  ⟨(some 25), .nilck (.t 24), none⟩,
  ⟨(some 26), .fa 1 (.t 25), none⟩,
  ⟨(some 27), .load 0 (.t 26), none⟩,
  ⟨(some 28), .mv (.t 8) false, none⟩,
  ⟨(some 29), .ia (.sl 1) (.t 27) (.t 28), none⟩,
  ⟨(some 30), .load 0 (.t 29), none⟩,
  ⟨(some 31), .mv (.t 1) false, none⟩,
  ⟨(some 32), .mv (.t 6) false, none⟩,
  ⟨(some 33), .ia (.sl 1) (.t 31) (.t 32), none⟩,
  ⟨(some 34), .load 0 (.t 33), none⟩,
  ⟨(some 35), .bin .neq .int (.t 30) (.t 34), none⟩] [0, 1, 5, 6, 7, 8, 35] [(7, 0)] []) (.cond (.t 35)
 (.reg [⟨(some 36), .mv (.t 7) true, none⟩,
  ⟨(some 37), .mv (.t 0) false, none⟩,
  ⟨(some 38), .nilck (.t 37), none⟩,
  ⟨(some 39), .fa 1 (.t 38), none⟩,
  ⟨(some 40), .load 0 (.t 39), none⟩,
  ⟨(some 41), .mv (.t 8) false, none⟩,
  ⟨(some 42), .ia (.sl 1) (.t 40) (.t 41), none⟩,
  ⟨(some 43), .load 0 (.t 42), none⟩,
  ⟨(some 44), .bsl 1 [(.t 43)] false, none⟩,
  ⟨(some 45), .app 1 8 (.t 36) (.t 44), none⟩,
  ⟨(some 7), .mv (.t 45) true, none⟩] [0, 1, 5, 6, 7, 8])
 .skip))) (.reg [⟨(some 22), .mv (.t 8) true, none⟩,
  ⟨(some 23), .bin .add .int (.t 22) (.c (.int .i64 1)), none⟩,
  ⟨(some 8), .mv (.t 23) true, none⟩] [0, 1, 5, 6, 7, 8])))
def l_ref25_X_Give_0 : ACode := .loop [0, 1, 5, 6, 7, 8] [(7, 0)] bl_ref25_X_Give_0
theorem L_ref25_X_Give_0 {T : Table} (ks : List Kt) (e : Env) (h : Heap) (Q : Ex → Env → Heap → Prop) : Xc T l_ref25_X_Give_0 ks e h Q = Xc T bl_ref25_X_Give_0 (.seq l_ref25_X_Give_0 :: ks) (e.keep [0, 1, 5, 6, 7, 8]) h Q := Xc_loop ks _ e h Q _ _
def bl_ref25_X_Give_1 : ACode := (.seq (.seq (.reg [⟨(some 9), .mv (.t 6) false, none⟩,
  ⟨(some 10), .mv (.t 1) false, none⟩,
  ⟨(some 11), .len false (.t 10), none⟩,
  ⟨(some 12), .bin .lss .int (.t 9) (.t 11), none⟩] [0, 1, 5, 6, 12]) (.cond (.t 12)
 .skip
 (.exit 0))) (.seq (.block 1 (.seq (.reg [⟨(some 7), .mv (.c (.ps 1 [])) false, none⟩] [0, 1, 5, 6, 7]) (.seq (.seq (.reg [⟨(some 8), .mv (.c (.int .i64 0)) false, none⟩] [0, 1, 5, 6, 7, 8]) (.block 2 l_ref25_X_Give_0)) (.seq (.reg [⟨(some 46), .mv (.t 5) true, none⟩,
  ⟨(some 47), .mv (.t 0) false, none⟩,
  ⟨(some 48), .nilck (.t 47), none⟩,
  ⟨(some 49), .fa 1 (.t 48), none⟩,
  ⟨(some 50), .load 0 (.t 49), none⟩,
  ⟨(some 51), .len false (.t 50), none⟩,
  ⟨(some 52), .bin .add .int (.t 46) (.t 51), none⟩,
  ⟨(some 53), .mv (.t 7) false, none⟩,
  ⟨(some 54), .len false (.t 53), none⟩,
  ⟨(some 55), .bin .sub .int (.t 52) (.t 54), none⟩,
  ⟨(some 5), .mv (.t 55) true, none⟩] [0, 1, 5, 6, 7]) (.reg [⟨(some 56), .mv (.t 0) false, none⟩,
  ⟨(some 57), .mv (.t 7) true, none⟩,
  ⟨(some 58), .nilck (.t 56), none⟩,
  ⟨(some 59), .fa 1 (.t 58), none⟩,
  ⟨none, .store 1 (.t 59) (.t 57), none⟩] [0, 1, 5, 6]))))) (.reg [⟨(some 13), .mv (.t 6) true, none⟩,
  ⟨(some 14), .bin .add .int (.t 13) (.c (.int .i64 1)), none⟩,
  ⟨(some 6), .mv (.t 14) true, none⟩] [0, 1, 5, 6])))
def l_ref25_X_Give_1 : ACode := .loop [0, 1, 5, 6] [] bl_ref25_X_Give_1
theorem L_ref25_X_Give_1 {T : Table} (ks : List Kt) (e : Env) (h : Heap) (Q : Ex → Env → Heap → Prop) : Xc T l_ref25_X_Give_1 ks e h Q = Xc T bl_ref25_X_Give_1 (.seq l_ref25_X_Give_1 :: ks) (e.keep [0, 1, 5, 6]) h Q := Xc_loop ks _ e h Q _ _
def k_ref25_X_Give : ACode := (.seq (.reg [⟨(some 4), .mv (.c (.int .i64 0)) false, none⟩] [0, 1]) (.seq (.reg [⟨(some 5), .mv (.c (.int .i64 0)) false, none⟩] [0, 1, 5]) (.seq (.seq (.reg [⟨(some 6), .mv (.c (.int .i64 0)) false, none⟩] [0, 1, 5, 6]) (.block 0 l_ref25_X_Give_1)) (.seq (.reg [⟨(some 60), .mv (.t 5) true, none⟩,
  ⟨(some 4), .mv (.t 60) true, none⟩] [4]) .ret))))
def c_ref25_X_Give : AFunc := ⟨k_ref25_X_Give, 61, [.t 4], [], [], []⟩
-- 23: (*wagtail/wagtailref25.X).Free

def k_ref25_X_Free : ACode := (.seq (.reg [⟨(some 2), .mv (.c (.int .i64 0)) false, none⟩] [0]) (.seq (.regd [⟨(some 3), .mv (.t 0) false, none⟩,
  ⟨(some 4), .nilck (.t 3), none⟩,
  ⟨(some 5), .fa 0 (.t 4), none⟩,
  ⟨(some 6), .load 0 (.t 5), none⟩,
  ⟨(some 7), .bin .sub .int (.t 6) (.c (.int .i64 1)), none⟩,
  ⟨(some 8), .mv (.t 0) false, none⟩,
  ⟨(some 9), .nilck (.t 8), none⟩,
  ⟨(some 10), .fa 1 (.t 9), none⟩,
  ⟨(some 11), .load 0 (.t 10), none⟩,
  ⟨(some 12), .len false (.t 11), none⟩,
  ⟨(some 13), .bin .sub .int (.t 7) (.t 12), none⟩,
  ⟨(some 2), .mv (.t 13) false, none⟩] [2] [] []) .ret))
def c_ref25_X_Free : AFunc := ⟨k_ref25_X_Free, 14, [.t 2], [], [], []⟩
-- 20: (*wagtail/wagtailref25.X).Take
def bl_ref25_X_Take_0 : ACode := (.seq (.seq (.reg [⟨(some 15), .mv (.t 6) false, none⟩,
  ⟨(some 16), .len false (.t 15), none⟩,
  ⟨(some 17), .mv (.t 1) false, none⟩,
  ⟨(some 18), .bin .lss .int (.t 16) (.t 17), none⟩] [0, 1, 6, 7, 18]) (.cond (.t 18)
 .skip
 (.exit 0))) (.seq (.block 1 (.seq (.reg [⟨(some 21), .mv (.t 0) false, none⟩,
  ⟨(some 22), .nilck (.t 21), none⟩,
  ⟨(some 23), .fa 1 (.t 22), none⟩,
  ⟨(some 24), .load 0 (.t 23), none⟩,
  ⟨(some 25), .mv (.t 7) false, none⟩,
  ⟨(some 26), .callp f_ref13_Has [(.t 24), (.t 25)] [(0, false)], none⟩,
  ⟨(some 27), .un .not (.t 26), none⟩] [0, 1, 6, 7, 27]) (.cond (.t 27)
 (.reg [⟨(some 28), .mv (.t 6) true, none⟩,
  ⟨(some 29), .mv (.t 7) false, none⟩,
  ⟨(some 30), .bsl 1 [(.t 29)] false, none⟩,
  ⟨(some 31), .app 1 8 (.t 28) (.t 30), none⟩,
  ⟨(some 6), .mv (.t 31) true, none⟩] [0, 1, 6, 7])
 .skip))) (.reg [⟨(some 19), .mv (.t 7) true, none⟩,
  ⟨(some 20), .bin .add .int (.t 19) (.c (.int .i64 1)), none⟩,
  ⟨(some 7), .mv (.t 20) true, none⟩] [0, 1, 6, 7])))
def l_ref25_X_Take_0 : ACode := .loop [0, 1, 6, 7] [(6, 0)] bl_ref25_X_Take_0
theorem L_ref25_X_Take_0 {T : Table} (ks : List Kt) (e : Env) (h : Heap) (Q : Ex → Env → Heap → Prop) : Xc T l_ref25_X_Take_0 ks e h Q = Xc T bl_ref25_X_Take_0 (.seq l_ref25_X_Take_0 :: ks) (e.keep [0, 1, 6, 7]) h Q := Xc_loop ks _ e h Q _ _
def bl_ref25_X_Take_1 : ACode := (.seq (.seq (.reg [⟨(some 32), .mv (.t 8) false, none⟩,
  ⟨(some 33), .mv (.t 6) false, none⟩,
  ⟨(some 34), .len false (.t 33), none⟩,
  ⟨(some 35), .bin .lss .int (.t 32) (.t 34), none⟩] [0, 6, 8, 35]) (.cond (.t 35)
 .skip
 (.exit 2))) (.seq (.block 3 (.regd [⟨(some 38), .mv (.t 0) false, none⟩,
  ⟨(some 39), .mv (.t 0) false, none⟩,
  ⟨(some 40), .nilck (.t 39), none⟩,
  ⟨(some 41), .fa 1 (.t 40), none⟩,
  ⟨(some 42), .load 0 (.t 41), none⟩,
  ⟨(some 43), .mv (.t 6) false, none⟩,
  ⟨(some 44), .mv (.t 8) false, none⟩,
  ⟨(some 45), .ia (.sl 1) (.t 43) (.t 44), none⟩,
  ⟨(some 46), .load 0 (.t 45), none⟩,
  ⟨(some 47), .callp f_ref25_put [(.t 42), (.t 46)] [], none⟩,
  ⟨(some 48), .nilck (.t 38), none⟩,
  ⟨(some 49), .fa 1 (.t 48), none⟩,
  ⟨none, .store 1 (.t 49) (.t 47), none⟩] [0, 6, 8] [] [])) (.reg [⟨(some 36), .mv (.t 8) true, none⟩,
  ⟨(some 37), .bin .add .int (.t 36) (.c (.int .i64 1)), none⟩,
  ⟨(some 8), .mv (.t 37) true, none⟩] [0, 6, 8])))
def l_ref25_X_Take_1 : ACode := .loop [0, 6, 8] [] bl_ref25_X_Take_1
theorem L_ref25_X_Take_1 {T : Table} (ks : List Kt) (e : Env) (h : Heap) (Q : Ex → Env → Heap → Prop) : Xc T l_ref25_X_Take_1 ks e h Q = Xc T bl_ref25_X_Take_1 (.seq l_ref25_X_Take_1 :: ks) (e.keep [0, 6, 8]) h Q := Xc_loop ks _ e h Q _ _
def k_ref25_X_Take : ACode := (.seq (.reg [⟨(some 4), .mv (.c (.ps 1 [])) false, none⟩,
  ⟨(some 5), .mv (.c (.int .i64 0)) false, none⟩] [0, 1]) (.seq (.seq (.reg [⟨(some 9), .mv (.t 1) false, none⟩,
  ⟨(some 10), .bin .lss .int (.t 9) (.c (.int .i64 1)), none⟩] [0, 1, 10]) (.cond (.t 10)
 (.seq (.reg [⟨(some 4), .mv (.c (.ps 1 [])) false, none⟩,
  ⟨(some 5), .mv (.c (.int .i64 3)) false, none⟩] [4, 5]) .ret)
 .skip)) (.seq (.seq (.reg [⟨(some 11), .mv (.t 1) false, none⟩,
  ⟨(some 12), .mv (.t 0) false, none⟩,
  ⟨(some 13), .callh f_ref25_X_Free [(.t 12)], none⟩,
  ⟨(some 14), .bin .gtr .int (.t 11) (.t 13), none⟩] [0, 1, 14]) (.cond (.t 14)
 (.seq (.reg [⟨(some 4), .mv (.c (.ps 1 [])) false, none⟩,
  ⟨(some 5), .mv (.c (.int .i64 13)) false, none⟩] [4, 5]) .ret)
 .skip)) (.seq (.reg [⟨(some 6), .mv (.c (.ps 1 [])) false, none⟩] [0, 1, 6]) (.seq (.seq (.reg [⟨(some 7), .mv (.c (.int .i64 1)) false, none⟩] [0, 1, 6, 7]) (.block 0 l_ref25_X_Take_0)) (.seq (.seq (.reg [⟨(some 8), .mv (.c (.int .i64 0)) false, none⟩] [0, 6, 8]) (.block 2 l_ref25_X_Take_1)) (.seq (.reg [⟨(some 50), .mv (.t 6) true, none⟩,
  ⟨(some 4), .mv (.t 50) true, none⟩,
  ⟨(some 5), .mv (.c (.int .i64 0)) false, none⟩] [4, 5]) .ret)))))))
def c_ref25_X_Take : AFunc := ⟨k_ref25_X_Take, 51, [.t 4, .t 5], [], [], []⟩
-- 3: wagtail/wagtaillaw25.ExtentDoes
def bl_law25_ExtentDoes_0 : ACode := (.seq (.seq (.reg [⟨(some 39), .mv (.t 9) false, none⟩,
  ⟨(some 40), .mv (.t 2) false, none⟩,
  ⟨(some 41), .len false (.t 40), none⟩,
  ⟨(some 42), .bin .lss .int (.t 39) (.t 41), none⟩,
  ⟨(some 43), .mv (.t 42) true, none⟩,
  ⟨(some 44), .mv (.t 9) false, (some (43, true))⟩,
  ⟨(some 45), .bin .lss .int (.t 44) (.c (.int .i64 40)), (some (43, true))⟩,
  ⟨(some 46), .pick (.t 43) (.t 45) (.c (.bool false)), none⟩] [0, 2, 7, 8, 9, 46]) (.cond (.t 46)
 .skip
 (.exit 0))) (.seq (.block 1 (.seq (.reg [⟨(some 49), .mv (.t 2) false, none⟩,
  ⟨(some 50), .mv (.t 9) false, none⟩,
  ⟨(some 51), .ia (.sl 3) (.t 49) (.t 50), none⟩,
  ⟨(some 52), .load 3 (.t 51), none⟩,
  ⟨(some 10), .alloc [(.int .i64 0), (.int .i64 0), (.ps 1 [])], none⟩,
  ⟨none, .store 3 (.t 10) (.t 52), none⟩] [0, 2, 7, 8, 9, 10]) (.seq (.seq (.reg [⟨(some 53), .fa 1 (.t 10), none⟩,
  ⟨(some 54), .load 0 (.t 53), none⟩,
  ⟨(some 55), .bin .gtr .int (.t 54) (.c (.int .i64 100)), none⟩,
  ⟨(some 56), .mv (.t 55) true, none⟩,
  ⟨(some 57), .mv (.t 0) false, (some (56, true))⟩,
  ⟨(some 58), .bin .gtr .int (.t 57) (.c (.int .i64 200)), (some (56, true))⟩,
  ⟨(some 59), .pick (.t 56) (.t 58) (.c (.bool false)), none⟩,
  ⟨(some 60), .mv (.t 59) true, none⟩,
  ⟨(some 61), .fa 2 (.t 10), (some (60, false))⟩,
  ⟨(some 62), .load 0 (.t 61), (some (60, false))⟩,
  ⟨(some 63), .len false (.t 62), (some (60, false))⟩,
  ⟨(some 64), .bin .gtr .int (.t 63) (.c (.int .i64 60)), (some (60, false))⟩,
  ⟨(some 65), .pick (.t 60) (.c (.bool true)) (.t 64), none⟩] [0, 2, 7, 8, 9, 10, 65]) (.cond (.t 65)
 (.seq (.reg [⟨(some 6), .mv (.c (.bool true)) false, none⟩] [6]) .ret)
 .skip)) (.seq (.seq (.reg [⟨(some 66), .fa 0 (.t 10), none⟩,
  ⟨(some 67), .load 0 (.t 66), none⟩,
  ⟨(some 68), .bin .eql .int (.t 67) (.c (.int .i64 2)), none⟩] [0, 2, 7, 8, 9, 10, 68]) (.cond (.t 68)
 (.seq (.regd [⟨(some 69), .mv (.t 7) false, none⟩,
  ⟨(some 70), .fa 2 (.t 10), none⟩,
  ⟨(some 71), .load 0 (.t 70), none⟩,
  ⟨(some 72), .callh f_extent_Extent_Give [(.t 69), (.t 71)], none⟩,
  ⟨(some 73), .mv (.t 8) false, none⟩,
  ⟨(some 74), .fa 2 (.t 10), none⟩,
  ⟨(some 75), .load 0 (.t 74), none⟩,
  ⟨(some 76), .callh f_ref25_X_Give [(.t 73), (.t 75)], none⟩,
  ⟨(some 77), .bin .neq .int (.t 72) (.t 76), none⟩] [0, 2, 7, 8, 9, 10, 77] [] [(6, 0, 7)]) (.cond (.t 77)
 (.seq (.reg [⟨(some 6), .mv (.c (.bool false)) false, none⟩] [6]) .ret)
 .skip))
 (.seq (.reg [⟨(some 79), .mv (.t 7) false, none⟩,
  ⟨(some 80), .fa 1 (.t 10), none⟩,
  ⟨(some 81), .load 0 (.t 80), none⟩,
  ⟨(some 82), .callh f_extent_Extent_Take [(.t 79), (.t 81)], none⟩,
  ⟨(some 78), .mv (.t 82) true, none⟩,
  ⟨(some 83), .ext (.t 78) 0, none⟩,
  ⟨(some 84), .ext (.t 78) 1, none⟩,
  ⟨(some 11), .mv (.t 83) true, none⟩,
  ⟨(some 12), .mv (.t 84) true, none⟩] [0, 2, 7, 8, 9, 10, 11, 12]) (.seq (.reg [⟨(some 86), .mv (.t 8) false, none⟩,
  ⟨(some 87), .fa 1 (.t 10), none⟩,
  ⟨(some 88), .load 0 (.t 87), none⟩,
  ⟨(some 89), .callh f_ref25_X_Take [(.t 86), (.t 88)], none⟩,
  ⟨(some 85), .mv (.t 89) true, none⟩,
  ⟨(some 90), .ext (.t 85) 0, none⟩,
  ⟨(some 91), .ext (.t 85) 1, none⟩,
  ⟨(some 13), .mv (.t 90) true, none⟩,
  ⟨(some 14), .mv (.t 91) true, none⟩] [0, 2, 7, 8, 9, 10, 11, 12, 13, 14]) (.seq (.reg [⟨(some 92), .mv (.t 11) true, none⟩,
  ⟨(some 93), .mv (.t 13) true, none⟩,
  ⟨(some 94), .callp f_ref01_Ints [(.t 92), (.t 93)] [(0, false), (1, false)], none⟩,
  ⟨(some 95), .un .not (.t 94), none⟩,
  ⟨(some 96), .mv (.t 95) true, none⟩,
  ⟨(some 97), .mv (.t 12) true, (some (96, false))⟩,
  ⟨(some 98), .mv (.t 14) true, (some (96, false))⟩,
  ⟨(some 99), .bin .neq .int (.t 97) (.t 98), (some (96, false))⟩,
  ⟨(some 100), .pick (.t 96) (.c (.bool true)) (.t 99), none⟩] [0, 2, 7, 8, 9, 10, 100]) (.cond (.t 100)
 (.seq (.reg [⟨(some 6), .mv (.c (.bool false)) false, none⟩] [6]) .ret)
 .skip)))))) (.seq (.regd [⟨(some 101), .mv (.t 7) false, none⟩,
  ⟨(some 102), .callh f_extent_Extent_Free [(.t 101)], none⟩,
  ⟨(some 103), .mv (.t 8) false, none⟩,
  ⟨(some 104), .callh f_ref25_X_Free [(.t 103)], none⟩,
  ⟨(some 105), .bin .neq .int (.t 102) (.t 104), none⟩,
  ⟨(some 106), .mv (.t 105) false, none⟩,
  ⟨(some 107), .mv (.t 7) false, (some (106, false))⟩,
  ⟨(some 108), .callh f_extent_Extent_Taken [(.t 107)], (some (106, false))⟩,
  ⟨(some 109), .mv (.t 8) false, (some (106, false))⟩,
  ⟨(some 110), .nilck (.t 109), (some (106, false))⟩,
  ⟨(some 111), .fa 1 (.t 110), (some (106, false))⟩,
  ⟨(some 112), .load 0 (.t 111), (some (106, false))⟩,
  ⟨(some 113), .callp f_ref01_Ints [(.t 108), (.t 112)] [(0, false), (1, false)], (some (106, false))⟩,
  ⟨(some 114), .un .not (.t 113), (some (106, false))⟩,
  ⟨(some 115), .pick (.t 106) (.c (.bool true)) (.t 114), none⟩,
  ⟨(some 116), .mv (.t 115) false, none⟩,
  ⟨(some 117), .mv (.t 7) false, (some (116, false))⟩,
  ⟨(some 118), .fa 1 (.t 10), (some (116, false))⟩,
  ⟨(some 119), .load 0 (.t 118), (some (116, false))⟩,
  ⟨(some 120), .callh f_extent_Extent_Is [(.t 117), (.t 119)], (some (116, false))⟩,
  ⟨(some 121), .mv (.t 8) false, (some (116, false))⟩,
  ⟨(some 122), .nilck (.t 121), (some (116, false))⟩,
  ⟨(some 123), .fa 1 (.t 122), (some (116, false))⟩,
  ⟨(some 124), .load 0 (.t 123), (some (116, false))⟩,
  ⟨(some 125), .fa 1 (.t 10), (some (116, false))⟩,
  ⟨(some 126), .load 0 (.t 125), (some (116, false))⟩,
  ⟨(some 127), .callp f_ref13_Has [(.t 124), (.t 126)] [(0, false)], (some (116, false))⟩,
  ⟨(some 128), .bin .neq .bool (.t 120) (.t 127), (some (116, false))⟩,
  ⟨(some 129), .pick (.t 116) (.c (.bool true)) (.t 128), none⟩] [0, 2, 7, 8, 9, 129] [] [(11, 4, 19), (23, 8, 29), (25, 8, 29)]) (.cond (.t 129)
 (.seq (.reg [⟨(some 6), .mv (.c (.bool false)) false, none⟩] [6]) .ret)
 .skip)))))) (.reg [⟨(some 47), .mv (.t 9) true, none⟩,
  ⟨(some 48), .bin .add .int (.t 47) (.c (.int .i64 1)), none⟩,
  ⟨(some 9), .mv (.t 48) true, none⟩] [0, 2, 7, 8, 9])))
def l_law25_ExtentDoes_0 : ACode := .loop [0, 2, 7, 8, 9] [] bl_law25_ExtentDoes_0
theorem L_law25_ExtentDoes_0 {T : Table} (ks : List Kt) (e : Env) (h : Heap) (Q : Ex → Env → Heap → Prop) : Xc T l_law25_ExtentDoes_0 ks e h Q = Xc T bl_law25_ExtentDoes_0 (.seq l_law25_ExtentDoes_0 :: ks) (e.keep [0, 2, 7, 8, 9]) h Q := Xc_loop ks _ e h Q _ _
def k_law25_ExtentDoes : ACode := (.seq (.reg [⟨(some 6), .mv (.c (.bool false)) false, none⟩] [0, 1, 2]) (.seq (.seq (.reg [⟨(some 15), .mv (.t 1) false, none⟩,
  ⟨(some 16), .len false (.t 15), none⟩,
  ⟨(some 17), .bin .gtr .int (.t 16) (.c (.int .i64 60)), none⟩,
  ⟨(some 18), .mv (.t 17) true, none⟩,
  ⟨(some 19), .mv (.t 0) false, (some (18, false))⟩,
  ⟨(some 20), .bin .gtr .int (.t 19) (.c (.int .i64 200)), (some (18, false))⟩,
  ⟨(some 21), .mv (.t 20) true, (some (18, false))⟩,
  ⟨(some 22), .mv (.t 0) false, (some (21, true))⟩,
  ⟨(some 23), .bin .leq .int (.t 22) (.c (.int .i64 65536)), (some (21, true))⟩,
  ⟨(some 24), .pick (.t 21) (.t 23) (.c (.bool false)), (some (18, false))⟩,
  ⟨(some 25), .pick (.t 18) (.c (.bool true)) (.t 24), none⟩,
  ⟨(some 26), .mv (.t 25) true, none⟩,
  ⟨(some 27), .callp f_law25_awake [] [], (some (26, false))⟩,
  ⟨(some 28), .un .not (.t 27), (some (26, false))⟩,
  ⟨(some 29), .pick (.t 26) (.c (.bool true)) (.t 28), none⟩] [0, 1, 2, 29]) (.cond (.t 29)
 (.seq (.reg [⟨(some 30), .callp f_law25_awake [] [], none⟩,
  ⟨(some 6), .mv (.t 30) true, none⟩] [6]) .ret)
 .skip)) (.seq (.reg [⟨(some 31), .mv (.t 0) false, none⟩,
  ⟨(some 32), .mv (.t 1) false, none⟩,
  ⟨(some 33), .callh f_extent_New [(.t 31), (.t 32)], none⟩,
  ⟨(some 7), .mv (.t 33) true, none⟩] [0, 1, 2, 7]) (.seq (.reg [⟨(some 34), .mv (.t 0) false, none⟩,
  ⟨(some 35), .mv (.t 1) true, none⟩,
  ⟨(some 36), .callh f_ref25_New [(.t 34), (.t 35)], none⟩,
  ⟨(some 8), .mv (.t 36) true, none⟩] [0, 2, 7, 8]) (.seq (.seq (.reg [⟨(some 37), .mv (.t 7) false, none⟩,
  ⟨(some 38), .bin .eql .ptr (.t 37) (.c .nilp), none⟩] [0, 2, 7, 8, 38]) (.cond (.t 38)
 (.seq (.reg [⟨(some 6), .mv (.c (.bool false)) false, none⟩] [6]) .ret)
 .skip)) (.seq (.seq (.reg [⟨(some 9), .mv (.c (.int .i64 0)) false, none⟩] [0, 2, 7, 8, 9]) (.block 0 l_law25_ExtentDoes_0)) (.seq (.reg [⟨(some 6), .mv (.c (.bool true)) false, none⟩] [6]) .ret)))))))
def c_law25_ExtentDoes : AFunc := ⟨k_law25_ExtentDoes, 130, [.t 6], [], [], []⟩
-- 46: wagtail/wagtaillaw21.light

def k_law21_light : ACode := (.seq (.reg [⟨(some 4), .mv (.c (.bool false)) false, none⟩] [0, 1]) (.seq (.reg [⟨(some 5), .mv (.t 0) true, none⟩,
  ⟨(some 6), .len false (.t 5), none⟩,
  ⟨(some 7), .bin .leq .int (.t 6) (.c (.int .i64 60)), none⟩,
  ⟨(some 8), .mv (.t 7) true, none⟩,
  ⟨(some 9), .mv (.t 1) true, (some (8, true))⟩,
  ⟨(some 10), .len false (.t 9), (some (8, true))⟩,
  ⟨(some 11), .bin .leq .int (.t 10) (.c (.int .i64 100)), (some (8, true))⟩,
  ⟨(some 12), .pick (.t 8) (.t 11) (.c (.bool false)), none⟩,
  ⟨(some 4), .mv (.t 12) true, none⟩] [4]) .ret))
def c_law21_light : AFunc := ⟨k_law21_light, 13, [.t 4], [], [], []⟩
-- 52: wagtail/wear.Of

def k_wear_Of : ACode := (.seq (.reg [⟨(some 4), .mv (.c (.int .i64 0)) false, none⟩] [0, 1]) (.seq (.seq (.reg [⟨(some 5), .mv (.t 1) false, none⟩,
  ⟨(some 6), .bin .lss .int (.t 5) (.c (.int .i64 0)), none⟩,
  ⟨(some 7), .mv (.t 6) true, none⟩,
  ⟨(some 8), .mv (.t 1) false, (some (7, false))⟩,
  ⟨(some 9), .mv (.t 0) false, (some (7, false))⟩,
  ⟨(some 10), .len false (.t 9), (some (7, false))⟩,
  ⟨(some 11), .bin .geq .int (.t 8) (.t 10), (some (7, false))⟩,
  ⟨(some 12), .pick (.t 7) (.c (.bool true)) (.t 11), none⟩] [0, 1, 12]) (.cond (.t 12)
 (.seq (.reg [⟨(some 4), .mv (.c (.int .i64 0)) false, none⟩] [4]) .ret)
 .skip)) (.seq (.reg [⟨(some 13), .mv (.t 0) true, none⟩,
  ⟨(some 14), .mv (.t 1) true, none⟩,
  ⟨(some 15), .ia (.sl 1) (.t 13) (.t 14), none⟩,
  ⟨(some 16), .load 0 (.t 15), none⟩,
  ⟨(some 17), .mx true [(.t 16), (.c (.int .i64 0))], none⟩,
  ⟨(some 4), .mv (.t 17) true, none⟩] [4]) .ret)))
def c_wear_Of : AFunc := ⟨k_wear_Of, 18, [.t 4], [], [], []⟩
-- 81: wagtail/wear.Least$1

def k_wear_Least_1 : ACode := (.seq (.reg [⟨(some 5), .mv (.c (.bool false)) false, none⟩] [0, 1, 2]) (.seq (.regd [⟨(some 8), .load 0 (.t 2), none⟩,
  ⟨(some 9), .mv (.t 0) false, none⟩,
  ⟨(some 10), .callp f_wear_Of [(.t 8), (.t 9)] [(0, false)], none⟩,
  ⟨(some 11), .load 0 (.t 2), none⟩,
  ⟨(some 12), .mv (.t 1) false, none⟩,
  ⟨(some 13), .callp f_wear_Of [(.t 11), (.t 12)] [(0, false)], none⟩,
  ⟨(some 6), .mv (.t 10) false, none⟩,
  ⟨(some 7), .mv (.t 13) false, none⟩] [0, 1, 6, 7] [] []) (.seq (.reg [⟨(some 14), .mv (.t 6) false, none⟩,
  ⟨(some 15), .mv (.t 7) false, none⟩,
  ⟨(some 16), .bin .lss .int (.t 14) (.t 15), none⟩,
  ⟨(some 17), .mv (.t 16) true, none⟩,
  ⟨(some 18), .mv (.t 6) true, (some (17, false))⟩,
  ⟨(some 19), .mv (.t 7) true, (some (17, false))⟩,
  ⟨(some 20), .bin .eql .int (.t 18) (.t 19), (some (17, false))⟩,
  ⟨(some 21), .mv (.t 20) true, (some (17, false))⟩,
  ⟨(some 22), .mv (.t 0) true, (some (21, true))⟩,
  ⟨(some 23), .mv (.t 1) true, (some (21, true))⟩,
  ⟨(some 24), .bin .lss .int (.t 22) (.t 23), (some (21, true))⟩,
  ⟨(some 25), .pick (.t 21) (.t 24) (.c (.bool false)), (some (17, false))⟩,
  ⟨(some 26), .pick (.t 17) (.c (.bool true)) (.t 25), none⟩,
  ⟨(some 5), .mv (.t 26) true, none⟩] [5]) .ret)))
def c_wear_Least_1 : AFunc := ⟨k_wear_Least_1, 27, [.t 5], [], [], []⟩
-- 80: wagtail/wear.best
def bl_wear_best_0 : ACode := (.seq (.reg [⟨(some 12), .bin .lss .int (.t 11) (.t 10), none⟩] [0, 1, 6, 9, 10, 11, 12]) (.seq (.cond (.t 12)
 .skip
 (.exit 0)) (.seq (.block 1 (.seq (.reg [⟨(some 13), .mv (.t 11) false, none⟩,
  ⟨(some 14), .ia (.sl 1) (.t 9) (.t 11), none⟩,
  ⟨(some 15), .load 0 (.t 14), none⟩,
  ⟨(some 7), .mv (.t 13) true, none⟩,
  ⟨(some 8), .mv (.t 15) true, none⟩] [0, 1, 6, 7, 8, 9, 10, 11]) (.seq (.reg [⟨(some 16), .mv (.t 7) true, none⟩,
  ⟨(some 17), .bin .eql .int (.t 16) (.c (.int .i64 0)), none⟩,
  ⟨(some 18), .mv (.t 17) true, none⟩,
  ⟨(some 19), .mv (.t 1) false, (some (18, false))⟩,
  ⟨(some 20), .mv (.t 8) false, (some (18, false))⟩,
  ⟨(some 21), .mv (.t 6) false, (some (18, false))⟩,
  ⟨(some 22), .callv (.t 19) [(.t 20), (.t 21)], (some (18, false))⟩,
  ⟨(some 23), .pick (.t 18) (.c (.bool true)) (.t 22), none⟩] [0, 1, 6, 8, 9, 10, 11, 23]) (.cond (.t 23)
 (.reg [⟨(some 24), .mv (.t 8) true, none⟩,
  ⟨(some 6), .mv (.t 24) true, none⟩] [0, 1, 6, 9, 10, 11])
 .skip)))) (.reg [⟨(some 25), .bin .add .int (.t 11) (.c (.int .i64 1)), none⟩,
  ⟨(some 11), .mv (.t 25) true, none⟩] [0, 1, 6, 9, 10, 11]))))
def l_wear_best_0 : ACode := .loop [0, 1, 6, 9, 10, 11] [] bl_wear_best_0
theorem L_wear_best_0 {T : Table} (ks : List Kt) (e : Env) (h : Heap) (Q : Ex → Env → Heap → Prop) : Xc T l_wear_best_0 ks e h Q = Xc T bl_wear_best_0 (.seq l_wear_best_0 :: ks) (e.keep [0, 1, 6, 9, 10, 11]) h Q := Xc_loop ks _ e h Q _ _
def k_wear_best : ACode := (.seq (.reg [⟨(some 4), .mv (.c (.int .i64 0)) false, none⟩,
  ⟨(some 5), .mv (.c (.bool false)) false, none⟩] [0, 1]) (.seq (.reg [⟨(some 6), .mv (.c (.int .i64 0)) false, none⟩] [0, 1, 6]) (.seq (.seq (.reg [⟨(some 9), .mv (.t 0) false, none⟩,
  ⟨(some 10), .len false (.t 9), none⟩,
  ⟨(some 11), .mv (.c (.int .i64 0)) false, none⟩] [0, 1, 6, 9, 10, 11]) (.block 0 l_wear_best_0)) (.seq (.reg [⟨(some 26), .mv (.t 6) true, none⟩,
  ⟨(some 27), .mv (.t 0) true, none⟩,
  ⟨(some 28), .len false (.t 27), none⟩,
  ⟨(some 29), .bin .gtr .int (.t 28) (.c (.int .i64 0)), none⟩,
  ⟨(some 4), .mv (.t 26) true, none⟩,
  ⟨(some 5), .mv (.t 29) true, none⟩] [4, 5]) .ret))))
def c_wear_best : AFunc := ⟨k_wear_best, 30, [.t 4, .t 5], [], [], []⟩
-- 48: wagtail/wear.Least

def k_wear_Least : ACode := (.seq (.reg [⟨(some 3), .box (.t 1), none⟩,
  ⟨(some 4), .mv (.c (.int .i64 0)) false, none⟩,
  ⟨(some 5), .mv (.c (.bool false)) false, none⟩] [0, 3]) (.seq (.reg [⟨(some 6), .mv (.t 0) true, none⟩,
  ⟨(some 7), .mkfn f_wear_Least_1 [(.t 3)], none⟩,
  ⟨(some 8), .callh f_wear_best [(.t 6), (.t 7)], none⟩,
  ⟨(some 9), .ext (.t 8) 0, none⟩,
  ⟨(some 10), .ext (.t 8) 1, none⟩,
  ⟨(some 4), .mv (.t 9) true, none⟩,
  ⟨(some 5), .mv (.t 10) true, none⟩] [4, 5]) .ret))
def c_wear_Least : AFunc := ⟨k_wear_Least, 11, [.t 4, .t 5], [], [], []⟩
-- 82: wagtail/wear.Most$1

def k_wear_Most_1 : ACode := (.seq (.reg [⟨(some 5), .mv (.c (.bool false)) false, none⟩] [0, 1, 2]) (.seq (.regd [⟨(some 8), .load 0 (.t 2), none⟩,
  ⟨(some 9), .mv (.t 0) false, none⟩,
  ⟨(some 10), .callp f_wear_Of [(.t 8), (.t 9)] [(0, false)], none⟩,
  ⟨(some 11), .load 0 (.t 2), none⟩,
  ⟨(some 12), .mv (.t 1) false, none⟩,
  ⟨(some 13), .callp f_wear_Of [(.t 11), (.t 12)] [(0, false)], none⟩,
  ⟨(some 6), .mv (.t 10) false, none⟩,
  ⟨(some 7), .mv (.t 13) false, none⟩] [0, 1, 6, 7] [] []) (.seq (.reg [⟨(some 14), .mv (.t 6) false, none⟩,
  ⟨(some 15), .mv (.t 7) false, none⟩,
  ⟨(some 16), .bin .gtr .int (.t 14) (.t 15), none⟩,
  ⟨(some 17), .mv (.t 16) true, none⟩,
  ⟨(some 18), .mv (.t 6) true, (some (17, false))⟩,
  ⟨(some 19), .mv (.t 7) true, (some (17, false))⟩,
  ⟨(some 20), .bin .eql .int (.t 18) (.t 19), (some (17, false))⟩,
  ⟨(some 21), .mv (.t 20) true, (some (17, false))⟩,
  ⟨(some 22), .mv (.t 0) true, (some (21, true))⟩,
  ⟨(some 23), .mv (.t 1) true, (some (21, true))⟩,
  ⟨(some 24), .bin .lss .int (.t 22) (.t 23), (some (21, true))⟩,
  ⟨(some 25), .pick (.t 21) (.t 24) (.c (.bool false)), (some (17, false))⟩,
  ⟨(some 26), .pick (.t 17) (.c (.bool true)) (.t 25), none⟩,
  ⟨(some 5), .mv (.t 26) true, none⟩] [5]) .ret)))
def c_wear_Most_1 : AFunc := ⟨k_wear_Most_1, 27, [.t 5], [], [], []⟩
-- 49: wagtail/wear.Most

def k_wear_Most : ACode := (.seq (.reg [⟨(some 3), .box (.t 1), none⟩,
  ⟨(some 4), .mv (.c (.int .i64 0)) false, none⟩,
  ⟨(some 5), .mv (.c (.bool false)) false, none⟩] [0, 3]) (.seq (.reg [⟨(some 6), .mv (.t 0) true, none⟩,
  ⟨(some 7), .mkfn f_wear_Most_1 [(.t 3)], none⟩,
  ⟨(some 8), .callh f_wear_best [(.t 6), (.t 7)], none⟩,
  ⟨(some 9), .ext (.t 8) 0, none⟩,
  ⟨(some 10), .ext (.t 8) 1, none⟩,
  ⟨(some 4), .mv (.t 9) true, none⟩,
  ⟨(some 5), .mv (.t 10) true, none⟩] [4, 5]) .ret))
def c_wear_Most : AFunc := ⟨k_wear_Most, 11, [.t 4, .t 5], [], [], []⟩
-- 54: wagtail/wear.Gap

def k_wear_Gap : ACode := (.seq (.reg [⟨(some 4), .mv (.c (.int .i64 0)) false, none⟩] [0, 1]) (.seq (.reg [⟨(some 10), .mv (.t 0) false, none⟩,
  ⟨(some 11), .mv (.t 1) false, none⟩,
  ⟨(some 12), .callp f_wear_Least [(.t 10), (.t 11)] [(0, false), (1, false)], none⟩,
  ⟨(some 9), .mv (.t 12) true, none⟩,
  ⟨(some 13), .ext (.t 9) 0, none⟩,
  ⟨(some 14), .ext (.t 9) 1, none⟩,
  ⟨(some 5), .mv (.t 13) true, none⟩,
  ⟨(some 6), .mv (.t 14) true, none⟩] [0, 1, 5, 6]) (.seq (.reg [⟨(some 16), .mv (.t 0) true, none⟩,
  ⟨(some 17), .mv (.t 1) false, none⟩,
  ⟨(some 18), .callp f_wear_Most [(.t 16), (.t 17)] [(0, false), (1, false)], none⟩,
  ⟨(some 15), .mv (.t 18) true, none⟩,
  ⟨(some 19), .ext (.t 15) 0, none⟩,
  ⟨(some 20), .ext (.t 15) 1, none⟩,
  ⟨(some 7), .mv (.t 19) true, none⟩,
  ⟨(some 8), .mv (.t 20) true, none⟩] [1, 5, 6, 7]) (.seq (.seq (.reg [⟨(some 21), .mv (.t 6) true, none⟩,
  ⟨(some 22), .un .not (.t 21), none⟩] [1, 5, 7, 22]) (.cond (.t 22)
 (.seq (.reg [⟨(some 4), .mv (.c (.int .i64 0)) false, none⟩] [4]) .ret)
 .skip)) (.seq (.reg [⟨(some 23), .mv (.t 1) false, none⟩,
  ⟨(some 24), .mv (.t 7) true, none⟩,
  ⟨(some 25), .callp f_wear_Of [(.t 23), (.t 24)] [(0, false)], none⟩,
  ⟨(some 26), .mv (.t 1) true, none⟩,
  ⟨(some 27), .mv (.t 5) true, none⟩,
  ⟨(some 28), .callp f_wear_Of [(.t 26), (.t 27)] [(0, false)], none⟩,
  ⟨(some 29), .bin .sub .int (.t 25) (.t 28), none⟩,
  ⟨(some 4), .mv (.t 29) true, none⟩] [4]) .ret)))))
def c_wear_Gap : AFunc := ⟨k_wear_Gap, 30, [.t 4], [], [], []⟩
-- 79: wagtail/wear.Add
def bl_wear_Add_0 : ACode := (.seq (.reg [⟨(some 24), .bin .lss .int (.t 23) (.t 22), none⟩] [0, 1, 6, 7, 22, 23, 24]) (.seq (.cond (.t 24)
 .skip
 (.exit 0)) (.seq (.block 1 (.seq (.reg [⟨(some 25), .mv (.t 23) false, none⟩,
  ⟨(some 8), .mv (.t 25) true, none⟩] [0, 1, 6, 7, 8, 22, 23]) (.reg [⟨(some 26), .mv (.t 7) true, none⟩,
  ⟨(some 27), .mv (.t 0) false, none⟩,
  ⟨(some 28), .mv (.t 8) true, none⟩,
  ⟨(some 29), .callp f_wear_Of [(.t 27), (.t 28)] [(0, false)], none⟩,
  ⟨(some 30), .bsl 1 [(.t 29)] false, none⟩,
  ⟨(some 31), .apph 1 8 (.t 26) (.t 30), none⟩,
  ⟨(some 7), .mv (.t 31) true, none⟩] [0, 1, 6, 7, 22, 23]))) (.reg [⟨(some 32), .bin .add .int (.t 23) (.c (.int .i64 1)), none⟩,
  ⟨(some 23), .mv (.t 32) true, none⟩] [0, 1, 6, 7, 22, 23]))))
def l_wear_Add_0 : ACode := .loop [0, 1, 6, 7, 22, 23] [] bl_wear_Add_0
theorem L_wear_Add_0 {T : Table} (ks : List Kt) (e : Env) (h : Heap) (Q : Ex → Env → Heap → Prop) : Xc T l_wear_Add_0 ks e h Q = Xc T bl_wear_Add_0 (.seq l_wear_Add_0 :: ks) (e.keep [0, 1, 6, 7, 22, 23]) h Q := Xc_loop ks _ e h Q _ _
def k_wear_Add : ACode := (.seq (.reg [⟨(some 4), .mv (.c (.hn 1)) false, none⟩] [0, 1]) (.seq (.reg [⟨(some 9), .mv (.t 0) false, none⟩,
  ⟨(some 10), .len false (.t 9), none⟩,
  ⟨(some 5), .mv (.t 10) true, none⟩] [0, 1, 5]) (.seq (.reg [⟨(some 11), .mv (.t 1) false, none⟩,
  ⟨(some 12), .bin .geq .int (.t 11) (.c (.int .i64 0)), none⟩,
  ⟨(some 13), .mv (.t 12) true, none⟩,
  ⟨(some 14), .mv (.t 1) false, (some (13, true))⟩,
  ⟨(some 15), .bin .leq .int (.t 14) (.c (.int .i64 1023)), (some (13, true))⟩,
  ⟨(some 16), .pick (.t 13) (.t 15) (.c (.bool false)), none⟩,
  ⟨(some 6), .mv (.t 16) true, none⟩] [0, 1, 5, 6]) (.seq (.seq (.reg [⟨(some 17), .mv (.t 6) false, none⟩] [0, 1, 5, 6, 17]) (.cond (.t 17)
 (.reg [⟨(some 18), .mv (.t 5) true, none⟩,
  ⟨(some 19), .mv (.t 1) false, none⟩,
  ⟨(some 20), .bin .add .int (.t 19) (.c (.int .i64 1)), none⟩,
  ⟨(some 21), .mx true [(.t 18), (.t 20)], none⟩,
  ⟨(some 5), .mv (.t 21) true, none⟩] [0, 1, 5, 6])
 .skip)) (.seq (.reg [⟨(some 7), .mv (.c (.hn 1)) false, none⟩] [0, 1, 5, 6, 7]) (.seq (.seq (.reg [⟨(some 22), .mv (.t 5) true, none⟩,
  ⟨(some 23), .mv (.c (.int .i64 0)) false, none⟩] [0, 1, 6, 7, 22, 23]) (.block 0 l_wear_Add_0)) (.seq (.seq (.reg [⟨(some 33), .mv (.t 6) true, none⟩,
  ⟨(some 34), .mv (.t 33) true, none⟩,
  ⟨(some 35), .mv (.t 7) false, (some (34, true))⟩,
  ⟨(some 36), .mv (.t 1) false, (some (34, true))⟩,
  ⟨(some 37), .ia (.sl 1) (.t 35) (.t 36), (some (34, true))⟩,
  ⟨(some 38), .load 0 (.t 37), (some (34, true))⟩,
  ⟨(some 39), .bin .lss .int (.t 38) (.c (.int .i64 65535)), (some (34, true))⟩,
  ⟨(some 40), .pick (.t 34) (.t 39) (.c (.bool false)), none⟩] [1, 7, 40]) (.cond (.t 40)
 (.reg [⟨(some 41), .mv (.t 7) false, none⟩,
  ⟨(some 42), .mv (.t 1) true, none⟩,
  ⟨(some 43), .ia (.sl 1) (.t 41) (.t 42), none⟩,
  ⟨(some 44), .load 0 (.t 43), none⟩,
  ⟨(some 45), .bin .add .int (.t 44) (.c (.int .i64 1)), none⟩,
  ⟨(some 46), .ia (.sl 1) (.t 41) (.t 42), none⟩,
  ⟨none, .store 1 (.t 46) (.t 45), none⟩] [7])
 .skip)) (.seq (.reg [⟨(some 47), .mv (.t 7) true, none⟩,
  ⟨(some 4), .mv (.t 47) true, none⟩] [4]) .ret))))))))
def c_wear_Add : AFunc := ⟨k_wear_Add, 48, [.t 4], [], [], [(0, false)]⟩
-- 94: slices.Index[[]int,int]
def bl_slices_Index_int_int_0 : ACode := (.seq (.reg [⟨(some 9), .bin .lss .int (.t 8) (.t 7), none⟩] [0, 1, 7, 8, 9]) (.seq (.cond (.t 9)
 .skip
 (.exit 0)) (.seq (.block 1 (.seq (.reg [⟨(some 10), .mv (.t 8) false, none⟩,
  ⟨(some 5), .mv (.t 10) true, none⟩] [0, 1, 5, 7, 8]) (.seq (.reg [⟨(some 11), .mv (.t 1) false, none⟩,
  ⟨(some 12), .mv (.t 0) false, none⟩,
  ⟨(some 13), .mv (.t 5) false, none⟩,
  ⟨(some 14), .ia (.sl 1) (.t 12) (.t 13), none⟩,
  ⟨(some 15), .load 0 (.t 14), none⟩,
  ⟨(some 16), .bin .eql .int (.t 11) (.t 15), none⟩] [0, 1, 5, 7, 8, 16]) (.cond (.t 16)
 (.seq (.reg [⟨(some 17), .mv (.t 5) true, none⟩,
  ⟨(some 4), .mv (.t 17) true, none⟩] [4]) .ret)
 .skip)))) (.reg [⟨(some 18), .bin .add .int (.t 8) (.c (.int .i64 1)), none⟩,
  ⟨(some 8), .mv (.t 18) true, none⟩] [0, 1, 7, 8]))))
def l_slices_Index_int_int_0 : ACode := .loop [0, 1, 7, 8] [] bl_slices_Index_int_int_0
theorem L_slices_Index_int_int_0 {T : Table} (ks : List Kt) (e : Env) (h : Heap) (Q : Ex → Env → Heap → Prop) : Xc T l_slices_Index_int_int_0 ks e h Q = Xc T bl_slices_Index_int_int_0 (.seq l_slices_Index_int_int_0 :: ks) (e.keep [0, 1, 7, 8]) h Q := Xc_loop ks _ e h Q _ _
def k_slices_Index_int_int : ACode := (.seq (.reg [⟨(some 4), .mv (.c (.int .i64 0)) false, none⟩] [0, 1]) (.seq (.seq (.reg [⟨(some 6), .mv (.t 0) false, none⟩,
  ⟨(some 7), .len false (.t 6), none⟩,
  ⟨(some 8), .mv (.c (.int .i64 0)) false, none⟩] [0, 1, 7, 8]) (.block 0 l_slices_Index_int_int_0)) (.seq (.reg [⟨(some 4), .mv (.c (.int .i64 (-1))) false, none⟩] [4]) .ret)))
def c_slices_Index_int_int : AFunc := ⟨k_slices_Index_int_int, 19, [.t 4], [], [], []⟩
-- 83: slices.Contains[[]int,int]

def k_slices_Contains_int_int : ACode := (.seq (.reg [⟨(some 4), .mv (.c (.bool false)) false, none⟩] [0, 1]) (.seq (.reg [⟨(some 5), .mv (.t 0) true, none⟩,
  ⟨(some 6), .mv (.t 1) true, none⟩,
  ⟨(some 7), .callp f_slices_Index_int_int [(.t 5), (.t 6)] [(0, false)], none⟩,
  ⟨(some 8), .bin .geq .int (.t 7) (.c (.int .i64 0)), none⟩,
  ⟨(some 4), .mv (.t 8) true, none⟩] [4]) .ret))
def c_slices_Contains_int_int : AFunc := ⟨k_slices_Contains_int_int, 9, [.t 4], [], [], []⟩
-- 55: wagtail/wear.May

def k_wear_May : ACode := (.seq (.reg [⟨(some 8), .mv (.c (.bool false)) false, none⟩] [0, 1, 2, 3]) (.seq (.reg [⟨(some 12), .mv (.t 0) false, none⟩,
  ⟨(some 13), .mv (.t 1) false, none⟩,
  ⟨(some 14), .callp f_wear_Least [(.t 12), (.t 13)] [(0, false), (1, false)], none⟩,
  ⟨(some 11), .mv (.t 14) true, none⟩,
  ⟨(some 15), .ext (.t 11) 0, none⟩,
  ⟨(some 16), .ext (.t 11) 1, none⟩,
  ⟨(some 9), .mv (.t 15) true, none⟩,
  ⟨(some 10), .mv (.t 16) true, none⟩] [0, 1, 2, 3, 9, 10]) (.seq (.reg [⟨(some 17), .mv (.t 10) true, none⟩,
  ⟨(some 18), .mv (.t 17) true, none⟩,
  ⟨(some 19), .mv (.t 0) true, (some (18, true))⟩,
  ⟨(some 20), .mv (.t 2) false, (some (18, true))⟩,
  ⟨(some 21), .callp f_slices_Contains_int_int [(.t 19), (.t 20)] [(0, false)], (some (18, true))⟩,
  ⟨(some 22), .pick (.t 18) (.t 21) (.c (.bool false)), none⟩,
  ⟨(some 23), .mv (.t 22) true, none⟩,
  ⟨(some 24), .mv (.t 1) false, (some (23, true))⟩,
  ⟨(some 25), .mv (.t 2) true, (some (23, true))⟩,
  ⟨(some 26), .callp f_wear_Of [(.t 24), (.t 25)] [(0, false)], (some (23, true))⟩,
  ⟨(some 27), .mv (.t 1) true, (some (23, true))⟩,
  ⟨(some 28), .mv (.t 9) true, (some (23, true))⟩,
  ⟨(some 29), .callp f_wear_Of [(.t 27), (.t 28)] [(0, false)], (some (23, true))⟩,
  ⟨(some 30), .bin .sub .int (.t 26) (.t 29), (some (23, true))⟩,
  ⟨(some 31), .mv (.t 3) true, (some (23, true))⟩,
  ⟨(some 32), .mx true [(.t 31), (.c (.int .i64 1))], (some (23, true))⟩,
  ⟨(some 33), .bin .lss .int (.t 30) (.t 32), (some (23, true))⟩,
  ⟨(some 34), .pick (.t 23) (.t 33) (.c (.bool false)), none⟩,
  ⟨(some 8), .mv (.t 34) true, none⟩] [8]) .ret)))
def c_wear_May : AFunc := ⟨k_wear_May, 35, [.t 8], [], [], []⟩
-- 56: wagtail/wear.Play
def bl_wear_Play_0 : ACode := (.seq (.reg [⟨(some 21), .bin .lss .int (.t 20) (.t 19), none⟩] [0, 1, 2, 7, 19, 20, 21]) (.seq (.cond (.t 21)
 .skip
 (.exit 0)) (.seq (.block 1 (.seq (.reg [⟨(some 22), .mv (.t 20) false, none⟩,
  ⟨(some 8), .mv (.t 22) true, none⟩] [0, 1, 2, 7, 8, 19, 20]) (.reg [⟨(some 23), .mv (.t 7) true, none⟩,
  ⟨(some 24), .mv (.t 8) true, none⟩,
  ⟨(some 25), .bsl 1 [(.t 24)] false, none⟩,
  ⟨(some 26), .app 1 8 (.t 23) (.t 25), none⟩,
  ⟨(some 7), .mv (.t 26) true, none⟩] [0, 1, 2, 7, 19, 20]))) (.reg [⟨(some 27), .bin .add .int (.t 20) (.c (.int .i64 1)), none⟩,
  ⟨(some 20), .mv (.t 27) true, none⟩] [0, 1, 2, 7, 19, 20]))))
def l_wear_Play_0 : ACode := .loop [0, 1, 2, 7, 19, 20] [(7, 0)] bl_wear_Play_0
theorem L_wear_Play_0 {T : Table} (ks : List Kt) (e : Env) (h : Heap) (Q : Ex → Env → Heap → Prop) : Xc T l_wear_Play_0 ks e h Q = Xc T bl_wear_Play_0 (.seq l_wear_Play_0 :: ks) (e.keep [0, 1, 2, 7, 19, 20]) h Q := Xc_loop ks _ e h Q _ _
def bl_wear_Play_1 : ACode := (.seq (.reg [⟨(some 33), .bin .lss .int (.t 32) (.t 31), none⟩] [0, 1, 7, 9, 30, 31, 32, 33]) (.seq (.cond (.t 33)
 .skip
 (.exit 2)) (.seq (.block 3 (.seq (.reg [⟨(some 34), .ia (.sl 1) (.t 30) (.t 32), none⟩,
  ⟨(some 35), .load 0 (.t 34), none⟩,
  ⟨(some 11), .mv (.t 35) true, none⟩] [0, 1, 7, 9, 11, 30, 31, 32]) (.seq (.reg [⟨(some 36), .mv (.t 11) true, none⟩,
  ⟨(some 37), .mv (.t 0) false, none⟩,
  ⟨(some 38), .bin .rem .int (.t 36) (.t 37), none⟩,
  ⟨(some 39), .mv (.t 0) false, none⟩,
  ⟨(some 40), .bin .add .int (.t 38) (.t 39), none⟩,
  ⟨(some 41), .mv (.t 0) false, none⟩,
  ⟨(some 42), .bin .rem .int (.t 40) (.t 41), none⟩,
  ⟨(some 12), .mv (.t 42) true, none⟩] [0, 1, 7, 9, 12, 30, 31, 32]) (.seq (.seq (.reg [⟨(some 43), .mv (.t 7) false, none⟩,
  ⟨(some 44), .mv (.t 9) false, none⟩,
  ⟨(some 45), .mv (.t 12) false, none⟩,
  ⟨(some 46), .mv (.t 1) false, none⟩,
  ⟨(some 47), .callp f_wear_May [(.t 43), (.t 44), (.t 45), (.t 46)] [(0, false), (1, false)], none⟩,
  ⟨(some 48), .un .not (.t 47), none⟩] [0, 1, 7, 9, 12, 30, 31, 32, 48]) (.cond (.t 48)
 (.reg [⟨(some 50), .mv (.t 7) false, none⟩,
  ⟨(some 51), .mv (.t 9) false, none⟩,
  ⟨(some 52), .callp f_wear_Least [(.t 50), (.t 51)] [(0, false), (1, false)], none⟩,
  ⟨(some 49), .mv (.t 52) true, none⟩,
  ⟨(some 53), .ext (.t 49) 0, none⟩,
  ⟨(some 54), .ext (.t 49) 1, none⟩,
  ⟨(some 12), .mv (.t 53) true, none⟩] [0, 1, 7, 9, 12, 30, 31, 32])
 .skip)) (.reg [⟨(some 55), .mv (.t 9) true, none⟩,
  ⟨(some 56), .mv (.t 12) true, none⟩,
  ⟨(some 57), .callp f_wear_Add [(.t 55), (.t 56)] [], none⟩,
  ⟨(some 9), .mv (.t 57) true, none⟩] [0, 1, 7, 9, 30, 31, 32]))))) (.reg [⟨(some 58), .bin .add .int (.t 32) (.c (.int .i64 1)), none⟩,
  ⟨(some 32), .mv (.t 58) true, none⟩] [0, 1, 7, 9, 30, 31, 32]))))
def l_wear_Play_1 : ACode := .loop [0, 1, 7, 9, 30, 31, 32] [(7, 0)] bl_wear_Play_1
theorem L_wear_Play_1 {T : Table} (ks : List Kt) (e : Env) (h : Heap) (Q : Ex → Env → Heap → Prop) : Xc T l_wear_Play_1 ks e h Q = Xc T bl_wear_Play_1 (.seq l_wear_Play_1 :: ks) (e.keep [0, 1, 7, 9, 30, 31, 32]) h Q := Xc_loop ks _ e h Q _ _
def k_wear_Play : ACode := (.seq (.reg [⟨(some 6), .mv (.c (.ps 1 [])) false, none⟩] [0, 1, 2]) (.seq (.seq (.reg [⟨(some 13), .mv (.t 0) false, none⟩,
  ⟨(some 14), .bin .lss .int (.t 13) (.c (.int .i64 1)), none⟩,
  ⟨(some 15), .mv (.t 14) true, none⟩,
  ⟨(some 16), .mv (.t 0) false, (some (15, false))⟩,
  ⟨(some 17), .bin .gtr .int (.t 16) (.c (.int .i64 64)), (some (15, false))⟩,
  ⟨(some 18), .pick (.t 15) (.c (.bool true)) (.t 17), none⟩] [0, 1, 2, 18]) (.cond (.t 18)
 (.seq (.reg [⟨(some 6), .mv (.c (.ps 1 [])) false, none⟩] [6]) .ret)
 .skip)) (.seq (.reg [⟨(some 7), .mv (.c (.ps 1 [])) false, none⟩] [0, 1, 2, 7]) (.seq (.seq (.reg [⟨(some 19), .mv (.t 0) false, none⟩,
  ⟨(some 20), .mv (.c (.int .i64 0)) false, none⟩] [0, 1, 2, 7, 19, 20]) (.block 0 l_wear_Play_0)) (.seq (.reg [⟨(some 28), .mv (.t 0) false, none⟩,
  ⟨(some 29), .mksl 1 8 (.int .i64 0) (.t 28) (.t 28) false, none⟩,
  ⟨(some 9), .mv (.t 29) true, none⟩] [0, 1, 2, 7, 9]) (.seq (.seq (.reg [⟨(some 30), .mv (.t 2) true, none⟩,
  ⟨(some 31), .len false (.t 30), none⟩,
  ⟨(some 32), .mv (.c (.int .i64 0)) false, none⟩] [0, 1, 7, 9, 30, 31, 32]) (.block 2 l_wear_Play_1)) (.seq (.reg [⟨(some 59), .mv (.t 9) true, none⟩,
  ⟨(some 6), .mv (.t 59) true, none⟩] [6]) .ret)))))))
def c_wear_Play : AFunc := ⟨k_wear_Play, 60, [.t 6], [], [], []⟩
-- 47: wagtail/wagtaillaw21.awake

def k_law21_awake : ACode := (.seq (.reg [⟨(some 0), .mv (.c (.bool false)) false, none⟩] []) (.seq (.reg [⟨(some 4), .bsl 1 [(.c (.int .i64 0)), (.c (.int .i64 1)), (.c (.int .i64 2))] false, none⟩,
  ⟨(some 5), .bsl 1 [(.c (.int .i64 3)), (.c (.int .i64 1)), (.c (.int .i64 1))] false, none⟩,
  ⟨(some 6), .callp f_wear_Least [(.t 4), (.t 5)] [(0, false), (1, false)], none⟩,
  ⟨(some 3), .mv (.t 6) true, none⟩,
  ⟨(some 7), .ext (.t 3) 0, none⟩,
  ⟨(some 8), .ext (.t 3) 1, none⟩,
  ⟨(some 1), .mv (.t 7) true, none⟩,
  ⟨(some 2), .mv (.t 8) true, none⟩] [1, 2]) (.seq (.reg [⟨(some 9), .mv (.t 1) true, none⟩,
  ⟨(some 10), .bin .eql .int (.t 9) (.c (.int .i64 1)), none⟩,
  ⟨(some 11), .mv (.t 10) true, none⟩,
  ⟨(some 12), .mv (.t 2) true, (some (11, true))⟩,
  ⟨(some 13), .pick (.t 11) (.t 12) (.c (.bool false)), none⟩,
  ⟨(some 14), .mv (.t 13) true, none⟩,
  ⟨(some 15), .bsl 1 [(.c (.int .i64 0)), (.c (.int .i64 1)), (.c (.int .i64 2))] false, (some (14, true))⟩,
  ⟨(some 16), .bsl 1 [(.c (.int .i64 3)), (.c (.int .i64 1)), (.c (.int .i64 1))] false, (some (14, true))⟩,
  ⟨(some 17), .callp f_wear_Gap [(.t 15), (.t 16)] [(0, false), (1, false)], (some (14, true))⟩,
  ⟨(some 18), .bin .eql .int (.t 17) (.c (.int .i64 2)), (some (14, true))⟩,
  ⟨(some 19), .pick (.t 14) (.t 18) (.c (.bool false)), none⟩,
  ⟨(some 20), .mv (.t 19) true, none⟩,
  ⟨(some 21), .bsl 1 [(.c (.int .i64 5))] false, (some (20, true))⟩,
  ⟨(some 22), .callp f_wear_Add [(.t 21), (.c (.int .i64 1))] [], (some (20, true))⟩,
  ⟨(some 23), .bsl 1 [(.c (.int .i64 5)), (.c (.int .i64 1))] false, (some (20, true))⟩,
  ⟨(some 24), .callp f_ref01_Ints [(.t 22), (.t 23)] [(0, false), (1, false)], (some (20, true))⟩,
  ⟨(some 25), .pick (.t 20) (.t 24) (.c (.bool false)), none⟩,
  ⟨(some 26), .mv (.t 25) true, none⟩,
  ⟨(some 27), .bsl 1 [(.c (.int .i64 0)), (.c (.int .i64 1))] false, (some (26, true))⟩,
  ⟨(some 28), .bsl 1 [(.c (.int .i64 1)), (.c (.int .i64 0))] false, (some (26, true))⟩,
  ⟨(some 29), .callp f_wear_May [(.t 27), (.t 28), (.c (.int .i64 1)), (.c (.int .i64 1))] [(0, false), (1, false)], (some (26, true))⟩,
  ⟨(some 30), .pick (.t 26) (.t 29) (.c (.bool false)), none⟩,
  ⟨(some 31), .mv (.t 30) true, none⟩,
  ⟨(some 32), .bsl 1 [(.c (.int .i64 0)), (.c (.int .i64 1))] false, (some (31, true))⟩,
  ⟨(some 33), .bsl 1 [(.c (.int .i64 1)), (.c (.int .i64 0))] false, (some (31, true))⟩,
  ⟨(some 34), .callp f_wear_May [(.t 32), (.t 33), (.c (.int .i64 0)), (.c (.int .i64 1))] [(0, false), (1, false)], (some (31, true))⟩,
  ⟨(some 35), .un .not (.t 34), (some (31, true))⟩,
  ⟨(some 36), .pick (.t 31) (.t 35) (.c (.bool false)), none⟩,
  ⟨(some 37), .mv (.t 36) true, none⟩,
  ⟨(some 38), .bsl 1 [(.c (.int .i64 0)), (.c (.int .i64 0)), (.c (.int .i64 0))] false, (some (37, true))⟩,
  ⟨(some 39), .callp f_wear_Play [(.c (.int .i64 2)), (.c (.int .i64 1)), (.t 38)] [], (some (37, true))⟩,
  ⟨(some 40), .bsl 1 [(.c (.int .i64 2)), (.c (.int .i64 1))] false, (some (37, true))⟩,
  ⟨(some 41), .callp f_ref01_Ints [(.t 39), (.t 40)] [(0, false), (1, false)], (some (37, true))⟩,
  ⟨(some 42), .pick (.t 37) (.t 41) (.c (.bool false)), none⟩,
  ⟨(some 0), .mv (.t 42) true, none⟩] [0]) .ret)))
def c_law21_awake : AFunc := ⟨k_law21_awake, 43, [.t 0], [], [], []⟩
-- 53: wagtail/wagtailref21.Of

def k_ref21_Of : ACode := (.seq (.reg [⟨(some 4), .mv (.c (.int .i64 0)) false, none⟩] [0, 1]) (.seq (.seq (.reg [⟨(some 5), .mv (.t 1) false, none⟩,
  ⟨(some 6), .bin .lss .int (.t 5) (.c (.int .i64 0)), none⟩,
  ⟨(some 7), .mv (.t 6) true, none⟩,
  ⟨(some 8), .mv (.t 1) false, (some (7, false))⟩,
  ⟨(some 9), .mv (.t 0) false, (some (7, false))⟩,
  ⟨(some 10), .len false (.t 9), (some (7, false))⟩,
  ⟨(some 11), .bin .geq .int (.t 8) (.t 10), (some (7, false))⟩,
  ⟨(some 12), .pick (.t 7) (.c (.bool true)) (.t 11), none⟩,
  ⟨(some 13), .mv (.t 12) true, none⟩,
  ⟨(some 14), .mv (.t 0) false, (some (13, false))⟩,
  ⟨(some 15), .mv (.t 1) false, (some (13, false))⟩,
  ⟨(some 16), .ia (.sl 1) (.t 14) (.t 15), (some (13, false))⟩,
  ⟨(some 17), .load 0 (.t 16), (some (13, false))⟩,
  ⟨(some 18), .bin .lss .int (.t 17) (.c (.int .i64 0)), (some (13, false))⟩,
  ⟨(some 19), .pick (.t 13) (.c (.bool true)) (.t 18), none⟩] [0, 1, 19]) (.cond (.t 19)
 (.seq (.reg [⟨(some 4), .mv (.c (.int .i64 0)) false, none⟩] [4]) .ret)
 .skip)) (.seq (.reg [⟨(some 20), .mv (.t 0) true, none⟩,
  ⟨(some 21), .mv (.t 1) true, none⟩,
  ⟨(some 22), .ia (.sl 1) (.t 20) (.t 21), none⟩,
  ⟨(some 23), .load 0 (.t 22), none⟩,
  ⟨(some 4), .mv (.t 23) true, none⟩] [4]) .ret)))
def c_ref21_Of : AFunc := ⟨k_ref21_Of, 24, [.t 4], [], [], []⟩
-- 50: wagtail/wagtailref21.Least
def bl_ref21_Least_0 : ACode := (.seq (.seq (.reg [⟨(some 7), .mv (.t 6) false, none⟩,
  ⟨(some 8), .mv (.t 0) false, none⟩,
  ⟨(some 9), .len false (.t 8), none⟩,
  ⟨(some 10), .bin .lss .int (.t 7) (.t 9), none⟩] [0, 1, 5, 6, 10]) (.cond (.t 10)
 .skip
 (.exit 0))) (.seq (.block 1 (.seq (.regd [⟨(some 13), .mv (.t 5) false, none⟩,
  ⟨(some 14), .bin .lss .int (.t 13) (.c (.int .i64 0)), none⟩,
  ⟨(some 15), .mv (.t 14) false, none⟩,
  ⟨(some 16), .mv (.t 1) false, (some (15, false))⟩,
  ⟨(some 17), .mv (.t 0) false, (some (15, false))⟩,
  ⟨(some 18), .mv (.t 6) false, (some (15, false))⟩,
  ⟨(some 19), .ia (.sl 1) (.t 17) (.t 18), (some (15, false))⟩,
  ⟨(some 20), .load 0 (.t 19), (some (15, false))⟩,
  ⟨(some 21), .callp f_ref21_Of [(.t 16), (.t 20)] [(0, false)], (some (15, false))⟩,
  ⟨(some 22), .mv (.t 1) false, (some (15, false))⟩,
  ⟨(some 23), .mv (.t 0) false, (some (15, false))⟩,
  ⟨(some 24), .mv (.t 5) false, (some (15, false))⟩,
  ⟨(some 25), .ia (.sl 1) (.t 23) (.t 24), (some (15, false))⟩,
  ⟨(some 26), .load 0 (.t 25), (some (15, false))⟩,
  ⟨(some 27), .callp f_ref21_Of [(.t 22), (.t 26)] [(0, false)], (some (15, false))⟩,
  ⟨(some 28), .bin .lss .int (.t 21) (.t 27), (some (15, false))⟩,
  ⟨(some 29), .pick (.t 15) (.c (.bool true)) (.t 28), none⟩,
  ⟨(some 30), .mv (.t 29) false, none⟩,
  ⟨(some 31), .mv (.t 1) false, (some (30, false))⟩,
  ⟨(some 32), .mv (.t 0) false, (some (30, false))⟩,
  ⟨(some 33), .mv (.t 6) false, (some (30, false))⟩,
  ⟨(some 34), .ia (.sl 1) (.t 32) (.t 33), (some (30, false))⟩,
  ⟨(some 35), .load 0 (.t 34), (some (30, false))⟩,
  ⟨(some 36), .callp f_ref21_Of [(.t 31), (.t 35)] [(0, false)], (some (30, false))⟩,
  ⟨(some 37), .mv (.t 1) false, (some (30, false))⟩,
  ⟨(some 38), .mv (.t 0) false, (some (30, false))⟩,
  ⟨(some 39), .mv (.t 5) false, (some (30, false))⟩,
  ⟨(some 40), .ia (.sl 1) (.t 38) (.t 39), (some (30, false))⟩,
  ⟨(some 41), .load 0 (.t 40), (some (30, false))⟩,
  ⟨(some 42), .callp f_ref21_Of [(.t 37), (.t 41)] [(0, false)], (some (30, false))⟩,
  ⟨(some 43), .bin .eql .int (.t 36) (.t 42), (some (30, false))⟩,
  ⟨(some 44), .mv (.t 43) false, (some (30, false))⟩,
  ⟨(some 45), .mv (.t 0) false, (some (44, true))⟩,
  ⟨(some 46), .mv (.t 6) false, (some (44, true))⟩,
  ⟨(some 47), .ia (.sl 1) (.t 45) (.t 46), (some (44, true))⟩,
  ⟨(some 48), .load 0 (.t 47), (some (44, true))⟩,
  ⟨(some 49), .mv (.t 0) false, (some (44, true))⟩,
  ⟨(some 50), .mv (.t 5) false, (some (44, true))⟩,
  ⟨(some 51), .ia (.sl 1) (.t 49) (.t 50), (some (44, true))⟩,
  ⟨(some 52), .load 0 (.t 51), (some (44, true))⟩,
  ⟨(some 53), .bin .lss .int (.t 48) (.t 52), (some (44, true))⟩,
  ⟨(some 54), .pick (.t 44) (.t 53) (.c (.bool false)), (some (30, false))⟩,
  ⟨(some 55), .pick (.t 30) (.c (.bool true)) (.t 54), none⟩] [0, 1, 5, 6, 55] [] []) (.cond (.t 55)
 (.reg [⟨(some 56), .mv (.t 6) false, none⟩,
  ⟨(some 5), .mv (.t 56) true, none⟩] [0, 1, 5, 6])
 .skip))) (.reg [⟨(some 11), .mv (.t 6) true, none⟩,
  ⟨(some 12), .bin .add .int (.t 11) (.c (.int .i64 1)), none⟩,
  ⟨(some 6), .mv (.t 12) true, none⟩] [0, 1, 5, 6])))
def l_ref21_Least_0 : ACode := .loop [0, 1, 5, 6] [] bl_ref21_Least_0
theorem L_ref21_Least_0 {T : Table} (ks : List Kt) (e : Env) (h : Heap) (Q : Ex → Env → Heap → Prop) : Xc T l_ref21_Least_0 ks e h Q = Xc T bl_ref21_Least_0 (.seq l_ref21_Least_0 :: ks) (e.keep [0, 1, 5, 6]) h Q := Xc_loop ks _ e h Q _ _
def k_ref21_Least : ACode := (.seq (.reg [⟨(some 4), .mv (.c (.int .i64 0)) false, none⟩] [0, 1]) (.seq (.reg [⟨(some 5), .mv (.c (.int .i64 (-1))) false, none⟩] [0, 1, 5]) (.seq (.seq (.reg [⟨(some 6), .mv (.c (.int .i64 0)) false, none⟩] [0, 1, 5, 6]) (.block 0 l_ref21_Least_0)) (.seq (.reg [⟨(some 57), .mv (.t 5) true, none⟩,
  ⟨(some 4), .mv (.t 57) true, none⟩] [4]) .ret))))
def c_ref21_Least : AFunc := ⟨k_ref21_Least, 58, [.t 4], [], [], []⟩
-- 51: wagtail/wagtailref21.Most
def bl_ref21_Most_0 : ACode := (.seq (.seq (.reg [⟨(some 7), .mv (.t 6) false, none⟩,
  ⟨(some 8), .mv (.t 0) false, none⟩,
  ⟨(some 9), .len false (.t 8), none⟩,
  ⟨(some 10), .bin .lss .int (.t 7) (.t 9), none⟩] [0, 1, 5, 6, 10]) (.cond (.t 10)
 .skip
 (.exit 0))) (.seq (.block 1 (.seq (.regd [⟨(some 13), .mv (.t 5) false, none⟩,
  ⟨(some 14), .bin .lss .int (.t 13) (.c (.int .i64 0)), none⟩,
  ⟨(some 15), .mv (.t 14) false, none⟩,
  ⟨(some 16), .mv (.t 1) false, (some (15, false))⟩,
  ⟨(some 17), .mv (.t 0) false, (some (15, false))⟩,
  ⟨(some 18), .mv (.t 6) false, (some (15, false))⟩,
  ⟨(some 19), .ia (.sl 1) (.t 17) (.t 18), (some (15, false))⟩,
  ⟨(some 20), .load 0 (.t 19), (some (15, false))⟩,
  ⟨(some 21), .callp f_ref21_Of [(.t 16), (.t 20)] [(0, false)], (some (15, false))⟩,
  ⟨(some 22), .mv (.t 1) false, (some (15, false))⟩,
  ⟨(some 23), .mv (.t 0) false, (some (15, false))⟩,
  ⟨(some 24), .mv (.t 5) false, (some (15, false))⟩,
  ⟨(some 25), .ia (.sl 1) (.t 23) (.t 24), (some (15, false))⟩,
  ⟨(some 26), .load 0 (.t 25), (some (15, false))⟩,
  ⟨(some 27), .callp f_ref21_Of [(.t 22), (.t 26)] [(0, false)], (some (15, false))⟩,
  ⟨(some 28), .bin .gtr .int (.t 21) (.t 27), (some (15, false))⟩,
  ⟨(some 29), .pick (.t 15) (.c (.bool true)) (.t 28), none⟩,
  ⟨(some 30), .mv (.t 29) false, none⟩,
  ⟨(some 31), .mv (.t 1) false, (some (30, false))⟩,
  ⟨(some 32), .mv (.t 0) false, (some (30, false))⟩,
  ⟨(some 33), .mv (.t 6) false, (some (30, false))⟩,
  ⟨(some 34), .ia (.sl 1) (.t 32) (.t 33), (some (30, false))⟩,
  ⟨(some 35), .load 0 (.t 34), (some (30, false))⟩,
  ⟨(some 36), .callp f_ref21_Of [(.t 31), (.t 35)] [(0, false)], (some (30, false))⟩,
  ⟨(some 37), .mv (.t 1) false, (some (30, false))⟩,
  ⟨(some 38), .mv (.t 0) false, (some (30, false))⟩,
  ⟨(some 39), .mv (.t 5) false, (some (30, false))⟩,
  ⟨(some 40), .ia (.sl 1) (.t 38) (.t 39), (some (30, false))⟩,
  ⟨(some 41), .load 0 (.t 40), (some (30, false))⟩,
  ⟨(some 42), .callp f_ref21_Of [(.t 37), (.t 41)] [(0, false)], (some (30, false))⟩,
  ⟨(some 43), .bin .eql .int (.t 36) (.t 42), (some (30, false))⟩,
  ⟨(some 44), .mv (.t 43) false, (some (30, false))⟩,
  ⟨(some 45), .mv (.t 0) false, (some (44, true))⟩,
  ⟨(some 46), .mv (.t 6) false, (some (44, true))⟩,
  ⟨(some 47), .ia (.sl 1) (.t 45) (.t 46), (some (44, true))⟩,
  ⟨(some 48), .load 0 (.t 47), (some (44, true))⟩,
  ⟨(some 49), .mv (.t 0) false, (some (44, true))⟩,
  ⟨(some 50), .mv (.t 5) false, (some (44, true))⟩,
  ⟨(some 51), .ia (.sl 1) (.t 49) (.t 50), (some (44, true))⟩,
  ⟨(some 52), .load 0 (.t 51), (some (44, true))⟩,
  ⟨(some 53), .bin .lss .int (.t 48) (.t 52), (some (44, true))⟩,
  ⟨(some 54), .pick (.t 44) (.t 53) (.c (.bool false)), (some (30, false))⟩,
  ⟨(some 55), .pick (.t 30) (.c (.bool true)) (.t 54), none⟩] [0, 1, 5, 6, 55] [] []) (.cond (.t 55)
 (.reg [⟨(some 56), .mv (.t 6) false, none⟩,
  ⟨(some 5), .mv (.t 56) true, none⟩] [0, 1, 5, 6])
 .skip))) (.reg [⟨(some 11), .mv (.t 6) true, none⟩,
  ⟨(some 12), .bin .add .int (.t 11) (.c (.int .i64 1)), none⟩,
  ⟨(some 6), .mv (.t 12) true, none⟩] [0, 1, 5, 6])))
def l_ref21_Most_0 : ACode := .loop [0, 1, 5, 6] [] bl_ref21_Most_0
theorem L_ref21_Most_0 {T : Table} (ks : List Kt) (e : Env) (h : Heap) (Q : Ex → Env → Heap → Prop) : Xc T l_ref21_Most_0 ks e h Q = Xc T bl_ref21_Most_0 (.seq l_ref21_Most_0 :: ks) (e.keep [0, 1, 5, 6]) h Q := Xc_loop ks _ e h Q _ _
def k_ref21_Most : ACode := (.seq (.reg [⟨(some 4), .mv (.c (.int .i64 0)) false, none⟩] [0, 1]) (.seq (.reg [⟨(some 5), .mv (.c (.int .i64 (-1))) false, none⟩] [0, 1, 5]) (.seq (.seq (.reg [⟨(some 6), .mv (.c (.int .i64 0)) false, none⟩] [0, 1, 5, 6]) (.block 0 l_ref21_Most_0)) (.seq (.reg [⟨(some 57), .mv (.t 5) true, none⟩,
  ⟨(some 4), .mv (.t 57) true, none⟩] [4]) .ret))))
def c_ref21_Most : AFunc := ⟨k_ref21_Most, 58, [.t 4], [], [], []⟩
-- 10: wagtail/wagtaillaw21.WearFinds

def k_law21_WearFinds : ACode := (.seq (.reg [⟨(some 1), .box (.t 0), none⟩,
  ⟨(some 2), .mv (.c (.bool false)) false, none⟩] [1]) (.seq (.regd [⟨(some 14), .fa 0 (.t 1), none⟩,
  ⟨(some 15), .load 0 (.t 14), none⟩,
  ⟨(some 16), .fa 1 (.t 1), none⟩,
  ⟨(some 17), .load 0 (.t 16), none⟩,
  ⟨(some 18), .fa 2 (.t 1), none⟩,
  ⟨(some 19), .load 0 (.t 18), none⟩,
  ⟨(some 20), .fa 3 (.t 1), none⟩,
  ⟨(some 21), .load 0 (.t 20), none⟩,
  ⟨(some 3), .mv (.t 15) false, none⟩,
  ⟨(some 4), .mv (.t 17) false, none⟩,
  ⟨(some 5), .mv (.t 19) false, none⟩,
  ⟨(some 6), .mv (.t 21) false, none⟩] [3, 4, 5, 6] [] []) (.seq (.seq (.reg [⟨(some 22), .mv (.t 3) false, none⟩,
  ⟨(some 23), .mv (.t 4) false, none⟩,
  ⟨(some 24), .callp f_law21_light [(.t 22), (.t 23)] [(0, false), (1, false)], none⟩,
  ⟨(some 25), .un .not (.t 24), none⟩] [3, 4, 5, 6, 25]) (.cond (.t 25)
 (.seq (.reg [⟨(some 26), .callp f_law21_awake [] [], none⟩,
  ⟨(some 2), .mv (.t 26) true, none⟩] [2]) .ret)
 .skip)) (.seq (.reg [⟨(some 28), .mv (.t 3) false, none⟩,
  ⟨(some 29), .mv (.t 4) false, none⟩,
  ⟨(some 30), .callp f_wear_Least [(.t 28), (.t 29)] [(0, false), (1, false)], none⟩,
  ⟨(some 27), .mv (.t 30) true, none⟩,
  ⟨(some 31), .ext (.t 27) 0, none⟩,
  ⟨(some 32), .ext (.t 27) 1, none⟩,
  ⟨(some 7), .mv (.t 31) true, none⟩,
  ⟨(some 8), .mv (.t 32) true, none⟩] [3, 4, 5, 6, 7, 8]) (.seq (.reg [⟨(some 34), .mv (.t 3) false, none⟩,
  ⟨(some 35), .mv (.t 4) false, none⟩,
  ⟨(some 36), .callp f_wear_Most [(.t 34), (.t 35)] [(0, false), (1, false)], none⟩,
  ⟨(some 33), .mv (.t 36) true, none⟩,
  ⟨(some 37), .ext (.t 33) 0, none⟩,
  ⟨(some 38), .ext (.t 33) 1, none⟩,
  ⟨(some 9), .mv (.t 37) true, none⟩,
  ⟨(some 10), .mv (.t 38) true, none⟩] [3, 4, 5, 6, 7, 8, 9, 10]) (.seq (.reg [⟨(some 39), .mv (.t 3) false, none⟩,
  ⟨(some 40), .mv (.t 4) false, none⟩,
  ⟨(some 41), .callp f_ref21_Least [(.t 39), (.t 40)] [(0, false), (1, false)], none⟩,
  ⟨(some 42), .mv (.t 3) false, none⟩,
  ⟨(some 43), .mv (.t 4) false, none⟩,
  ⟨(some 44), .callp f_ref21_Most [(.t 42), (.t 43)] [(0, false), (1, false)], none⟩,
  ⟨(some 11), .mv (.t 41) true, none⟩,
  ⟨(some 12), .mv (.t 44) true, none⟩] [3, 4, 5, 6, 7, 8, 9, 10, 11, 12]) (.seq (.seq (.reg [⟨(some 45), .mv (.t 4) false, none⟩,
  ⟨(some 46), .mv (.t 5) false, none⟩,
  ⟨(some 47), .callp f_wear_Of [(.t 45), (.t 46)] [(0, false)], none⟩,
  ⟨(some 48), .mv (.t 4) false, none⟩,
  ⟨(some 49), .mv (.t 5) false, none⟩,
  ⟨(some 50), .callp f_ref21_Of [(.t 48), (.t 49)] [(0, false)], none⟩,
  ⟨(some 51), .bin .neq .int (.t 47) (.t 50), none⟩] [3, 4, 5, 6, 7, 8, 9, 10, 11, 12, 51]) (.cond (.t 51)
 (.seq (.reg [⟨(some 2), .mv (.c (.bool false)) false, none⟩] [2]) .ret)
 .skip)) (.seq (.seq (.reg [⟨(some 52), .mv (.t 11) false, none⟩,
  ⟨(some 53), .bin .lss .int (.t 52) (.c (.int .i64 0)), none⟩] [3, 4, 5, 6, 7, 8, 9, 10, 11, 12, 53]) (.cond (.t 53)
 (.seq (.reg [⟨(some 54), .callp f_law21_awake [] [], none⟩,
  ⟨(some 55), .mv (.t 54) true, none⟩,
  ⟨(some 56), .mv (.t 7) true, (some (55, true))⟩,
  ⟨(some 57), .bin .eql .int (.t 56) (.c (.int .i64 0)), (some (55, true))⟩,
  ⟨(some 58), .pick (.t 55) (.t 57) (.c (.bool false)), none⟩,
  ⟨(some 59), .mv (.t 58) true, none⟩,
  ⟨(some 60), .mv (.t 8) true, (some (59, true))⟩,
  ⟨(some 61), .un .not (.t 60), (some (59, true))⟩,
  ⟨(some 62), .pick (.t 59) (.t 61) (.c (.bool false)), none⟩,
  ⟨(some 63), .mv (.t 62) true, none⟩,
  ⟨(some 64), .mv (.t 9) true, (some (63, true))⟩,
  ⟨(some 65), .bin .eql .int (.t 64) (.c (.int .i64 0)), (some (63, true))⟩,
  ⟨(some 66), .pick (.t 63) (.t 65) (.c (.bool false)), none⟩,
  ⟨(some 67), .mv (.t 66) true, none⟩,
  ⟨(some 68), .mv (.t 10) true, (some (67, true))⟩,
  ⟨(some 69), .un .not (.t 68), (some (67, true))⟩,
  ⟨(some 70), .pick (.t 67) (.t 69) (.c (.bool false)), none⟩,
  ⟨(some 71), .mv (.t 70) true, none⟩,
  ⟨(some 72), .mv (.t 3) false, (some (71, true))⟩,
  ⟨(some 73), .mv (.t 4) false, (some (71, true))⟩,
  ⟨(some 74), .callp f_wear_Gap [(.t 72), (.t 73)] [(0, false), (1, false)], (some (71, true))⟩,
  ⟨(some 75), .bin .eql .int (.t 74) (.c (.int .i64 0)), (some (71, true))⟩,
  ⟨(some 76), .pick (.t 71) (.t 75) (.c (.bool false)), none⟩,
  ⟨(some 77), .mv (.t 76) true, none⟩,
  ⟨(some 78), .mv (.t 3) true, (some (77, true))⟩,
  ⟨(some 79), .mv (.t 4) true, (some (77, true))⟩,
  ⟨(some 80), .mv (.t 5) true, (some (77, true))⟩,
  ⟨(some 81), .mv (.t 6) true, (some (77, true))⟩,
  ⟨(some 82), .callp f_wear_May [(.t 78), (.t 79), (.t 80), (.t 81)] [(0, false), (1, false)], (some (77, true))⟩,
  ⟨(some 83), .un .not (.t 82), (some (77, true))⟩,
  ⟨(some 84), .pick (.t 77) (.t 83) (.c (.bool false)), none⟩,
  ⟨(some 2), .mv (.t 84) true, none⟩] [2]) .ret)
 .skip)) (.seq (.regd [⟨(some 85), .mv (.t 3) false, none⟩,
  ⟨(some 86), .mv (.t 5) false, none⟩,
  ⟨(some 87), .callp f_ref13_Has [(.t 85), (.t 86)] [(0, false)], none⟩,
  ⟨(some 88), .mv (.t 87) false, none⟩,
  ⟨(some 89), .mv (.t 4) false, (some (88, true))⟩,
  ⟨(some 90), .mv (.t 5) false, (some (88, true))⟩,
  ⟨(some 91), .callp f_ref21_Of [(.t 89), (.t 90)] [(0, false)], (some (88, true))⟩,
  ⟨(some 92), .mv (.t 4) false, (some (88, true))⟩,
  ⟨(some 93), .mv (.t 3) false, (some (88, true))⟩,
  ⟨(some 94), .mv (.t 11) false, (some (88, true))⟩,
  ⟨(some 95), .ia (.sl 1) (.t 93) (.t 94), (some (88, true))⟩,
  ⟨(some 96), .load 0 (.t 95), (some (88, true))⟩,
  ⟨(some 97), .callp f_ref21_Of [(.t 92), (.t 96)] [(0, false)], (some (88, true))⟩,
  ⟨(some 98), .bin .sub .int (.t 91) (.t 97), (some (88, true))⟩,
  ⟨(some 99), .mv (.t 6) false, (some (88, true))⟩,
  ⟨(some 100), .callp f_ref01_High [(.t 99), (.c (.int .i64 1))] [], (some (88, true))⟩,
  ⟨(some 101), .bin .lss .int (.t 98) (.t 100), (some (88, true))⟩,
  ⟨(some 102), .pick (.t 88) (.t 101) (.c (.bool false)), none⟩,
  ⟨(some 13), .mv (.t 102) false, none⟩] [3, 4, 5, 6, 7, 8, 9, 10, 11, 12, 13] [] []) (.seq (.regd [⟨(some 103), .callp f_law21_awake [] [], none⟩,
  ⟨(some 104), .mv (.t 103) false, none⟩,
  ⟨(some 105), .mv (.t 7) false, (some (104, true))⟩,
  ⟨(some 106), .mv (.t 3) false, (some (104, true))⟩,
  ⟨(some 107), .mv (.t 11) false, (some (104, true))⟩,
  ⟨(some 108), .ia (.sl 1) (.t 106) (.t 107), (some (104, true))⟩,
  ⟨(some 109), .load 0 (.t 108), (some (104, true))⟩,
  ⟨(some 110), .bin .eql .int (.t 105) (.t 109), (some (104, true))⟩,
  ⟨(some 111), .pick (.t 104) (.t 110) (.c (.bool false)), none⟩,
  ⟨(some 112), .mv (.t 111) false, none⟩,
  ⟨(some 113), .mv (.t 8) false, (some (112, true))⟩,
  ⟨(some 114), .pick (.t 112) (.t 113) (.c (.bool false)), none⟩,
  ⟨(some 115), .mv (.t 114) false, none⟩,
  ⟨(some 116), .mv (.t 9) false, (some (115, true))⟩,
  ⟨(some 117), .mv (.t 3) false, (some (115, true))⟩,
  ⟨(some 118), .mv (.t 12) false, (some (115, true))⟩,
  ⟨(some 119), .ia (.sl 1) (.t 117) (.t 118), (some (115, true))⟩,
  ⟨(some 120), .load 0 (.t 119), (some (115, true))⟩,
  ⟨(some 121), .bin .eql .int (.t 116) (.t 120), (some (115, true))⟩,
  ⟨(some 122), .pick (.t 115) (.t 121) (.c (.bool false)), none⟩,
  ⟨(some 123), .mv (.t 122) false, none⟩,
  ⟨(some 124), .mv (.t 10) false, (some (123, true))⟩,
  ⟨(some 125), .pick (.t 123) (.t 124) (.c (.bool false)), none⟩,
  ⟨(some 126), .mv (.t 125) false, none⟩,
  ⟨(some 127), .mv (.t 3) false, (some (126, true))⟩,
  ⟨(some 128), .mv (.t 4) false, (some (126, true))⟩,
  ⟨(some 129), .callp f_wear_Gap [(.t 127), (.t 128)] [(0, false), (1, false)], (some (126, true))⟩,
  ⟨(some 130), .mv (.t 4) false, (some (126, true))⟩,
  ⟨(some 131), .mv (.t 3) false, (some (126, true))⟩,
  ⟨(some 132), .mv (.t 12) false, (some (126, true))⟩,
  ⟨(some 133), .ia (.sl 1) (.t 131) (.t 132), (some (126, true))⟩,
  ⟨(some 134), .load 0 (.t 133), (some (126, true))⟩,
  ⟨(some 135), .callp f_ref21_Of [(.t 130), (.t 134)] [(0, false)], (some (126, true))⟩,
  ⟨(some 136), .mv (.t 4) false, (some (126, true))⟩,
  ⟨(some 137), .mv (.t 3) false, (some (126, true))⟩,
  ⟨(some 138), .mv (.t 11) false, (some (126, true))⟩,
  ⟨(some 139), .ia (.sl 1) (.t 137) (.t 138), (some (126, true))⟩,
  ⟨(some 140), .load 0 (.t 139), (some (126, true))⟩,
  ⟨(some 141), .callp f_ref21_Of [(.t 136), (.t 140)] [(0, false)], (some (126, true))⟩,
  ⟨(some 142), .bin .sub .int (.t 135) (.t 141), (some (126, true))⟩,
  ⟨(some 143), .bin .eql .int (.t 129) (.t 142), (some (126, true))⟩,
  ⟨(some 144), .pick (.t 126) (.t 143) (.c (.bool false)), none⟩,
  ⟨(some 145), .mv (.t 144) false, none⟩,
  ⟨(some 146), .mv (.t 3) false, (some (145, true))⟩,
  ⟨(some 147), .mv (.t 4) false, (some (145, true))⟩,
  ⟨(some 148), .mv (.t 5) false, (some (145, true))⟩,
  ⟨(some 149), .mv (.t 6) false, (some (145, true))⟩,
  ⟨(some 150), .callp f_wear_May [(.t 146), (.t 147), (.t 148), (.t 149)] [(0, false), (1, false)], (some (145, true))⟩,
  ⟨(some 151), .mv (.t 13) false, (some (145, true))⟩,
  ⟨(some 152), .bin .eql .bool (.t 150) (.t 151), (some (145, true))⟩,
  ⟨(some 153), .pick (.t 145) (.t 152) (.c (.bool false)), none⟩,
  ⟨(some 2), .mv (.t 153) false, none⟩] [2] [] []) .ret))))))))))
def c_law21_WearFinds : AFunc := ⟨k_law21_WearFinds, 154, [.t 2], [], [], []⟩
-- 57: wagtail/wagtailref21.Play
def bl_ref21_Play_0 : ACode := (.seq (.seq (.reg [⟨(some 32), .mv (.t 11) false, none⟩,
  ⟨(some 33), .mv (.t 0) false, none⟩,
  ⟨(some 34), .bin .lss .int (.t 32) (.t 33), none⟩] [0, 1, 2, 7, 8, 9, 10, 11, 34]) (.cond (.t 34)
 .skip
 (.exit 2))) (.seq (.block 3 (.seq (.regd [⟨(some 37), .mv (.t 7) false, none⟩,
  ⟨(some 38), .mv (.t 11) false, none⟩,
  ⟨(some 39), .ia (.sl 1) (.t 37) (.t 38), none⟩,
  ⟨(some 40), .load 0 (.t 39), none⟩,
  ⟨(some 41), .mv (.t 7) false, none⟩,
  ⟨(some 42), .mv (.t 10) false, none⟩,
  ⟨(some 43), .ia (.sl 1) (.t 41) (.t 42), none⟩,
  ⟨(some 44), .load 0 (.t 43), none⟩,
  ⟨(some 45), .bin .lss .int (.t 40) (.t 44), none⟩] [0, 1, 2, 7, 8, 9, 10, 11, 45] [] []) (.cond (.t 45)
 (.reg [⟨(some 46), .mv (.t 11) false, none⟩,
  ⟨(some 10), .mv (.t 46) true, none⟩] [0, 1, 2, 7, 8, 9, 10, 11])
 .skip))) (.reg [⟨(some 35), .mv (.t 11) true, none⟩,
  ⟨(some 36), .bin .add .int (.t 35) (.c (.int .i64 1)), none⟩,
  ⟨(some 11), .mv (.t 36) true, none⟩] [0, 1, 2, 7, 8, 9, 10, 11])))
def l_ref21_Play_0 : ACode := .loop [0, 1, 2, 7, 8, 9, 10, 11] [] bl_ref21_Play_0
theorem L_ref21_Play_0 {T : Table} (ks : List Kt) (e : Env) (h : Heap) (Q : Ex → Env → Heap → Prop) : Xc T l_ref21_Play_0 ks e h Q = Xc T bl_ref21_Play_0 (.seq l_ref21_Play_0 :: ks) (e.keep [0, 1, 2, 7, 8, 9, 10, 11]) h Q := Xc_loop ks _ e h Q _ _
def bl_ref21_Play_1 : ACode := (.seq (.seq (.reg [⟨(some 15), .mv (.t 8) false, none⟩,
  ⟨(some 16), .mv (.t 2) false, none⟩,
  ⟨(some 17), .len false (.t 16), none⟩,
  ⟨(some 18), .bin .lss .int (.t 15) (.t 17), none⟩] [0, 1, 2, 7, 8, 18]) (.cond (.t 18)
 .skip
 (.exit 0))) (.seq (.block 1 (.seq (.reg [⟨(some 21), .mv (.t 2) false, none⟩,
  ⟨(some 22), .mv (.t 8) false, none⟩,
  ⟨(some 23), .ia (.sl 1) (.t 21) (.t 22), none⟩,
  ⟨(some 24), .load 0 (.t 23), none⟩,
  ⟨(some 25), .mv (.t 0) false, none⟩,
  ⟨(some 26), .bin .rem .int (.t 24) (.t 25), none⟩,
  ⟨(some 9), .mv (.t 26) true, none⟩] [0, 1, 2, 7, 8, 9]) (.seq (.seq (.reg [⟨(some 27), .mv (.t 9) false, none⟩,
  ⟨(some 28), .bin .lss .int (.t 27) (.c (.int .i64 0)), none⟩] [0, 1, 2, 7, 8, 9, 28]) (.cond (.t 28)
 (.reg [⟨(some 29), .mv (.t 9) true, none⟩,
  ⟨(some 30), .mv (.t 0) false, none⟩,
  ⟨(some 31), .bin .add .int (.t 29) (.t 30), none⟩,
  ⟨(some 9), .mv (.t 31) true, none⟩] [0, 1, 2, 7, 8, 9])
 .skip)) (.seq (.reg [⟨(some 10), .mv (.c (.int .i64 0)) false, none⟩] [0, 1, 2, 7, 8, 9, 10]) (.seq (.seq (.reg [⟨(some 11), .mv (.c (.int .i64 0)) false, none⟩] [0, 1, 2, 7, 8, 9, 10, 11]) (.block 2 l_ref21_Play_0)) (.seq (.seq (.regd [⟨(some 47), .mv (.t 7) false, none⟩,
  ⟨(some 48), .mv (.t 9) false, none⟩,
  ⟨(some 49), .ia (.sl 1) (.t 47) (.t 48), none⟩,
  ⟨(some 50), .load 0 (.t 49), none⟩,
  ⟨(some 51), .mv (.t 7) false, none⟩,
  ⟨(some 52), .mv (.t 10) false, none⟩,
  ⟨(some 53), .ia (.sl 1) (.t 51) (.t 52), none⟩,
  ⟨(some 54), .load 0 (.t 53), none⟩,
  ⟨(some 55), .bin .sub .int (.t 50) (.t 54), none⟩,
  ⟨(some 56), .mv (.t 1) false, none⟩,
  ⟨(some 57), .callp f_ref01_High [(.t 56), (.c (.int .i64 1))] [], none⟩,
  ⟨(some 58), .bin .geq .int (.t 55) (.t 57), none⟩] [0, 1, 2, 7, 8, 9, 10, 58] [] []) (.cond (.t 58)
 (.reg [⟨(some 59), .mv (.t 10) true, none⟩,
  ⟨(some 9), .mv (.t 59) true, none⟩] [0, 1, 2, 7, 8, 9])
 .skip)) (.seq (.reg [⟨(some 60), .bsl 1 [] true, none⟩,
  ⟨(some 61), .mv (.t 7) true, none⟩,
  ⟨(some 62), .apph 1 8 (.t 60) (.t 61), none⟩,
  ⟨(some 12), .mv (.t 62) true, none⟩] [0, 1, 2, 8, 9, 12]) (.seq (.reg [⟨(some 63), .mv (.t 12) false, none⟩,
  ⟨(some 64), .mv (.t 9) false, none⟩,
  ⟨(some 65), .mv (.t 12) false, none⟩,
  ⟨(some 66), .mv (.t 9) true, none⟩,
  ⟨(some 67), .ia (.sl 1) (.t 65) (.t 66), none⟩,
  ⟨(some 68), .load 0 (.t 67), none⟩,
  ⟨(some 69), .bin .add .int (.t 68) (.c (.int .i64 1)), none⟩,
  ⟨(some 70), .ia (.sl 1) (.t 63) (.t 64), none⟩,
  ⟨none, .store 1 (.t 70) (.t 69), none⟩] [0, 1, 2, 8, 12]) (.reg [⟨(some 71), .mv (.t 12) true, none⟩,
  ⟨(some 7), .mv (.t 71) true, none⟩] [0, 1, 2, 7, 8]))))))))) (.reg [⟨(some 19), .mv (.t 8) true, none⟩,
  ⟨(some 20), .bin .add .int (.t 19) (.c (.int .i64 1)), none⟩,
  ⟨(some 8), .mv (.t 20) true, none⟩] [0, 1, 2, 7, 8])))
def l_ref21_Play_1 : ACode := .loop [0, 1, 2, 7, 8] [] bl_ref21_Play_1
theorem L_ref21_Play_1 {T : Table} (ks : List Kt) (e : Env) (h : Heap) (Q : Ex → Env → Heap → Prop) : Xc T l_ref21_Play_1 ks e h Q = Xc T bl_ref21_Play_1 (.seq l_ref21_Play_1 :: ks) (e.keep [0, 1, 2, 7, 8]) h Q := Xc_loop ks _ e h Q _ _
def k_ref21_Play : ACode := (.seq (.reg [⟨(some 6), .mv (.c (.hn 1)) false, none⟩] [0, 1, 2]) (.seq (.reg [⟨(some 13), .mv (.t 0) false, none⟩,
  ⟨(some 14), .mksl 1 8 (.int .i64 0) (.t 13) (.t 13) true, none⟩,
  ⟨(some 7), .mv (.t 14) true, none⟩] [0, 1, 2, 7]) (.seq (.seq (.reg [⟨(some 8), .mv (.c (.int .i64 0)) false, none⟩] [0, 1, 2, 7, 8]) (.block 0 l_ref21_Play_1)) (.seq (.reg [⟨(some 72), .mv (.t 7) true, none⟩,
  ⟨(some 6), .mv (.t 72) true, none⟩] [6]) .ret))))
def c_ref21_Play : AFunc := ⟨k_ref21_Play, 73, [.t 6], [], [], [(0, false)]⟩
-- 11: wagtail/wagtaillaw21.WearEven
def bl_law21_WearEven_0 : ACode := (.seq (.seq (.reg [⟨(some 37), .mv (.t 10) false, none⟩,
  ⟨(some 38), .mv (.t 8) false, none⟩,
  ⟨(some 39), .len false (.t 38), none⟩,
  ⟨(some 40), .bin .lss .int (.t 37) (.t 39), none⟩] [1, 2, 8, 9, 10, 40]) (.cond (.t 40)
 .skip
 (.exit 2))) (.seq (.block 3 (.seq (.regd [⟨(some 43), .mv (.t 8) false, none⟩,
  ⟨(some 44), .mv (.t 9) false, none⟩,
  ⟨(some 45), .ia (.sl 1) (.t 43) (.t 44), none⟩,
  ⟨(some 46), .load 0 (.t 45), none⟩,
  ⟨(some 47), .mv (.t 8) false, none⟩,
  ⟨(some 48), .mv (.t 10) false, none⟩,
  ⟨(some 49), .ia (.sl 1) (.t 47) (.t 48), none⟩,
  ⟨(some 50), .load 0 (.t 49), none⟩,
  ⟨(some 51), .bin .sub .int (.t 46) (.t 50), none⟩,
  ⟨(some 52), .mv (.t 1) false, none⟩,
  ⟨(some 53), .callp f_ref01_High [(.t 52), (.c (.int .i64 1))] [], none⟩,
  ⟨(some 54), .bin .gtr .int (.t 51) (.t 53), none⟩] [1, 2, 8, 9, 10, 54] [] []) (.cond (.t 54)
 (.seq (.reg [⟨(some 6), .mv (.c (.bool false)) false, none⟩] [6]) .ret)
 .skip))) (.reg [⟨(some 41), .mv (.t 10) true, none⟩,
  ⟨(some 42), .bin .add .int (.t 41) (.c (.int .i64 1)), none⟩,
  ⟨(some 10), .mv (.t 42) true, none⟩] [1, 2, 8, 9, 10])))
def l_law21_WearEven_0 : ACode := .loop [1, 2, 8, 9, 10] [] bl_law21_WearEven_0
theorem L_law21_WearEven_0 {T : Table} (ks : List Kt) (e : Env) (h : Heap) (Q : Ex → Env → Heap → Prop) : Xc T l_law21_WearEven_0 ks e h Q = Xc T bl_law21_WearEven_0 (.seq l_law21_WearEven_0 :: ks) (e.keep [1, 2, 8, 9, 10]) h Q := Xc_loop ks _ e h Q _ _
def bl_law21_WearEven_1 : ACode := (.seq (.seq (.reg [⟨(some 31), .mv (.t 9) false, none⟩,
  ⟨(some 32), .mv (.t 8) false, none⟩,
  ⟨(some 33), .len false (.t 32), none⟩,
  ⟨(some 34), .bin .lss .int (.t 31) (.t 33), none⟩] [1, 2, 8, 9, 34]) (.cond (.t 34)
 .skip
 (.exit 0))) (.seq (.block 1 (.seq (.reg [⟨(some 10), .mv (.c (.int .i64 0)) false, none⟩] [1, 2, 8, 9, 10]) (.block 2 l_law21_WearEven_0))) (.reg [⟨(some 35), .mv (.t 9) true, none⟩,
  ⟨(some 36), .bin .add .int (.t 35) (.c (.int .i64 1)), none⟩,
  ⟨(some 9), .mv (.t 36) true, none⟩] [1, 2, 8, 9])))
def l_law21_WearEven_1 : ACode := .loop [1, 2, 8, 9] [] bl_law21_WearEven_1
theorem L_law21_WearEven_1 {T : Table} (ks : List Kt) (e : Env) (h : Heap) (Q : Ex → Env → Heap → Prop) : Xc T l_law21_WearEven_1 ks e h Q = Xc T bl_law21_WearEven_1 (.seq l_law21_WearEven_1 :: ks) (e.keep [1, 2, 8, 9]) h Q := Xc_loop ks _ e h Q _ _
def k_law21_WearEven : ACode := (.seq (.reg [⟨(some 6), .mv (.c (.bool false)) false, none⟩] [0, 1, 2]) (.seq (.reg [⟨(some 11), .mv (.t 0) true, none⟩,
  ⟨(some 12), .bin .rem .int (.t 11) (.c (.int .u8 12)), none⟩,
  ⟨(some 13), .conv (.i .i64) (.t 12), none⟩,
  ⟨(some 14), .bin .add .int (.t 13) (.c (.int .i64 1)), none⟩,
  ⟨(some 7), .mv (.t 14) true, none⟩] [1, 2, 7]) (.seq (.seq (.reg [⟨(some 15), .mv (.t 2) false, none⟩,
  ⟨(some 16), .len false (.t 15), none⟩,
  ⟨(some 17), .bin .gtr .int (.t 16) (.c (.int .i64 200)), none⟩] [1, 2, 7, 17]) (.cond (.t 17)
 (.reg [⟨(some 18), .mv (.t 2) true, none⟩,
  ⟨(some 19), .sl (.sl 1) (.t 18) none (some (.c (.int .i64 200))) none false, none⟩,
  ⟨(some 2), .mv (.t 19) true, none⟩] [1, 2, 7])
 .skip)) (.seq (.reg [⟨(some 20), .mv (.t 7) false, none⟩,
  ⟨(some 21), .mv (.t 1) false, none⟩,
  ⟨(some 22), .mv (.t 2) false, none⟩,
  ⟨(some 23), .callp f_wear_Play [(.t 20), (.t 21), (.t 22)] [], none⟩,
  ⟨(some 8), .mv (.t 23) true, none⟩] [1, 2, 7, 8]) (.seq (.seq (.reg [⟨(some 24), .mv (.t 8) false, none⟩,
  ⟨(some 25), .mv (.t 7) true, none⟩,
  ⟨(some 26), .mv (.t 1) false, none⟩,
  ⟨(some 27), .mv (.t 2) false, none⟩,
  ⟨(some 28), .callp f_ref21_Play [(.t 25), (.t 26), (.t 27)] [], none⟩,
  ⟨(some 29), .callp f_ref01_Ints [(.t 24), (.t 28)] [(0, false), (1, false)], none⟩,
  ⟨(some 30), .un .not (.t 29), none⟩] [1, 2, 8, 30]) (.cond (.t 30)
 (.seq (.reg [⟨(some 6), .mv (.c (.bool false)) false, none⟩] [6]) .ret)
 .skip)) (.seq (.seq (.reg [⟨(some 9), .mv (.c (.int .i64 0)) false, none⟩] [1, 2, 8, 9]) (.block 0 l_law21_WearEven_1)) (.seq (.reg [⟨(some 55), .callp f_law21_awake [] [], none⟩,
  ⟨(some 56), .mv (.t 55) true, none⟩,
  ⟨(some 57), .mv (.t 1) false, (some (56, true))⟩,
  ⟨(some 58), .mv (.t 2) false, (some (56, true))⟩,
  ⟨(some 59), .callp f_wear_Play [(.c (.int .i64 0)), (.t 57), (.t 58)] [], (some (56, true))⟩,
  ⟨(some 60), .len false (.t 59), (some (56, true))⟩,
  ⟨(some 61), .bin .eql .int (.t 60) (.c (.int .i64 0)), (some (56, true))⟩,
  ⟨(some 62), .pick (.t 56) (.t 61) (.c (.bool false)), none⟩,
  ⟨(some 63), .mv (.t 62) true, none⟩,
  ⟨(some 64), .mv (.t 1) true, (some (63, true))⟩,
  ⟨(some 65), .mv (.t 2) true, (some (63, true))⟩,
  ⟨(some 66), .callp f_wear_Play [(.c (.int .i64 65)), (.t 64), (.t 65)] [], (some (63, true))⟩,
  ⟨(some 67), .len false (.t 66), (some (63, true))⟩,
  ⟨(some 68), .bin .eql .int (.t 67) (.c (.int .i64 0)), (some (63, true))⟩,
  ⟨(some 69), .pick (.t 63) (.t 68) (.c (.bool false)), none⟩,
  ⟨(some 6), .mv (.t 69) true, none⟩] [6]) .ret)))))))
def c_law21_WearEven : AFunc := ⟨k_law21_WearEven, 70, [.t 6], [], [], []⟩
-- 70: (*wagtail/extent.Extent).Take$1

def k_extent_Extent_Take_1 : ACode := (.seq (.reg [⟨(some 2), .mv (.c (.bool false)) false, none⟩] [0]) (.seq (.reg [⟨(some 3), .mv (.t 0) true, none⟩,
  ⟨(some 4), .un .not (.t 3), none⟩,
  ⟨(some 2), .mv (.t 4) true, none⟩] [2]) .ret))
def c_extent_Extent_Take_1 : AFunc := ⟨k_extent_Extent_Take_1, 5, [.t 2], [], [], []⟩
-- 71: (*wagtail/extent.Extent).Taken$1

def k_extent_Extent_Taken_1 : ACode := (.seq (.reg [⟨(some 2), .mv (.c (.bool false)) false, none⟩] [0]) (.seq (.reg [⟨(some 3), .mv (.t 0) true, none⟩,
  ⟨(some 2), .mv (.t 3) true, none⟩] [2]) .ret))
def c_extent_Extent_Taken_1 : AFunc := ⟨k_extent_Extent_Taken_1, 4, [.t 2], [], [], []⟩

def tab : List (Nat × AFunc) := [(f_extent_Extent_right, c_extent_Extent_right),
  (f_extent_Extent_set, c_extent_Extent_set),
  (f_extent_New, c_extent_New),
  (f_extent_Extent_some, c_extent_Extent_some),
  (f_extent_Extent_Take, c_extent_Extent_Take),
  (f_ref01_Ints, c_ref01_Ints),
  (f_extent_Extent_Free, c_extent_Extent_Free),
  (f_extent_Extent_Is, c_extent_Extent_Is),
  (f_extent_Extent_Give, c_extent_Extent_Give),
  (f_extent_Extent_Taken, c_extent_Extent_Taken),
  (f_law25_awake, c_law25_awake),
  (f_ref01_High, c_ref01_High),
  (f_ref01_Low, c_ref01_Low),
  (f_ref13_Has, c_ref13_Has),
  (f_ref25_put, c_ref25_put),
  (f_ref25_New, c_ref25_New),
  (f_ref25_X_Give, c_ref25_X_Give),
  (f_ref25_X_Free, c_ref25_X_Free),
  (f_ref25_X_Take, c_ref25_X_Take),
  (f_law25_ExtentDoes, c_law25_ExtentDoes),
  (f_law21_light, c_law21_light),
  (f_wear_Of, c_wear_Of),
  (f_wear_Least_1, c_wear_Least_1),
  (f_wear_best, c_wear_best),
  (f_wear_Least, c_wear_Least),
  (f_wear_Most_1, c_wear_Most_1),
  (f_wear_Most, c_wear_Most),
  (f_wear_Gap, c_wear_Gap),
  (f_wear_Add, c_wear_Add),
  (f_slices_Index_int_int, c_slices_Index_int_int),
  (f_slices_Contains_int_int, c_slices_Contains_int_int),
  (f_wear_May, c_wear_May),
  (f_wear_Play, c_wear_Play),
  (f_law21_awake, c_law21_awake),
  (f_ref21_Of, c_ref21_Of),
  (f_ref21_Least, c_ref21_Least),
  (f_ref21_Most, c_ref21_Most),
  (f_law21_WearFinds, c_law21_WearFinds),
  (f_ref21_Play, c_ref21_Play),
  (f_law21_WearEven, c_law21_WearEven),
  (f_extent_Extent_Take_1, c_extent_Extent_Take_1),
  (f_extent_Extent_Taken_1, c_extent_Extent_Taken_1)]
def T : Table := fun f => tab.lookup f
theorem t_extent_Extent_right : T f_extent_Extent_right = some c_extent_Extent_right := rfl
theorem t_extent_Extent_set : T f_extent_Extent_set = some c_extent_Extent_set := rfl
theorem t_extent_New : T f_extent_New = some c_extent_New := rfl
theorem t_extent_Extent_some : T f_extent_Extent_some = some c_extent_Extent_some := rfl
theorem t_extent_Extent_Take : T f_extent_Extent_Take = some c_extent_Extent_Take := rfl
theorem t_ref01_Ints : T f_ref01_Ints = some c_ref01_Ints := rfl
theorem t_extent_Extent_Free : T f_extent_Extent_Free = some c_extent_Extent_Free := rfl
theorem t_extent_Extent_Is : T f_extent_Extent_Is = some c_extent_Extent_Is := rfl
theorem t_extent_Extent_Give : T f_extent_Extent_Give = some c_extent_Extent_Give := rfl
theorem t_extent_Extent_Taken : T f_extent_Extent_Taken = some c_extent_Extent_Taken := rfl
theorem t_law25_awake : T f_law25_awake = some c_law25_awake := rfl
theorem t_ref01_High : T f_ref01_High = some c_ref01_High := rfl
theorem t_ref01_Low : T f_ref01_Low = some c_ref01_Low := rfl
theorem t_ref13_Has : T f_ref13_Has = some c_ref13_Has := rfl
theorem t_ref25_put : T f_ref25_put = some c_ref25_put := rfl
theorem t_ref25_New : T f_ref25_New = some c_ref25_New := rfl
theorem t_ref25_X_Give : T f_ref25_X_Give = some c_ref25_X_Give := rfl
theorem t_ref25_X_Free : T f_ref25_X_Free = some c_ref25_X_Free := rfl
theorem t_ref25_X_Take : T f_ref25_X_Take = some c_ref25_X_Take := rfl
theorem t_law25_ExtentDoes : T f_law25_ExtentDoes = some c_law25_ExtentDoes := rfl
theorem t_law21_light : T f_law21_light = some c_law21_light := rfl
theorem t_wear_Of : T f_wear_Of = some c_wear_Of := rfl
theorem t_wear_Least_1 : T f_wear_Least_1 = some c_wear_Least_1 := rfl
theorem t_wear_best : T f_wear_best = some c_wear_best := rfl
theorem t_wear_Least : T f_wear_Least = some c_wear_Least := rfl
theorem t_wear_Most_1 : T f_wear_Most_1 = some c_wear_Most_1 := rfl
theorem t_wear_Most : T f_wear_Most = some c_wear_Most := rfl
theorem t_wear_Gap : T f_wear_Gap = some c_wear_Gap := rfl
theorem t_wear_Add : T f_wear_Add = some c_wear_Add := rfl
theorem t_slices_Index_int_int : T f_slices_Index_int_int = some c_slices_Index_int_int := rfl
theorem t_slices_Contains_int_int : T f_slices_Contains_int_int = some c_slices_Contains_int_int := rfl
theorem t_wear_May : T f_wear_May = some c_wear_May := rfl
theorem t_wear_Play : T f_wear_Play = some c_wear_Play := rfl
theorem t_law21_awake : T f_law21_awake = some c_law21_awake := rfl
theorem t_ref21_Of : T f_ref21_Of = some c_ref21_Of := rfl
theorem t_ref21_Least : T f_ref21_Least = some c_ref21_Least := rfl
theorem t_ref21_Most : T f_ref21_Most = some c_ref21_Most := rfl
theorem t_law21_WearFinds : T f_law21_WearFinds = some c_law21_WearFinds := rfl
theorem t_ref21_Play : T f_ref21_Play = some c_ref21_Play := rfl
theorem t_law21_WearEven : T f_law21_WearEven = some c_law21_WearEven := rfl
theorem t_extent_Extent_Take_1 : T f_extent_Extent_Take_1 = some c_extent_Extent_Take_1 := rfl
theorem t_extent_Extent_Taken_1 : T f_extent_Extent_Taken_1 = some c_extent_Extent_Taken_1 := rfl
end Ev
