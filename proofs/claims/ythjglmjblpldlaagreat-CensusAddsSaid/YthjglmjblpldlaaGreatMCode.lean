/- The code of the functions that the claim reaches, in the evaluator's form; what it is held against stands in the text of the checks. No condition. -/
import Derived.Test.YthjglmjblpldlaaGreatEv9
/-! The code of the functions, as the evaluator takes it. -/
set_option linter.all false
namespace Ev
open Go

abbrev f_law42_CensusAdds : Nat := 3
abbrev f_law42_awake : Nat := 4
abbrev f_census_Add : Nat := 5
abbrev f_ref01_High : Nat := 6
abbrev f_census_Same : Nat := 7
abbrev f_census_Total : Nat := 8
abbrev f_census_Waste : Nat := 9
abbrev f_nand_New : Nat := 10
abbrev f_census_Of : Nat := 11
abbrev f_ftl_Mount : Nat := 12
abbrev f_geom_Check : Nat := 13
abbrev f_zeros_Ones : Nat := 14
abbrev f_scan_All : Nat := 15
abbrev f_latest_Versions : Nat := 16
abbrev f_census_void : Nat := 17
abbrev f_nand_Device_Sides : Nat := 18
abbrev f_census_Of_1 : Nat := 19
abbrev f_nand_Device_Wear : Nat := 20
abbrev f_nand_Device_Read : Nat := 21
abbrev f_census_see : Nat := 22
abbrev f_geom_Logical : Nat := 23
abbrev f_scan_Marked : Nat := 24
abbrev f_ftl_Mount_1 : Nat := 26
abbrev f_geom_Check_1 : Nat := 32
abbrev f_nand_Device_Down : Nat := 33
abbrev f_scan_All_1 : Nat := 34
abbrev f_scan_Data : Nat := 35
abbrev f_nand_Device_Marked : Nat := 36
abbrev f_latest_nothing : Nat := 37
abbrev f_slices_SortFunc_api_Copies_api_Copies : Nat := 40
abbrev f_latest_Versions_1 : Nat := 41
abbrev f_cmp_Compare_int : Nat := 42
abbrev f_mirror_Newest : Nat := 43
abbrev f_nand_Device_there : Nat := 44
abbrev f_nand_Device_up : Nat := 45
abbrev f_geom_Place : Nat := 46
abbrev f_page_Class : Nat := 47
abbrev f_page_Get : Nat := 48
abbrev f_geom_Good : Nat := 49
abbrev f_scan_some : Nat := 50
abbrev f_latest_Highest : Nat := 59
abbrev f_latest_Broken : Nat := 68
abbrev f_latest_nothing_1 : Nat := 69
abbrev f_slices_Contains_uint64_uint64 : Nat := 70
abbrev f_slices_pdqsortCmpFunc_api_Copies : Nat := 74
abbrev f_math_bits_Len : Nat := 75
abbrev f_cmp_isNaN_int : Nat := 76
abbrev f_mirror_up : Nat := 77
abbrev f_mirror_Tables : Nat := 78
abbrev f_zeros_Blank : Nat := 79
abbrev f_geom_Bad : Nat := 82
abbrev f_latest_Broken_1 : Nat := 104
abbrev f_slices_ContainsFunc_api_Found_api_Found : Nat := 105
abbrev f_slices_Index_uint64_uint64 : Nat := 106
abbrev f_slices_insertionSortCmpFunc_api_Copies : Nat := 110
abbrev f_math_bits_Len32 : Nat := 118
abbrev f_math_bits_Len64 : Nat := 119
abbrev f_mirror_Tables_1 : Nat := 120
abbrev f_table_Get : Nat := 121
abbrev f_zeros_Count : Nat := 122
abbrev f_be_Get : Nat := 127
abbrev f_slices_IndexFunc_api_Found_api_Found : Nat := 160
abbrev f_be_Reader_B : Nat := 168
abbrev f_table_Get_1 : Nat := 169
abbrev f_be_Reader_N : Nat := 170
abbrev f_zeros_count : Nat := 171
abbrev f_be_Get_1 : Nat := 174
abbrev f_be_width : Nat := 175
abbrev xI (n : Int) : A := .c (.int .i64 n)
abbrev xT (d n : Nat) : AOpr := ⟨some d, .mv (.t n) true, none⟩
abbrev xF (d n : Nat) : AOpr := ⟨some d, .mv (.t n) false, none⟩
abbrev xE (d n i : Nat) : AOpr := ⟨some d, .ext (.t n) i, none⟩
abbrev xS (d : Nat) (o : AOp) : AOpr := ⟨some d, o, none⟩
abbrev xG (d g : Nat) (b : Bool) (o : AOp) : AOpr := ⟨some d, o, some (g, b)⟩

def k_geom_Check_1 : ACode := (.seq (.reg [xS 6 (.mv (.c (.bool false)) false)] [0, 1, 2]) (.seq (.reg [xF 7 0, xT 8 1, xS 9 (.bin .geq .int (.t 7) (.t 8)), xT 10 9, xG 11 10 true (.mv (.t 0) true), xG 12 10 true (.mv (.t 2) true), xG 13 10 true (.bin .leq .int (.t 11) (.t 12)), xS 14 (.pick (.t 10) (.t 13) (.c (.bool false))), xT 6 14] [6]) .ret))
def c_geom_Check_1 : AFunc := ⟨k_geom_Check_1, 15, [.t 6], [], [], []⟩
def k_geom_Check : ACode := (.seq (.reg [xS 1 (.box (.t 0)), xS 2 (.mv (xI 0) false)] [1]) (.seq (.reg [xS 3 (.mv (.c (.fn f_geom_Check_1 [])) false)] [1, 3]) (.seq (.seq (.reg [xF 4 3, xS 5 (.fa 0 (.t 1)), xS 6 (.load 0 (.t 5)), xS 7 (.callv (.t 4) [(.t 6), (xI 8), (xI 34)]), xS 8 (.un .not (.t 7)), xT 9 8, xG 10 9 false (.mv (.t 3) false), xG 11 9 false (.fa 1 (.t 1)), xG 12 9 false (.load 0 (.t 11)), xG 13 9 false (.callv (.t 10) [(.t 12), (xI 4), (xI 32)]), xG 14 9 false (.un .not (.t 13)), xS 15 (.pick (.t 9) (.c (.bool true)) (.t 14)), xT 16 15, xG 17 16 false (.mv (.t 3) true), xG 18 16 false (.fa 2 (.t 1)), xG 19 16 false (.load 0 (.t 18)), xG 20 16 false (.callv (.t 17) [(.t 19), (xI 0), (xI 8)]), xG 21 16 false (.un .not (.t 20)), xS 22 (.pick (.t 16) (.c (.bool true)) (.t 21))] [22]) (.cond (.t 22)
 (.seq (.reg [xS 2 (.mv (xI 3) false)] [2]) .ret)
 .skip)) (.seq (.reg [xS 2 (.mv (xI 0) false)] [2]) .ret))))
def c_geom_Check : AFunc := ⟨k_geom_Check, 23, [.t 2], [], [], []⟩
def bl_zeros_Ones_0 : ACode := (.seq (.reg [xS 7 (.bin .lss .int (.t 6) (.t 5))] [3, 5, 6, 7]) (.seq (.cond (.t 7)
 .skip
 (.exit 0)) (.seq (.block 1 (.reg [xT 8 3, xS 9 (.bsl 1 [(.c (.int .u8 255))] false), xS 10 (.app 1 1 (.t 8) (.t 9)), xT 3 10] [3, 5, 6])) (.reg [xS 11 (.bin .add .int (.t 6) (xI 1)), xT 6 11] [3, 5, 6]))))
def l_zeros_Ones_0 : ACode := .loop [3, 5, 6] [(3, 0)] bl_zeros_Ones_0
theorem L_zeros_Ones_0 {T : Table} (ks : List Kt) (e : Env) (h : Heap) (Q : Ex → Env → Heap → Prop) : Xc T l_zeros_Ones_0 ks e h Q = Xc T bl_zeros_Ones_0 (.seq l_zeros_Ones_0 :: ks) (e.keep [3, 5, 6]) h Q := Xc_loop ks _ e h Q _ _
def k_zeros_Ones : ACode := (.seq (.reg [xS 2 (.mv (.c (.ps 1 [])) false)] [0]) (.seq (.reg [xS 3 (.mv (.c (.ps 1 [])) false)] [0, 3]) (.seq (.seq (.reg [xT 4 0, xS 5 (.mx false [(.t 4), (xI 1048576)]), xS 6 (.mv (xI 0) false)] [3, 5, 6]) (.block 0 l_zeros_Ones_0)) (.seq (.reg [xT 12 3, xT 2 12] [2]) .ret))))
def c_zeros_Ones : AFunc := ⟨k_zeros_Ones, 13, [.t 2], [], [0], []⟩
def bl_nand_New_0 : ACode := (.seq (.reg [xS 34 (.bin .lss .int (.t 33) (.t 32))] [2, 3, 9, 31, 32, 33, 34]) (.seq (.cond (.t 34)
 .skip
 (.exit 0)) (.seq (.block 1 (.seq (.reg [xS 35 (.ia (.sl 1) (.t 31) (.t 33)), xS 36 (.load 0 (.t 35)), xT 11 36] [2, 3, 9, 11, 31, 32, 33]) (.seq (.reg [xF 37 11, xS 38 (.bin .geq .int (.t 37) (xI 0)), xT 39 38, xG 40 39 true (.mv (.t 11) false), xG 41 39 true (.fa 0 (.t 3)), xG 42 39 true (.load 0 (.t 41)), xG 43 39 true (.bin .lss .int (.t 40) (.t 42)), xS 44 (.pick (.t 39) (.t 43) (.c (.bool false)))] [2, 3, 9, 11, 31, 32, 33, 44]) (.cond (.t 44)
 (.reg [xF 45 9, xS 46 (.nilck (.t 45)), xS 47 (.fa 3 (.t 46)), xS 48 (.load 0 (.t 47)), xT 49 11, xS 50 (.ia (.sl 1) (.t 48) (.t 49)), ⟨none, .store 1 (.t 50) (.c (.bool true)), none⟩] [2, 3, 9, 31, 32, 33])
 .skip)))) (.reg [xS 51 (.bin .add .int (.t 33) (xI 1)), xT 33 51] [2, 3, 9, 31, 32, 33]))))
def l_nand_New_0 : ACode := .loop [2, 3, 9, 31, 32, 33] [] bl_nand_New_0
theorem L_nand_New_0 {T : Table} (ks : List Kt) (e : Env) (h : Heap) (Q : Ex → Env → Heap → Prop) : Xc T l_nand_New_0 ks e h Q = Xc T bl_nand_New_0 (.seq l_nand_New_0 :: ks) (e.keep [2, 3, 9, 31, 32, 33]) h Q := Xc_loop ks _ e h Q _ _
def bl_nand_New_1 : ACode := (.seq (.reg [xS 58 (.bin .lss .int (.t 57) (.t 56))] [2, 9, 56, 57, 58]) (.seq (.cond (.t 58)
 .skip
 (.exit 2)) (.seq (.block 3 (.regd [xF 59 9, xF 60 9, xS 61 (.nilck (.t 60)), xS 62 (.fa 4 (.t 61)), xS 63 (.load 0 (.t 62)), xS 64 (.callp f_zeros_Ones [(xI 256)] []), xS 65 (.bsl 1 [(.t 64)] false), xS 66 (.apph 1 24 (.t 63) (.t 65)), xS 67 (.nilck (.t 59)), xS 68 (.fa 4 (.t 67)), ⟨none, .store 1 (.t 68) (.t 66), none⟩] [2, 9, 56, 57] ([], []) [])) (.reg [xS 69 (.bin .add .int (.t 57) (xI 1)), xT 57 69] [2, 9, 56, 57]))))
def l_nand_New_1 : ACode := .loop [2, 9, 56, 57] [] bl_nand_New_1
theorem L_nand_New_1 {T : Table} (ks : List Kt) (e : Env) (h : Heap) (Q : Ex → Env → Heap → Prop) : Xc T l_nand_New_1 ks e h Q = Xc T bl_nand_New_1 (.seq l_nand_New_1 :: ks) (e.keep [2, 9, 56, 57]) h Q := Xc_loop ks _ e h Q _ _
def bl_nand_New_2 : ACode := (.seq (.reg [xS 73 (.bin .lss .int (.t 72) (.t 71))] [9, 70, 71, 72, 73]) (.seq (.cond (.t 73)
 .skip
 (.exit 4)) (.seq (.block 5 (.seq (.reg [xS 74 (.ia (.sl 3) (.t 70) (.t 72)), xS 75 (.load 3 (.t 74)), xS 13 (.alloc [(.int .i64 0), (.int .i64 0), (.ps 1 [])]), ⟨none, .store 3 (.t 13) (.t 75), none⟩] [9, 13, 70, 71, 72]) (.seq (.reg [xS 76 (.fa 2 (.t 13)), xS 77 (.load 0 (.t 76)), xS 78 (.app 1 1 (.c (.ps 1 [])) (.t 77)), xS 79 (.fa 2 (.t 13)), ⟨none, .store 1 (.t 79) (.t 78), none⟩] [9, 13, 70, 71, 72]) .gap))) (.reg [xS 90 (.bin .add .int (.t 72) (xI 1)), xT 72 90] [9, 70, 71, 72]))))
def l_nand_New_2 : ACode := .loop [9, 70, 71, 72] [] bl_nand_New_2
theorem L_nand_New_2 {T : Table} (ks : List Kt) (e : Env) (h : Heap) (Q : Ex → Env → Heap → Prop) : Xc T l_nand_New_2 ks e h Q = Xc T bl_nand_New_2 (.seq l_nand_New_2 :: ks) (e.keep [9, 70, 71, 72]) h Q := Xc_loop ks _ e h Q _ _
def k_nand_New : ACode := (.seq (.reg [xS 3 (.box (.t 0)), xS 6 (.mv (.c .nilp) false), xS 7 (.mv (xI 0) false)] [1, 2, 3]) (.seq (.seq (.reg [xS 14 (.load 3 (.t 3)), xS 15 (.callp f_geom_Check [(.t 14)] []), xT 8 15] [1, 2, 3, 8]) (.seq (.reg [xF 16 8, xS 17 (.bin .neq .int (.t 16) (xI 0))] [1, 2, 3, 8, 17]) (.cond (.t 17)
 (.seq (.reg [xT 18 8, xS 6 (.mv (.c .nilp) false), xT 7 18] [6, 7]) .ret)
 .skip))) (.seq (.regd [xS 19 (.load 3 (.t 3)), xS 20 (.fa 0 (.t 3)), xS 21 (.load 0 (.t 20)), xS 22 (.mksl 1 1 (.bool false) (.t 21) (.t 21) true), xS 23 (.fa 0 (.t 3)), xS 24 (.load 0 (.t 23)), xS 25 (.mksl 1 8 (.int .i64 0) (.t 24) (.t 24) true), xS 26 (.fa 0 (.t 3)), xS 27 (.load 0 (.t 26)), xS 28 (.mksl 1 8 (.int .i64 0) (.t 27) (.t 27) true), xS 29 (.build [(.int .i64 0), (.int .i64 0), (.int .i64 0), (.hn 1), (.hn 1), (.hn 1), (.hn 1), (.ps 3 []), (.int .i64 0), (.bool false)] [(0, 3, (.t 19)), (3, 1, (.t 22)), (5, 1, (.t 25)), (6, 1, (.t 28))]), xS 30 (.box (.t 29)), xT 9 30] [1, 2, 3, 9] ([], []) [(0, 0, 11), (2, 0, 3), (5, 0, 6), (8, 0, 9)]) (.seq (.seq (.reg [xT 31 1, xS 32 (.len false (.t 31)), xS 33 (.mv (xI 0) false)] [2, 3, 9, 31, 32, 33]) (.block 0 l_nand_New_0)) (.seq (.seq (.reg [xS 52 (.fa 0 (.t 3)), xS 53 (.load 0 (.t 52)), xS 54 (.fa 1 (.t 3)), xS 55 (.load 0 (.t 54)), xS 56 (.bin .mul .int (.t 53) (.t 55)), xS 57 (.mv (xI 0) false)] [2, 9, 56, 57]) (.block 2 l_nand_New_1)) (.seq (.seq (.reg [xT 70 2, xS 71 (.len false (.t 70)), xS 72 (.mv (xI 0) false)] [9, 70, 71, 72]) (.block 4 l_nand_New_2)) (.seq (.reg [xT 91 9, xT 6 91, xS 7 (.mv (xI 0) false)] [6, 7]) .ret)))))))
def c_nand_New : AFunc := ⟨k_nand_New, 92, [.t 6, .t 7], [], [], []⟩
def k_nand_Device_Down : ACode := (.seq (.reg [xS 2 (.mv (.c (.bool false)) false)] [0]) (.seq (.reg [xF 3 0, xS 4 (.bin .neq .ptr (.t 3) (.c .nilp)), xT 5 4, xG 6 5 true (.mv (.t 0) true), xG 7 5 true (.nilck (.t 6)), xG 8 5 true (.fa 9 (.t 7)), xG 9 5 true (.load 0 (.t 8)), xS 10 (.pick (.t 5) (.t 9) (.c (.bool false))), xT 2 10] [2]) .ret))
def c_nand_Device_Down : AFunc := ⟨k_nand_Device_Down, 11, [.t 2], [], [], []⟩
def k_nand_Device_up : ACode := (.seq (.reg [xS 2 (.mv (xI 0) false)] [0]) (.seq (.block 0 (.seq (.reg [xF 4 0, xS 5 (.bin .eql .ptr (.t 4) (.c .nilp)), xT 3 5] [0, 3]) (.cond (.t 3)
 (.seq (.reg [xS 2 (.mv (xI 1) false)] [2]) .ret)
 (.seq (.reg [xT 7 0, xS 8 (.nilck (.t 7)), xS 9 (.fa 9 (.t 8)), xS 10 (.load 0 (.t 9)), xT 6 10] [6]) (.cond (.t 6)
 (.seq (.reg [xS 2 (.mv (xI 9) false)] [2]) .ret)
 .skip))))) (.seq (.reg [xS 2 (.mv (xI 0) false)] [2]) .ret)))
def c_nand_Device_up : AFunc := ⟨k_nand_Device_up, 11, [.t 2], [], [], []⟩
def k_geom_Place : ACode := (.seq (.reg [xS 2 (.box (.t 0)), xS 3 (.box (.t 1)), xS 4 (.mv (xI 0) false)] [2, 3]) (.seq (.seq (.reg [xS 5 (.load 3 (.t 2)), xS 6 (.callp f_geom_Check [(.t 5)] []), xS 7 (.bin .neq .int (.t 6) (xI 0)), xT 8 7, xG 9 8 false (.fa 0 (.t 3)), xG 10 8 false (.load 0 (.t 9)), xG 11 8 false (.bin .lss .int (.t 10) (xI 0)), xS 12 (.pick (.t 8) (.c (.bool true)) (.t 11)), xT 13 12, xG 14 13 false (.fa 0 (.t 3)), xG 15 13 false (.load 0 (.t 14)), xG 16 13 false (.fa 0 (.t 2)), xG 17 13 false (.load 0 (.t 16)), xG 18 13 false (.bin .geq .int (.t 15) (.t 17)), xS 19 (.pick (.t 13) (.c (.bool true)) (.t 18)), xT 20 19, xG 21 20 false (.fa 1 (.t 3)), xG 22 20 false (.load 0 (.t 21)), xG 23 20 false (.bin .lss .int (.t 22) (xI 0)), xS 24 (.pick (.t 20) (.c (.bool true)) (.t 23)), xT 25 24, xG 26 25 false (.fa 1 (.t 3)), xG 27 25 false (.load 0 (.t 26)), xG 28 25 false (.fa 1 (.t 2)), xG 29 25 false (.load 0 (.t 28)), xG 30 25 false (.bin .geq .int (.t 27) (.t 29)), xS 31 (.pick (.t 25) (.c (.bool true)) (.t 30))] [2, 3, 31]) (.cond (.t 31)
 (.seq (.reg [xS 4 (.mv (.c (.int .i64 (-1))) false)] [4]) .ret)
 .skip)) (.seq (.reg [xS 32 (.fa 0 (.t 3)), xS 33 (.load 0 (.t 32)), xS 34 (.fa 1 (.t 2)), xS 35 (.load 0 (.t 34)), xS 36 (.bin .mul .int (.t 33) (.t 35)), xS 37 (.fa 1 (.t 3)), xS 38 (.load 0 (.t 37)), xS 39 (.bin .add .int (.t 36) (.t 38)), xT 4 39] [4]) .ret)))
def c_geom_Place : AFunc := ⟨k_geom_Place, 40, [.t 4], [], [], []⟩
def k_nand_Device_Read : ACode := (.seq (.reg [xS 3 (.box (.t 1)), xS 4 (.mv (.c (.hn 1)) false), xS 5 (.mv (xI 0) false)] [0, 3]) (.seq (.seq (.reg [xF 9 0, xS 10 (.callh f_nand_Device_up [(.t 9)]), xT 6 10] [0, 3, 6]) (.seq (.reg [xF 11 6, xS 12 (.bin .neq .int (.t 11) (xI 0))] [0, 3, 6, 12]) (.cond (.t 12)
 (.seq (.reg [xT 13 6, xS 4 (.mv (.c (.hn 1)) false), xT 5 13] [4, 5]) .ret)
 .skip))) (.seq (.regd [xF 14 0, xS 15 (.nilck (.t 14)), xS 16 (.fa 0 (.t 15)), xS 17 (.load 3 (.t 16)), xS 18 (.load 2 (.t 3)), xS 19 (.callp f_geom_Place [(.t 17), (.t 18)] []), xT 7 19] [0, 7] ([], []) []) (.seq (.seq (.reg [xF 20 7, xS 21 (.bin .lss .int (.t 20) (xI 0))] [0, 7, 21]) (.cond (.t 21)
 (.seq (.reg [xS 4 (.mv (.c (.hn 1)) false), xS 5 (.mv (xI 3) false)] [4, 5]) .ret)
 .skip)) (.seq (.reg [xS 22 (.mksl 1 1 (.int .u8 0) (xI 256) (xI 256) true), xT 8 22] [0, 7, 8]) (.seq (.reg [xF 23 8, xT 24 0, xS 25 (.nilck (.t 24)), xS 26 (.fa 4 (.t 25)), xS 27 (.load 0 (.t 26)), xT 28 7, xS 29 (.ia (.sl 1) (.t 27) (.t 28)), xS 30 (.load 0 (.t 29)), xS 31 (.copy 1 (.t 23) (.t 30))] [8]) (.seq (.reg [xT 32 8, xT 4 32, xS 5 (.mv (xI 0) false)] [4, 5]) .ret)))))))
def c_nand_Device_Read : AFunc := ⟨k_nand_Device_Read, 33, [.t 4, .t 5], [], [], [(0, false)]⟩
def bl_zeros_count_0 : ACode := (.seq (.reg [xS 6 (.bin .lss .int (.t 5) (xI 8))] [0, 3, 5, 6]) (.seq (.cond (.t 6)
 .skip
 (.exit 0)) (.seq (.block 1 (.seq (.reg [xF 7 5, xT 4 7] [0, 3, 4, 5]) (.reg [xT 8 3, xF 9 0, xS 10 (.un .xor (.t 9)), xT 11 4, xS 12 (.bin .shr .int (.t 10) (.t 11)), xS 13 (.bin .and .int (.t 12) (.c (.int .u8 1))), xS 14 (.conv (.i .i64) (.t 13)), xS 15 (.bin .add .int (.t 8) (.t 14)), xT 3 15] [0, 3, 5]))) (.reg [xS 16 (.bin .add .int (.t 5) (xI 1)), xT 5 16] [0, 3, 5]))))
def l_zeros_count_0 : ACode := .loop [0, 3, 5] [] bl_zeros_count_0
theorem L_zeros_count_0 {T : Table} (ks : List Kt) (e : Env) (h : Heap) (Q : Ex → Env → Heap → Prop) : Xc T l_zeros_count_0 ks e h Q = Xc T bl_zeros_count_0 (.seq l_zeros_count_0 :: ks) (e.keep [0, 3, 5]) h Q := Xc_loop ks _ e h Q _ _
def k_zeros_count : ACode := (.seq (.reg [xS 2 (.mv (xI 0) false)] [0]) (.seq (.reg [xS 3 (.mv (xI 0) false)] [0, 3]) (.seq (.seq (.reg [xS 5 (.mv (xI 0) false)] [0, 3, 5]) (.block 0 l_zeros_count_0)) (.seq (.reg [xT 17 3, xT 2 17] [2]) .ret))))
def c_zeros_count : AFunc := ⟨k_zeros_count, 18, [.t 2], [], [], []⟩
def bl_zeros_Count_0 : ACode := (.seq (.reg [xS 9 (.bin .lss .int (.t 8) (.t 7))] [3, 6, 7, 8, 9]) (.seq (.cond (.t 9)
 .skip
 (.exit 0)) (.seq (.block 1 (.seq (.reg [xS 10 (.ia (.sl 1) (.t 6) (.t 8)), xS 11 (.load 0 (.t 10)), xT 5 11] [3, 5, 6, 7, 8]) (.reg [xT 12 3, xT 13 5, xS 14 (.callp f_zeros_count [(.t 13)] []), xS 15 (.bin .add .int (.t 12) (.t 14)), xT 3 15] [3, 6, 7, 8]))) (.reg [xS 16 (.bin .add .int (.t 8) (xI 1)), xT 8 16] [3, 6, 7, 8]))))
def l_zeros_Count_0 : ACode := .loop [3, 6, 7, 8] [] bl_zeros_Count_0
theorem L_zeros_Count_0 {T : Table} (ks : List Kt) (e : Env) (h : Heap) (Q : Ex → Env → Heap → Prop) : Xc T l_zeros_Count_0 ks e h Q = Xc T bl_zeros_Count_0 (.seq l_zeros_Count_0 :: ks) (e.keep [3, 6, 7, 8]) h Q := Xc_loop ks _ e h Q _ _
def k_zeros_Count : ACode := (.seq (.reg [xS 2 (.mv (xI 0) false)] [0]) (.seq (.reg [xS 3 (.mv (xI 0) false)] [0, 3]) (.seq (.seq (.reg [xT 6 0, xS 7 (.len false (.t 6)), xS 8 (.mv (xI 0) false)] [3, 6, 7, 8]) (.block 0 l_zeros_Count_0)) (.seq (.reg [xT 17 3, xT 2 17] [2]) .ret))))
def c_zeros_Count : AFunc := ⟨k_zeros_Count, 18, [.t 2], [], [], []⟩
def k_zeros_Blank : ACode := (.seq (.reg [xS 2 (.mv (.c (.bool false)) false)] [0]) (.seq (.reg [xT 3 0, xS 4 (.callp f_zeros_Count [(.t 3)] [(0, false)]), xS 5 (.bin .eql .int (.t 4) (xI 0)), xT 2 5] [2]) .ret))
def c_zeros_Blank : AFunc := ⟨k_zeros_Blank, 6, [.t 2], [], [], []⟩
def k_be_Get_1 : ACode := (.seq (.reg [xS 3 (.mv (.c (.int .u64 0)) false)] [0, 1]) (.seq (.seq (.reg [xF 4 0, xS 5 (.bin .lss .int (.t 4) (xI 0)), xT 6 5, xG 7 6 false (.mv (.t 0) false), xG 8 6 false (.load 0 (.t 1)), xG 9 6 false (.len false (.t 8)), xG 10 6 false (.bin .geq .int (.t 7) (.t 9)), xS 11 (.pick (.t 6) (.c (.bool true)) (.t 10))] [0, 1, 11]) (.cond (.t 11)
 (.seq (.reg [xS 3 (.mv (.c (.int .u64 0)) false)] [3]) .ret)
 .skip)) (.seq (.reg [xS 12 (.load 0 (.t 1)), xT 13 0, xS 14 (.ia (.sl 1) (.t 12) (.t 13)), xS 15 (.load 0 (.t 14)), xS 16 (.conv (.i .u64) (.t 15)), xT 3 16] [3]) .ret)))
def c_be_Get_1 : AFunc := ⟨k_be_Get_1, 17, [.t 3], [], [], []⟩
def k_be_width : ACode := (.seq (.reg [xS 2 (.mv (xI 0) false)] [0]) (.seq (.reg [xT 3 0, xS 4 (.mx true [(.t 3), (xI 0)]), xS 5 (.mx false [(.t 4), (xI 8)]), xT 2 5] [2]) .ret))
def c_be_width : AFunc := ⟨k_be_width, 6, [.t 2], [], [], []⟩
def bl_be_Get_0 : ACode := (.seq (.reg [xS 22 (.bin .lss .int (.t 21) (.t 20))] [1, 7, 8, 20, 21, 22]) (.seq (.cond (.t 22)
 .skip
 (.exit 0)) (.seq (.block 1 (.seq (.reg [xF 23 21, xT 9 23] [1, 7, 8, 9, 20, 21]) (.reg [xT 24 7, xS 25 (.bin .shl .int (.t 24) (.c (.int .u64 8))), xF 26 8, xF 27 1, xT 28 9, xS 29 (.bin .add .int (.t 27) (.t 28)), xS 30 (.callv (.t 26) [(.t 29)]), xS 31 (.bin .or .int (.t 25) (.t 30)), xT 7 31] [1, 7, 8, 20, 21]))) (.reg [xS 32 (.bin .add .int (.t 21) (xI 1)), xT 21 32] [1, 7, 8, 20, 21]))))
def l_be_Get_0 : ACode := .loop [1, 7, 8, 20, 21] [] bl_be_Get_0
theorem L_be_Get_0 {T : Table} (ks : List Kt) (e : Env) (h : Heap) (Q : Ex → Env → Heap → Prop) : Xc T l_be_Get_0 ks e h Q = Xc T bl_be_Get_0 (.seq l_be_Get_0 :: ks) (e.keep [1, 7, 8, 20, 21]) h Q := Xc_loop ks _ e h Q _ _
def k_be_Get : ACode := (.seq (.reg [xS 3 (.box (.t 0)), xS 6 (.mv (.c (.int .u64 0)) false)] [1, 2, 3]) (.seq (.reg [xS 7 (.mv (.c (.int .u64 0)) false)] [1, 2, 3, 7]) (.seq (.reg [xS 10 (.mkfn f_be_Get_1 [(.t 3)]), xT 8 10] [1, 2, 3, 7, 8]) (.seq (.seq (.reg [xF 11 1, xS 12 (.load 0 (.t 3)), xS 13 (.len false (.t 12)), xS 14 (.bin .gtr .int (.t 11) (.t 13))] [1, 2, 3, 7, 8, 14]) (.cond (.t 14)
 (.reg [xS 15 (.load 0 (.t 3)), xS 16 (.len false (.t 15)), xT 1 16] [1, 2, 7, 8])
 .skip)) (.seq (.reg [xT 17 1, xS 18 (.mx true [(.t 17), (.c (.int .i64 (-8)))]), xT 1 18] [1, 2, 7, 8]) (.seq (.seq (.reg [xT 19 2, xS 20 (.callp f_be_width [(.t 19)] []), xS 21 (.mv (xI 0) false)] [1, 7, 8, 20, 21]) (.block 0 l_be_Get_0)) (.seq (.reg [xT 33 7, xT 6 33] [6]) .ret)))))))
def c_be_Get : AFunc := ⟨k_be_Get, 34, [.t 6], [], [], []⟩
def k_page_Class : ACode := (.seq (.reg [xS 2 (.mv (xI 0) false)] [0]) (.seq (.seq (.reg [xF 5 0, xS 6 (.len false (.t 5)), xS 7 (.bin .neq .int (.t 6) (xI 256))] [0, 7]) (.cond (.t 7)
 (.seq (.reg [xS 2 (.mv (xI 2) false)] [2]) .ret)
 .skip)) (.seq (.seq (.reg [xF 8 0, xS 9 (.callp f_zeros_Blank [(.t 8)] [(0, false)])] [0, 9]) (.cond (.t 9)
 (.seq (.reg [xS 2 (.mv (xI 0) false)] [2]) .ret)
 .skip)) (.seq (.reg [xF 11 0, xS 12 (.bad), xE 13 12 0, xE 14 12 1, xS 15 (.bad), xT 10 15, xE 16 10 0, xE 17 10 1, xT 3 16, xT 4 17] [0, 3, 4]) (.seq (.seq (.reg [xT 18 4, xS 19 (.bin .neq .int (.t 18) (xI 0)), xT 20 19, xG 21 20 false (.mv (.t 3) true), xG 22 20 false (.conv .bs (.t 21)), xG 23 20 false (.mv (.t 0) true), xG 24 20 false (.conv .bs (.t 23)), xG 25 20 false (.bin .neq .str (.t 22) (.t 24)), xS 26 (.pick (.t 20) (.c (.bool true)) (.t 25))] [26]) (.cond (.t 26)
 (.seq (.reg [xS 2 (.mv (xI 2) false)] [2]) .ret)
 .skip)) (.seq (.reg [xS 2 (.mv (xI 1) false)] [2]) .ret))))))
def c_page_Class : AFunc := ⟨k_page_Class, 27, [.t 2], [], [], []⟩
def k_page_Get : ACode := (.seq (.reg [xS 2 (.alloc [(.int .i64 0), (.int .i64 0), (.int .i64 0), (.int .u64 0), (.int .u64 0), (.int .i64 0), (.int .i64 0)]), xS 3 (.mv (.c (.str [])) false), xS 4 (.mv (xI 0) false)] [0, 2]) (.seq (.seq (.reg [xF 7 0, xS 8 (.callp f_page_Class [(.t 7)] [(0, false)])] [0, 2, 8]) (.block 0 (.seq (.reg [xS 10 (.bin .eql .int (.t 8) (xI 0)), xT 9 10] [0, 2, 8, 9]) (.cond (.t 9)
 (.seq (.reg [xS 11 (.build [(.int .i64 0), (.int .i64 0), (.int .i64 0), (.int .u64 0), (.int .u64 0), (.int .i64 0), (.int .i64 0)] []), ⟨none, .store 7 (.t 2) (.t 11), none⟩, xS 3 (.mv (.c (.str [])) false), xS 4 (.mv (xI 8) false)] [2, 3, 4]) .ret)
 (.seq (.reg [xS 13 (.bin .eql .int (.t 8) (xI 2)), xT 12 13] [0, 2, 12]) (.cond (.t 12)
 (.seq (.reg [xS 14 (.build [(.int .i64 0), (.int .i64 0), (.int .i64 0), (.int .u64 0), (.int .u64 0), (.int .i64 0), (.int .i64 0)] []), ⟨none, .store 7 (.t 2) (.t 14), none⟩, xS 3 (.mv (.c (.str [])) false), xS 4 (.mv (xI 6) false)] [2, 3, 4]) .ret)
 .skip)))))) (.seq (.reg [xT 16 0, xS 17 (.bad), xT 15 17, xE 18 15 0, xE 19 15 1, xS 5 (.alloc [(.int .i64 0), (.int .i64 0), (.int .i64 0), (.int .u64 0), (.int .u64 0), (.int .i64 0), (.int .i64 0)]), ⟨none, .store 7 (.t 5) (.t 18), none⟩, xT 6 19] [2, 5, 6]) (.seq (.reg [xS 20 (.load 7 (.t 5)), xT 21 6, ⟨none, .store 7 (.t 2) (.t 20), none⟩, xT 3 21, xS 4 (.mv (xI 0) false)] [2, 3, 4]) .ret))))
def c_page_Get : AFunc := ⟨k_page_Get, 22, [.c 2 7, .t 3, .t 4], [], [], []⟩
def k_scan_Data : ACode := (.seq (.reg [xS 3 (.box (.t 1)), xS 4 (.alloc [(.int .i64 0), (.int .i64 0), (.int .i64 0), (.int .u64 0), (.int .u64 0), (.int .i64 0), (.int .i64 0)]), xS 5 (.mv (.c (.str [])) false), xS 6 (.mv (xI 0) false)] [0, 3, 4]) (.seq (.reg [xT 10 0, xS 11 (.load 2 (.t 3)), xS 12 (.callh f_nand_Device_Read [(.t 10), (.t 11)]), xT 9 12, xE 13 9 0, xE 14 9 1, xT 7 13, xT 8 14] [4, 7, 8]) (.seq (.seq (.reg [xF 15 8, xS 16 (.bin .neq .int (.t 15) (xI 0))] [4, 7, 8, 16]) (.cond (.t 16)
 (.seq (.reg [xS 17 (.build [(.int .i64 0), (.int .i64 0), (.int .i64 0), (.int .u64 0), (.int .u64 0), (.int .i64 0), (.int .i64 0)] []), xT 18 8, ⟨none, .store 7 (.t 4) (.t 17), none⟩, xS 5 (.mv (.c (.str [])) false), xT 6 18] [4, 5, 6]) .ret)
 .skip)) (.seq (.reg [xT 19 7, xS 20 (.callp f_page_Get [(.t 19)] []), xE 21 20 0, xE 22 20 1, xE 23 20 2, ⟨none, .store 7 (.t 4) (.t 21), none⟩, xT 5 22, xT 6 23] [4, 5, 6]) .ret))))
def c_scan_Data : AFunc := ⟨k_scan_Data, 24, [.c 4 7, .t 5, .t 6], [], [], []⟩
def k_scan_All_1 : ACode := (.seq (.reg [xS 3 (.box (.t 0))] [1, 2, 3]) (.seq (.reg [xS 8 (.load 0 (.t 1)), xS 9 (.load 2 (.t 3)), xS 10 (.callh f_scan_Data [(.t 8), (.t 9)]), xT 7 10, xE 11 7 0, xE 12 7 1, xE 13 7 2, xS 4 (.alloc [(.int .i64 0), (.int .i64 0), (.int .i64 0), (.int .u64 0), (.int .u64 0), (.int .i64 0), (.int .i64 0)]), ⟨none, .store 7 (.t 4) (.t 11), none⟩, xT 5 12, xT 6 13] [2, 3, 4, 6]) (.seq (.reg [xT 14 6, xS 15 (.bin .eql .int (.t 14) (xI 0)), xT 16 15, xG 17 16 true (.fa 0 (.t 4)), xG 18 16 true (.load 0 (.t 17)), xG 19 16 true (.bin .neq .int (.t 18) (xI 1)), xS 20 (.pick (.t 16) (.t 19) (.c (.bool false)))] [2, 3, 4, 20]) (.cond (.t 20)
 (.reg [xS 21 (.load 0 (.t 2)), xS 22 (.load 2 (.t 3)), xS 23 (.load 7 (.t 4)), xS 24 (.build [(.int .i64 0), (.int .i64 0), (.int .i64 0), (.int .i64 0), (.int .i64 0), (.int .u64 0), (.int .u64 0), (.int .i64 0), (.int .i64 0)] [(0, 2, (.t 22)), (2, 7, (.t 23))]), xS 25 (.bsl 9 [(.t 24)] false), xS 26 (.apph 9 72 (.t 21) (.t 25)), ⟨none, .store 1 (.t 2) (.t 26), none⟩] [])
 .skip))))
def c_scan_All_1 : AFunc := ⟨k_scan_All_1, 27, [], [], [], []⟩
def k_nand_Device_Sides : ACode := (.seq (.reg [xS 2 (.alloc [(.int .i64 0), (.int .i64 0), (.int .i64 0)])] [0, 2]) (.seq (.seq (.reg [xF 3 0, xS 4 (.bin .eql .ptr (.t 3) (.c .nilp))] [0, 2, 4]) (.cond (.t 4)
 (.seq (.reg [xS 5 (.build [(.int .i64 0), (.int .i64 0), (.int .i64 0)] []), ⟨none, .store 3 (.t 2) (.t 5), none⟩] [2]) .ret)
 .skip)) (.seq (.reg [xT 6 0, xS 7 (.nilck (.t 6)), xS 8 (.fa 0 (.t 7)), xS 9 (.load 3 (.t 8)), ⟨none, .store 3 (.t 2) (.t 9), none⟩] [2]) .ret)))
def c_nand_Device_Sides : AFunc := ⟨k_nand_Device_Sides, 10, [.c 2 3], [], [], []⟩
def k_nand_Device_there : ACode := (.seq (.reg [xS 4 (.mv (.c (.bool false)) false)] [0, 1]) (.seq (.reg [xF 5 0, xS 6 (.bin .neq .ptr (.t 5) (.c .nilp)), xT 7 6, xG 8 7 true (.mv (.t 1) false), xG 9 7 true (.bin .geq .int (.t 8) (xI 0)), xS 10 (.pick (.t 7) (.t 9) (.c (.bool false))), xT 11 10, xG 12 11 true (.mv (.t 1) true), xG 13 11 true (.mv (.t 0) true), xG 14 11 true (.nilck (.t 13)), xG 15 11 true (.fa 0 (.t 14)), xG 16 11 true (.fa 0 (.t 15)), xG 17 11 true (.load 0 (.t 16)), xG 18 11 true (.bin .lss .int (.t 12) (.t 17)), xS 19 (.pick (.t 11) (.t 18) (.c (.bool false))), xT 4 19] [4]) .ret))
def c_nand_Device_there : AFunc := ⟨k_nand_Device_there, 20, [.t 4], [], [], []⟩
def k_nand_Device_Marked : ACode := (.seq (.reg [xS 4 (.mv (.c (.bool false)) false)] [0, 1]) (.seq (.reg [xF 5 0, xF 6 1, xS 7 (.callh f_nand_Device_there [(.t 5), (.t 6)]), xT 8 7, xG 9 8 true (.mv (.t 0) true), xG 10 8 true (.nilck (.t 9)), xG 11 8 true (.fa 3 (.t 10)), xG 12 8 true (.load 0 (.t 11)), xG 13 8 true (.mv (.t 1) true), xG 14 8 true (.ia (.sl 1) (.t 12) (.t 13)), xG 15 8 true (.load 0 (.t 14)), xS 16 (.pick (.t 8) (.t 15) (.c (.bool false))), xT 4 16] [4]) .ret))
def c_nand_Device_Marked : AFunc := ⟨k_nand_Device_Marked, 17, [.t 4], [], [], []⟩
def bl_scan_All_0 : ACode := (.seq (.reg [xS 29 (.bin .lss .int (.t 28) (.t 27))] [1, 4, 5, 6, 27, 28, 29]) (.seq (.cond (.t 29)
 .skip
 (.exit 3)) (.seq (.block 4 (.seq (.reg [xF 30 28, xT 7 30] [1, 4, 5, 6, 7, 27, 28]) (.reg [xF 31 5, xF 32 6, xT 33 7, xS 34 (.build [(.int .i64 0), (.int .i64 0)] [(0, 1, (.t 32)), (1, 1, (.t 33))]), xS 35 (.callv (.t 31) [(.t 34)])] [1, 4, 5, 6, 27, 28]))) (.reg [xS 36 (.bin .add .int (.t 28) (xI 1)), xT 28 36] [1, 4, 5, 6, 27, 28]))))
def l_scan_All_0 : ACode := .loop [1, 4, 5, 6, 27, 28] [] bl_scan_All_0
theorem L_scan_All_0 {T : Table} (ks : List Kt) (e : Env) (h : Heap) (Q : Ex → Env → Heap → Prop) : Xc T l_scan_All_0 ks e h Q = Xc T bl_scan_All_0 (.seq l_scan_All_0 :: ks) (e.keep [1, 4, 5, 6, 27, 28]) h Q := Xc_loop ks _ e h Q _ _
def bl_scan_All_1 : ACode := (.seq (.seq (.reg [xF 15 6, xS 16 (.load 0 (.t 1)), xS 17 (.callh f_nand_Device_Sides [(.t 16)]), xS 18 (.fld 0 0 (.t 17)), xS 19 (.bin .lss .int (.t 15) (.t 18))] [1, 4, 5, 6, 19]) (.cond (.t 19)
 .skip
 (.exit 1))) (.seq (.block 2 (.seq (.seq (.reg [xS 22 (.load 0 (.t 1)), xF 23 6, xS 24 (.callh f_nand_Device_Marked [(.t 22), (.t 23)])] [1, 4, 5, 6, 24]) (.cond (.t 24)
 (.exit 2)
 .skip)) (.seq (.reg [xS 25 (.load 0 (.t 1)), xS 26 (.callh f_nand_Device_Sides [(.t 25)]), xS 27 (.fld 1 0 (.t 26)), xS 28 (.mv (xI 0) false)] [1, 4, 5, 6, 27, 28]) (.block 3 l_scan_All_0)))) (.reg [xT 20 6, xS 21 (.bin .add .int (.t 20) (xI 1)), xT 6 21] [1, 4, 5, 6])))
def l_scan_All_1 : ACode := .loop [1, 4, 5, 6] [] bl_scan_All_1
theorem L_scan_All_1 {T : Table} (ks : List Kt) (e : Env) (h : Heap) (Q : Ex → Env → Heap → Prop) : Xc T l_scan_All_1 ks e h Q = Xc T bl_scan_All_1 (.seq l_scan_All_1 :: ks) (e.keep [1, 4, 5, 6]) h Q := Xc_loop ks _ e h Q _ _
def k_scan_All : ACode := (.seq (.reg [xS 1 (.box (.t 0)), xS 2 (.mv (.c (.hn 9)) false), xS 3 (.mv (xI 0) false)] [1]) (.scope (.seq (.block 0 (.seq (.reg [xS 9 (.load 0 (.t 1)), xS 10 (.bin .eql .ptr (.t 9) (.c .nilp)), xT 8 10] [1, 8]) (.cond (.t 8)
 (.seq (.reg [xS 2 (.mv (.c (.hn 9)) false), xS 3 (.mv (xI 1) false)] [2, 3]) .ret)
 (.seq (.reg [xS 12 (.load 0 (.t 1)), xS 13 (.callh f_nand_Device_Down [(.t 12)]), xT 11 13] [1, 11]) (.cond (.t 11)
 (.seq (.reg [xS 2 (.mv (.c (.hn 9)) false), xS 3 (.mv (xI 9) false)] [2, 3]) .ret)
 .skip))))) (.seq (.reg [xS 4 (.alloc [(.hn 9)])] [1, 4]) (.seq (.reg [xS 14 (.mkfn f_scan_All_1 [(.t 1), (.t 4)]), xT 5 14] [1, 4, 5]) (.seq .skip (.seq (.seq (.reg [xS 6 (.mv (xI 2) false)] [1, 4, 5, 6]) (.block 1 l_scan_All_1)) (.seq (.reg [xS 37 (.load 0 (.t 4)), xT 2 37, xS 3 (.mv (xI 0) false)] [2, 3]) .ret))))))))
def c_scan_All : AFunc := ⟨k_scan_All, 38, [.t 2, .t 3], [], [], [(0, true)]⟩
def k_mirror_up : ACode := (.seq (.reg [xS 2 (.mv (xI 0) false)] [0]) (.seq (.block 0 (.seq (.reg [xF 4 0, xS 5 (.bin .eql .ptr (.t 4) (.c .nilp)), xT 3 5] [0, 3]) (.cond (.t 3)
 (.seq (.reg [xS 2 (.mv (xI 1) false)] [2]) .ret)
 (.seq (.reg [xT 7 0, xS 8 (.callh f_nand_Device_Down [(.t 7)]), xT 6 8] [6]) (.cond (.t 6)
 (.seq (.reg [xS 2 (.mv (xI 9) false)] [2]) .ret)
 .skip))))) (.seq (.reg [xS 2 (.mv (xI 0) false)] [2]) .ret)))
def c_mirror_up : AFunc := ⟨k_mirror_up, 9, [.t 2], [], [], []⟩
def k_be_Reader_B : ACode := (.seq (.reg [xS 4 (.mv (.c (.ps 1 [])) false)] [0, 1]) (.seq (.seq (.reg [xF 6 0, xS 7 (.bin .eql .ptr (.t 6) (.c .nilp)), xT 8 7, xG 9 8 false (.mv (.t 0) false), xG 10 8 false (.nilck (.t 9)), xG 11 8 false (.fa 1 (.t 10)), xG 12 8 false (.load 0 (.t 11)), xS 13 (.pick (.t 8) (.c (.bool true)) (.t 12))] [0, 1, 13]) (.cond (.t 13)
 (.seq (.reg [xS 4 (.mv (.c (.ps 1 [])) false)] [4]) .ret)
 .skip)) (.seq (.seq (.reg [xF 14 1, xS 15 (.bin .lss .int (.t 14) (xI 0)), xT 16 15, xG 17 16 false (.mv (.t 1) false), xG 18 16 false (.mv (.t 0) false), xG 19 16 false (.nilck (.t 18)), xG 20 16 false (.fa 0 (.t 19)), xG 21 16 false (.load 0 (.t 20)), xG 22 16 false (.len false (.t 21)), xG 23 16 false (.bin .gtr .int (.t 17) (.t 22)), xS 24 (.pick (.t 16) (.c (.bool true)) (.t 23))] [0, 1, 24]) (.cond (.t 24)
 (.seq (.reg [xT 25 0, xS 26 (.nilck (.t 25)), xS 27 (.fa 1 (.t 26)), ⟨none, .store 1 (.t 27) (.c (.bool true)), none⟩] []) (.seq (.reg [xS 4 (.mv (.c (.ps 1 [])) false)] [4]) .ret))
 .skip)) (.seq (.reg [xF 28 0, xS 29 (.nilck (.t 28)), xS 30 (.fa 0 (.t 29)), xS 31 (.load 0 (.t 30)), xF 32 1, xS 33 (.sl (.sl 1) (.t 31) none (some (.t 32)) none false), xS 34 (.app 1 1 (.c (.ps 1 [])) (.t 33)), xT 5 34] [0, 1, 5]) (.seq (.reg [xF 35 0, xT 36 0, xS 37 (.nilck (.t 36)), xS 38 (.fa 0 (.t 37)), xS 39 (.load 0 (.t 38)), xT 40 1, xS 41 (.sl (.sl 1) (.t 39) (some (.t 40)) none none false), xS 42 (.nilck (.t 35)), xS 43 (.fa 0 (.t 42)), ⟨none, .store 1 (.t 43) (.t 41), none⟩] [5]) (.seq (.reg [xT 44 5, xT 4 44] [4]) .ret))))))
def c_be_Reader_B : AFunc := ⟨k_be_Reader_B, 45, [.t 4], [], [0], []⟩
def k_be_Reader_N : ACode := (.seq (.reg [xS 4 (.mv (.c (.int .u64 0)) false)] [0, 1]) (.seq (.seq (.reg [xF 5 1, xS 6 (.bin .lss .int (.t 5) (xI 1)), xT 7 6, xG 8 7 false (.mv (.t 1) false), xG 9 7 false (.bin .gtr .int (.t 8) (xI 8)), xS 10 (.pick (.t 7) (.c (.bool true)) (.t 9))] [0, 1, 10]) (.cond (.t 10)
 (.reg [xS 1 (.mv (.c (.int .i64 (-1))) false)] [0, 1])
 .skip)) (.seq (.reg [xT 11 0, xF 12 1, xS 13 (.callh f_be_Reader_B [(.t 11), (.t 12)]), xT 14 1, xS 15 (.callp f_be_Get [(.t 13), (xI 0), (.t 14)] [(0, false)]), xT 4 15] [4]) .ret)))
def c_be_Reader_N : AFunc := ⟨k_be_Reader_N, 16, [.t 4], [], [], []⟩
def k_table_Get_1 : ACode := (.seq (.reg [xS 3 (.mv (xI 0) false)] [0, 1]) (.seq (.reg [xS 4 (.load 0 (.t 1)), xT 5 0, xS 6 (.callh f_be_Reader_N [(.t 4), (.t 5)]), xS 7 (.conv (.i .i64) (.t 6)), xT 3 7] [3]) .ret))
def c_table_Get_1 : AFunc := ⟨k_table_Get_1, 8, [.t 3], [], [], []⟩
def bl_table_Get_0 : ACode := (.seq (.reg [xS 42 (.bin .lss .int (.t 41) (xI 8))] [0, 2, 4, 7, 8, 9, 10, 34, 35, 36, 41, 42]) (.seq (.cond (.t 42)
 .skip
 (.exit 2)) (.seq (.block 3 (.seq (.reg [xF 43 41, xT 11 43] [0, 2, 4, 7, 8, 9, 10, 11, 34, 35, 36, 41]) (.seq (.reg [xF 44 10, xF 45 11, xS 46 (.bin .shr .int (.t 44) (.t 45)), xS 47 (.bin .and .int (.t 46) (.c (.int .u8 1))), xS 48 (.bin .eql .int (.t 47) (.c (.int .u8 1)))] [0, 2, 4, 7, 8, 9, 10, 11, 34, 35, 36, 41, 48]) (.cond (.t 48)
 (.reg [xS 49 (.fa 1 (.t 7)), xS 50 (.load 0 (.t 49)), xF 51 9, xS 52 (.bin .mul .int (xI 8) (.t 51)), xT 53 11, xS 54 (.bin .add .int (.t 52) (.t 53)), xS 55 (.bsl 1 [(.t 54)] false), xS 56 (.apph 1 8 (.t 50) (.t 55)), xS 57 (.fa 1 (.t 7)), ⟨none, .store 1 (.t 57) (.t 56), none⟩] [0, 2, 4, 7, 8, 9, 10, 34, 35, 36, 41])
 .skip)))) (.reg [xS 58 (.bin .add .int (.t 41) (xI 1)), xT 41 58] [0, 2, 4, 7, 8, 9, 10, 34, 35, 36, 41]))))
def l_table_Get_0 : ACode := .loop [0, 2, 4, 7, 8, 9, 10, 34, 35, 36, 41] [(34, 0)] bl_table_Get_0
theorem L_table_Get_0 {T : Table} (ks : List Kt) (e : Env) (h : Heap) (Q : Ex → Env → Heap → Prop) : Xc T l_table_Get_0 ks e h Q = Xc T bl_table_Get_0 (.seq l_table_Get_0 :: ks) (e.keep [0, 2, 4, 7, 8, 9, 10, 34, 35, 36, 41]) h Q := Xc_loop ks _ e h Q _ _
def bl_table_Get_1 : ACode := (.seq (.reg [xS 37 (.bin .lss .int (.t 36) (.t 35))] [0, 2, 4, 7, 8, 34, 35, 36, 37]) (.seq (.cond (.t 37)
 .skip
 (.exit 0)) (.seq (.block 1 (.seq (.reg [xF 38 36, xS 39 (.ia (.sl 1) (.t 34) (.t 36)), xS 40 (.load 0 (.t 39)), xT 9 38, xT 10 40] [0, 2, 4, 7, 8, 9, 10, 34, 35, 36]) (.seq (.reg [xS 41 (.mv (xI 0) false)] [0, 2, 4, 7, 8, 9, 10, 34, 35, 36, 41]) (.block 2 l_table_Get_0)))) (.reg [xS 59 (.bin .add .int (.t 36) (xI 1)), xT 36 59] [0, 2, 4, 7, 8, 34, 35, 36]))))
def l_table_Get_1 : ACode := .loop [0, 2, 4, 7, 8, 34, 35, 36] [(34, 0)] bl_table_Get_1
theorem L_table_Get_1 {T : Table} (ks : List Kt) (e : Env) (h : Heap) (Q : Ex → Env → Heap → Prop) : Xc T l_table_Get_1 ks e h Q = Xc T bl_table_Get_1 (.seq l_table_Get_1 :: ks) (e.keep [0, 2, 4, 7, 8, 34, 35, 36]) h Q := Xc_loop ks _ e h Q _ _
def bl_table_Get_2 : ACode := (.seq (.reg [xS 62 (.bin .lss .int (.t 61) (xI 34))] [0, 2, 4, 7, 12, 61, 62]) (.seq (.cond (.t 62)
 .skip
 (.exit 4)) (.seq (.block 5 (.seq (.reg [xF 63 61, xT 13 63] [0, 2, 4, 7, 12, 13, 61]) (.seq (.reg [xF 64 12, xS 65 (.callv (.t 64) [(xI 2)]), xT 14 65] [0, 2, 4, 7, 12, 13, 14, 61]) (.seq (.reg [xT 66 13, xS 67 (.fa 5 (.t 4)), xS 68 (.load 0 (.t 67)), xS 69 (.bin .lss .int (.t 66) (.t 68))] [0, 2, 4, 7, 12, 14, 61, 69]) (.cond (.t 69)
 (.reg [xS 70 (.fa 2 (.t 7)), xS 71 (.load 0 (.t 70)), xT 72 14, xS 73 (.bsl 1 [(.t 72)] false), xS 74 (.apph 1 8 (.t 71) (.t 73)), xS 75 (.fa 2 (.t 7)), ⟨none, .store 1 (.t 75) (.t 74), none⟩] [0, 2, 4, 7, 12, 61])
 .skip))))) (.reg [xS 76 (.bin .add .int (.t 61) (xI 1)), xT 61 76] [0, 2, 4, 7, 12, 61]))))
def l_table_Get_2 : ACode := .loop [0, 2, 4, 7, 12, 61] [] bl_table_Get_2
theorem L_table_Get_2 {T : Table} (ks : List Kt) (e : Env) (h : Heap) (Q : Ex → Env → Heap → Prop) : Xc T l_table_Get_2 ks e h Q = Xc T bl_table_Get_2 (.seq l_table_Get_2 :: ks) (e.keep [0, 2, 4, 7, 12, 61]) h Q := Xc_loop ks _ e h Q _ _
def bl_table_Get_3 : ACode := (.seq (.reg [xS 80 (.bin .lss .int (.t 79) (.t 78))] [0, 2, 7, 12, 78, 79, 80]) (.seq (.cond (.t 80)
 .skip
 (.exit 6)) (.seq (.block 7 (.regd [xS 81 (.fa 3 (.t 7)), xS 82 (.load 0 (.t 81)), xF 83 12, xS 84 (.callv (.t 83) [(xI 4)]), xS 85 (.conv (.i .u64) (.t 84)), xS 86 (.bsl 1 [(.t 85)] false), xS 87 (.apph 1 8 (.t 82) (.t 86)), xS 88 (.fa 3 (.t 7)), ⟨none, .store 1 (.t 88) (.t 87), none⟩] [0, 2, 7, 12, 78, 79] ([], []) [(1, 0, 6)])) (.reg [xS 89 (.bin .add .int (.t 79) (xI 1)), xT 79 89] [0, 2, 7, 12, 78, 79]))))
def l_table_Get_3 : ACode := .loop [0, 2, 7, 12, 78, 79] [] bl_table_Get_3
theorem L_table_Get_3 {T : Table} (ks : List Kt) (e : Env) (h : Heap) (Q : Ex → Env → Heap → Prop) : Xc T l_table_Get_3 ks e h Q = Xc T bl_table_Get_3 (.seq l_table_Get_3 :: ks) (e.keep [0, 2, 7, 12, 78, 79]) h Q := Xc_loop ks _ e h Q _ _
def k_table_Get : ACode := (.seq (.reg [xS 2 (.alloc [(.int .u64 0), (.ps 1 []), (.ps 1 []), (.ps 1 [])]), xS 3 (.mv (xI 0) false)] [0, 2]) (.seq (.reg [xF 18 0, xS 19 (.callp f_page_Get [(.t 18)] []), xT 17 19, xE 20 17 0, xE 21 17 1, xE 22 17 2, xS 4 (.alloc [(.int .i64 0), (.int .i64 0), (.int .i64 0), (.int .u64 0), (.int .u64 0), (.int .i64 0), (.int .i64 0)]), ⟨none, .store 7 (.t 4) (.t 20), none⟩, xT 5 21, xT 6 22] [0, 2, 4, 5, 6]) (.seq (.seq (.reg [xF 23 6, xS 24 (.bin .neq .int (.t 23) (xI 0))] [0, 2, 4, 5, 6, 24]) (.cond (.t 24)
 (.seq (.reg [xS 25 (.build [(.int .u64 0), (.ps 1 []), (.ps 1 []), (.ps 1 [])] []), xT 26 6, ⟨none, .store 4 (.t 2) (.t 25), none⟩, xT 3 26] [2, 3]) .ret)
 .skip)) (.seq (.reg [xS 27 (.fa 3 (.t 4)), xS 28 (.load 0 (.t 27)), xS 29 (.build [(.int .u64 0), (.hn 1), (.hn 1), (.hn 1)] [(0, 1, (.t 28))]), xS 7 (.alloc [(.int .u64 0), (.hn 1), (.hn 1), (.hn 1)]), ⟨none, .store 4 (.t 7) (.t 29), none⟩] [0, 2, 4, 5, 7]) (.seq (.reg [xT 30 5, xS 31 (.conv .sb (.t 30)), xS 32 (.bad), xS 8 (.alloc [.nilp]), ⟨none, .store 1 (.t 8) (.t 32), none⟩] [0, 2, 4, 7, 8]) (.seq (.seq (.reg [xS 33 (.load 0 (.t 8)), xS 34 (.callh f_be_Reader_B [(.t 33), (xI 5)]), xS 35 (.len false (.t 34)), xS 36 (.mv (xI 0) false)] [0, 2, 4, 7, 8, 34, 35, 36]) (.block 0 l_table_Get_1)) (.seq (.reg [xS 60 (.mkfn f_table_Get_1 [(.t 8)]), xT 12 60] [0, 2, 4, 7, 12]) (.seq (.seq (.reg [xS 61 (.mv (xI 0) false)] [0, 2, 4, 7, 12, 61]) (.block 4 l_table_Get_2)) (.seq (.seq (.reg [xF 77 12, xS 78 (.callv (.t 77) [(xI 1)]), xS 79 (.mv (xI 0) false)] [0, 2, 7, 12, 78, 79]) (.block 6 l_table_Get_3)) (.seq (.seq (.reg [xS 91 (.ldz 4 (.t 7) false), xS 92 (.bad), xT 90 92, xE 93 90 0, xE 94 90 1, xT 15 93, xT 16 94] [0, 2, 7, 15, 16]) (.seq (.reg [xT 95 16, xS 96 (.bin .neq .int (.t 95) (xI 0)), xT 97 96, xG 98 97 false (.mv (.t 15) true), xG 99 97 false (.conv .bs (.t 98)), xG 100 97 false (.mv (.t 0) true), xG 101 97 false (.conv .bs (.t 100)), xG 102 97 false (.bin .neq .str (.t 99) (.t 101)), xS 103 (.pick (.t 97) (.c (.bool true)) (.t 102))] [2, 7, 103]) (.cond (.t 103)
 (.seq (.reg [xS 104 (.build [(.int .u64 0), (.ps 1 []), (.ps 1 []), (.ps 1 [])] []), ⟨none, .store 4 (.t 2) (.t 104), none⟩, xS 3 (.mv (xI 6) false)] [2, 3]) .ret)
 .skip))) (.seq (.reg [xS 105 (.ldz 4 (.t 7) false), ⟨none, .store 4 (.t 2) (.t 105), none⟩, xS 3 (.mv (xI 0) false)] [2, 3]) .ret)))))))))))
def c_table_Get : AFunc := ⟨k_table_Get, 106, [.c 2 4, .t 3], [], [], []⟩
def k_mirror_Tables_1 : ACode := (.seq (.reg [xS 10 (.load 0 (.t 1)), xS 11 (.load 0 (.t 2)), xT 12 0, xS 13 (.build [(.int .i64 0), (.int .i64 0)] [(0, 1, (.t 11)), (1, 1, (.t 12))]), xS 14 (.callh f_nand_Device_Read [(.t 10), (.t 13)]), xT 9 14, xE 15 9 0, xE 16 9 1, xT 5 15, xT 6 16] [3, 5, 6]) (.seq (.seq (.reg [xT 17 6, xS 18 (.bin .neq .int (.t 17) (xI 0))] [3, 5, 18]) (.cond (.t 18)
 .ret
 .skip)) (.seq (.reg [xT 20 5, xS 21 (.callp f_table_Get [(.t 20)] []), xT 19 21, xE 22 19 0, xE 23 19 1, xS 7 (.alloc [(.int .u64 0), (.ps 1 []), (.ps 1 []), (.ps 1 [])]), ⟨none, .store 4 (.t 7) (.t 22), none⟩, xT 8 23] [3, 7, 8]) (.seq (.reg [xT 24 8, xS 25 (.bin .eql .int (.t 24) (xI 0))] [3, 7, 25]) (.cond (.t 25)
 (.reg [xS 26 (.load 0 (.t 3)), xS 27 (.load 4 (.t 7)), xS 28 (.bsl 4 [(.t 27)] false), xS 29 (.apph 4 80 (.t 26) (.t 28)), ⟨none, .store 1 (.t 3) (.t 29), none⟩] [])
 .skip)))))
def c_mirror_Tables_1 : AFunc := ⟨k_mirror_Tables_1, 30, [], [], [], []⟩
def bl_mirror_Tables_0 : ACode := (.seq (.reg [xS 20 (.bin .lss .int (.t 19) (.t 18))] [5, 6, 18, 19, 20]) (.seq (.cond (.t 20)
 .skip
 (.exit 0)) (.seq (.block 1 (.seq (.reg [xF 21 19, xT 7 21] [5, 6, 7, 18, 19]) (.reg [xF 22 6, xT 23 7, xS 24 (.callv (.t 22) [(.t 23)])] [5, 6, 18, 19]))) (.reg [xS 25 (.bin .add .int (.t 19) (xI 1)), xT 19 25] [5, 6, 18, 19]))))
def l_mirror_Tables_0 : ACode := .loop [5, 6, 18, 19] [] bl_mirror_Tables_0
theorem L_mirror_Tables_0 {T : Table} (ks : List Kt) (e : Env) (h : Heap) (Q : Ex → Env → Heap → Prop) : Xc T l_mirror_Tables_0 ks e h Q = Xc T bl_mirror_Tables_0 (.seq l_mirror_Tables_0 :: ks) (e.keep [5, 6, 18, 19]) h Q := Xc_loop ks _ e h Q _ _
def k_mirror_Tables : ACode := (.seq (.reg [xS 2 (.box (.t 0)), xS 3 (.box (.t 1)), xS 4 (.mv (.c (.hn 4)) false)] [2, 3]) (.seq (.reg [xS 5 (.alloc [(.hn 4)])] [2, 3, 5]) (.seq (.seq (.reg [xS 8 (.load 0 (.t 3)), xS 9 (.bin .neq .int (.t 8) (xI 0)), xT 10 9, xG 11 10 true (.load 0 (.t 3)), xG 12 10 true (.bin .neq .int (.t 11) (xI 1)), xS 13 (.pick (.t 10) (.t 12) (.c (.bool false)))] [2, 3, 5, 13]) (.cond (.t 13)
 (.seq (.reg [xS 14 (.load 0 (.t 5)), xT 4 14] [4]) .ret)
 .skip)) (.seq (.reg [xS 15 (.mkfn f_mirror_Tables_1 [(.t 2), (.t 3), (.t 5)]), xT 6 15] [2, 5, 6]) (.seq (.seq (.reg [xS 16 (.load 0 (.t 2)), xS 17 (.callh f_nand_Device_Sides [(.t 16)]), xS 18 (.fld 1 0 (.t 17)), xS 19 (.mv (xI 0) false)] [5, 6, 18, 19]) (.block 0 l_mirror_Tables_0)) (.seq (.reg [xS 26 (.load 0 (.t 5)), xT 4 26] [4]) .ret))))))
def c_mirror_Tables : AFunc := ⟨k_mirror_Tables, 27, [.t 4], [], [], [(0, true)]⟩
def bl_mirror_Newest_0 : ACode := (.seq (.reg [xS 26 (.bin .lss .int (.t 25) (.t 24))] [0, 2, 6, 7, 8, 9, 18, 23, 24, 25, 26]) (.seq (.cond (.t 26)
 .skip
 (.exit 2)) (.seq (.block 3 (.seq (.reg [xS 27 (.ia (.sl 4) (.t 23) (.t 25)), xS 28 (.load 4 (.t 27)), xS 11 (.alloc [(.int .u64 0), (.ps 1 []), (.ps 1 []), (.ps 1 [])]), ⟨none, .store 4 (.t 11) (.t 28), none⟩] [0, 2, 6, 7, 8, 9, 11, 18, 23, 24, 25]) (.seq (.reg [xF 29 8, xS 30 (.un .not (.t 29)), xT 31 30, xG 32 31 false (.fa 0 (.t 11)), xG 33 31 false (.load 0 (.t 32)), xG 34 31 false (.fa 0 (.t 6)), xG 35 31 false (.load 0 (.t 34)), xG 36 31 false (.bin .gtr .int (.t 33) (.t 35)), xS 37 (.pick (.t 31) (.c (.bool true)) (.t 36)), xT 38 37, xG 39 38 false (.fa 0 (.t 11)), xG 40 38 false (.load 0 (.t 39)), xG 41 38 false (.fa 0 (.t 6)), xG 42 38 false (.load 0 (.t 41)), xG 43 38 false (.bin .eql .int (.t 40) (.t 42)), xG 44 38 false (.mv (.t 43) true), xG 45 44 true (.mv (.t 9) false), xG 46 44 true (.mv (.t 7) false), xG 47 44 true (.bin .eql .int (.t 45) (.t 46)), xG 48 38 false (.pick (.t 44) (.t 47) (.c (.bool false))), xS 49 (.pick (.t 38) (.c (.bool true)) (.t 48))] [0, 2, 6, 7, 8, 9, 11, 18, 23, 24, 25, 49]) (.cond (.t 49)
 (.reg [xS 50 (.load 4 (.t 11)), xF 51 9, ⟨none, .store 4 (.t 6) (.t 50), none⟩, xT 7 51, xS 8 (.mv (.c (.bool true)) false)] [0, 2, 6, 7, 8, 9, 18, 23, 24, 25])
 .skip)))) (.reg [xS 52 (.bin .add .int (.t 25) (xI 1)), xT 25 52] [0, 2, 6, 7, 8, 9, 18, 23, 24, 25]))))
def l_mirror_Newest_0 : ACode := .loop [0, 2, 6, 7, 8, 9, 18, 23, 24, 25] [] bl_mirror_Newest_0
theorem L_mirror_Newest_0 {T : Table} (ks : List Kt) (e : Env) (h : Heap) (Q : Ex → Env → Heap → Prop) : Xc T l_mirror_Newest_0 ks e h Q = Xc T bl_mirror_Newest_0 (.seq l_mirror_Newest_0 :: ks) (e.keep [0, 2, 6, 7, 8, 9, 18, 23, 24, 25]) h Q := Xc_loop ks _ e h Q _ _
def bl_mirror_Newest_1 : ACode := (.seq (.reg [xS 19 (.bin .lss .int (.t 18) (xI 2))] [0, 2, 6, 7, 8, 18, 19]) (.seq (.cond (.t 19)
 .skip
 (.exit 0)) (.seq (.block 1 (.seq (.reg [xF 20 18, xT 9 20] [0, 2, 6, 7, 8, 9, 18]) (.seq (.reg [xF 21 0, xF 22 9, xS 23 (.callh f_mirror_Tables [(.t 21), (.t 22)]), xS 24 (.len false (.t 23)), xS 25 (.mv (xI 0) false)] [0, 2, 6, 7, 8, 9, 18, 23, 24, 25]) (.block 2 l_mirror_Newest_0)))) (.reg [xS 53 (.bin .add .int (.t 18) (xI 1)), xT 18 53] [0, 2, 6, 7, 8, 18]))))
def l_mirror_Newest_1 : ACode := .loop [0, 2, 6, 7, 8, 18] [] bl_mirror_Newest_1
theorem L_mirror_Newest_1 {T : Table} (ks : List Kt) (e : Env) (h : Heap) (Q : Ex → Env → Heap → Prop) : Xc T l_mirror_Newest_1 ks e h Q = Xc T bl_mirror_Newest_1 (.seq l_mirror_Newest_1 :: ks) (e.keep [0, 2, 6, 7, 8, 18]) h Q := Xc_loop ks _ e h Q _ _
def k_mirror_Newest : ACode := (.seq (.reg [xS 2 (.alloc [(.int .u64 0), (.ps 1 []), (.ps 1 []), (.ps 1 [])]), xS 3 (.mv (xI 0) false), xS 4 (.mv (xI 0) false)] [0, 2]) (.seq (.seq (.reg [xF 12 0, xS 13 (.callh f_mirror_up [(.t 12)]), xT 5 13] [0, 2, 5]) (.seq (.reg [xF 14 5, xS 15 (.bin .neq .int (.t 14) (xI 0))] [0, 2, 5, 15]) (.cond (.t 15)
 (.seq (.reg [xS 16 (.build [(.int .u64 0), (.ps 1 []), (.ps 1 []), (.ps 1 [])] []), xT 17 5, ⟨none, .store 4 (.t 2) (.t 16), none⟩, xS 3 (.mv (xI 0) false), xT 4 17] [2, 3, 4]) .ret)
 .skip))) (.seq (.reg [xS 6 (.alloc [(.int .u64 0), (.ps 1 []), (.ps 1 []), (.ps 1 [])])] [0, 2, 6]) (.seq (.reg [xS 7 (.mv (xI 0) false), xS 8 (.mv (.c (.bool false)) false)] [0, 2, 6, 7, 8]) (.seq (.seq (.reg [xS 18 (.mv (xI 0) false)] [0, 2, 6, 7, 8, 18]) (.block 0 l_mirror_Newest_1)) (.seq (.seq (.reg [xT 54 8, xS 55 (.un .not (.t 54))] [2, 6, 7, 55]) (.cond (.t 55)
 (.seq (.reg [xS 56 (.build [(.int .u64 0), (.ps 1 []), (.ps 1 []), (.ps 1 [])] []), ⟨none, .store 4 (.t 2) (.t 56), none⟩, xS 3 (.mv (xI 0) false), xS 4 (.mv (xI 8) false)] [2, 3, 4]) .ret)
 .skip)) (.seq (.reg [xS 57 (.load 4 (.t 6)), xT 58 7, ⟨none, .store 4 (.t 2) (.t 57), none⟩, xT 3 58, xS 4 (.mv (xI 0) false)] [2, 3, 4]) .ret)))))))
def c_mirror_Newest : AFunc := ⟨k_mirror_Newest, 59, [.c 2 4, .t 3, .t 4], [], [], []⟩
def k_census_void : ACode := (.seq (.reg [xS 2 (.mv (.c (.ps 1 [])) false)] [0]) (.seq (.reg [xT 7 0, xS 8 (.callh f_mirror_Newest [(.t 7)]), xT 6 8, xE 9 6 0, xE 10 6 1, xE 11 6 2, xS 3 (.alloc [(.int .u64 0), (.ps 1 []), (.ps 1 []), (.ps 1 [])]), ⟨none, .store 4 (.t 3) (.t 9), none⟩, xT 4 10, xT 5 11] [3, 5]) (.seq (.seq (.reg [xT 12 5, xS 13 (.bin .neq .int (.t 12) (xI 0))] [3, 13]) (.cond (.t 13)
 (.seq (.reg [xS 2 (.mv (.c (.ps 1 [])) false)] [2]) .ret)
 .skip)) (.seq (.reg [xS 14 (.fa 3 (.t 3)), xS 15 (.load 0 (.t 14)), xT 2 15] [2]) .ret))))
def c_census_void : AFunc := ⟨k_census_void, 16, [.t 2], [], [], []⟩
def bl_latest_Highest_0 : ACode := (.seq (.reg [xS 10 (.bin .lss .int (.t 9) (.t 8))] [0, 4, 7, 8, 9, 10]) (.seq (.cond (.t 10)
 .skip
 (.exit 0)) (.seq (.block 1 (.seq (.reg [xS 11 (.ia (.sl 9) (.t 7) (.t 9)), xS 12 (.load 9 (.t 11)), xS 6 (.alloc [(.int .i64 0), (.int .i64 0), (.int .i64 0), (.int .i64 0), (.int .i64 0), (.int .u64 0), (.int .u64 0), (.int .i64 0), (.int .i64 0)]), ⟨none, .store 9 (.t 6) (.t 12), none⟩] [0, 4, 6, 7, 8, 9]) (.reg [xT 13 4, xS 14 (.fa 2 (.t 6)), xS 15 (.fa 3 (.t 14)), xS 16 (.load 0 (.t 15)), xS 17 (.mx true [(.t 13), (.t 16)]), xT 4 17] [0, 4, 7, 8, 9]))) (.reg [xS 18 (.bin .add .int (.t 9) (xI 1)), xT 9 18] [0, 4, 7, 8, 9]))))
def l_latest_Highest_0 : ACode := .loop [0, 4, 7, 8, 9] [] bl_latest_Highest_0
theorem L_latest_Highest_0 {T : Table} (ks : List Kt) (e : Env) (h : Heap) (Q : Ex → Env → Heap → Prop) : Xc T l_latest_Highest_0 ks e h Q = Xc T bl_latest_Highest_0 (.seq l_latest_Highest_0 :: ks) (e.keep [0, 4, 7, 8, 9]) h Q := Xc_loop ks _ e h Q _ _
def k_latest_Highest : ACode := (.seq (.reg [xS 2 (.mv (.c (.int .u64 0)) false), xS 3 (.mv (.c (.bool false)) false)] [0]) (.seq (.reg [xS 4 (.mv (.c (.int .u64 0)) false)] [0, 4]) (.seq (.seq (.reg [xF 7 0, xS 8 (.len false (.t 7)), xS 9 (.mv (xI 0) false)] [0, 4, 7, 8, 9]) (.block 0 l_latest_Highest_0)) (.seq (.reg [xT 19 4, xT 20 0, xS 21 (.len false (.t 20)), xS 22 (.bin .gtr .int (.t 21) (xI 0)), xT 2 19, xT 3 22] [2, 3]) .ret))))
def c_latest_Highest : AFunc := ⟨k_latest_Highest, 23, [.t 2, .t 3], [], [], []⟩
def k_latest_Broken_1 : ACode := (.seq (.reg [xS 2 (.box (.t 0)), xS 3 (.mv (.c (.bool false)) false)] [1, 2]) (.seq (.reg [xS 4 (.fa 2 (.t 2)), xS 5 (.fa 3 (.t 4)), xS 6 (.load 0 (.t 5)), xS 7 (.load 0 (.t 1)), xS 8 (.bin .eql .int (.t 6) (.t 7)), xT 9 8, xG 10 9 true (.fa 2 (.t 2)), xG 11 9 true (.fa 1 (.t 10)), xG 12 9 true (.load 0 (.t 11)), xG 13 9 true (.fa 2 (.t 2)), xG 14 9 true (.fa 2 (.t 13)), xG 15 9 true (.load 0 (.t 14)), xG 16 9 true (.bin .sub .int (.t 15) (xI 1)), xG 17 9 true (.bin .eql .int (.t 12) (.t 16)), xS 18 (.pick (.t 9) (.t 17) (.c (.bool false))), xT 3 18] [3]) .ret))
def c_latest_Broken_1 : AFunc := ⟨k_latest_Broken_1, 19, [.t 3], [], [], []⟩
def bl_slices_IndexFunc_api_Found_api_Found_0 : ACode := (.seq (.reg [xS 9 (.bin .lss .int (.t 8) (.t 7))] [0, 1, 7, 8, 9]) (.seq (.cond (.t 9)
 .skip
 (.exit 0)) (.seq (.block 1 (.seq (.reg [xF 10 8, xT 5 10] [0, 1, 5, 7, 8]) (.seq (.reg [xF 11 1, xF 12 0, xF 13 5, xS 14 (.ia (.sl 9) (.t 12) (.t 13)), xS 15 (.load 9 (.t 14)), xS 16 (.callv (.t 11) [(.t 15)])] [0, 1, 5, 7, 8, 16]) (.cond (.t 16)
 (.seq (.reg [xT 17 5, xT 4 17] [4]) .ret)
 .skip)))) (.reg [xS 18 (.bin .add .int (.t 8) (xI 1)), xT 8 18] [0, 1, 7, 8]))))
def l_slices_IndexFunc_api_Found_api_Found_0 : ACode := .loop [0, 1, 7, 8] [] bl_slices_IndexFunc_api_Found_api_Found_0
theorem L_slices_IndexFunc_api_Found_api_Found_0 {T : Table} (ks : List Kt) (e : Env) (h : Heap) (Q : Ex → Env → Heap → Prop) : Xc T l_slices_IndexFunc_api_Found_api_Found_0 ks e h Q = Xc T bl_slices_IndexFunc_api_Found_api_Found_0 (.seq l_slices_IndexFunc_api_Found_api_Found_0 :: ks) (e.keep [0, 1, 7, 8]) h Q := Xc_loop ks _ e h Q _ _
def k_slices_IndexFunc_api_Found_api_Found : ACode := (.seq (.reg [xS 4 (.mv (xI 0) false)] [0, 1]) (.seq (.seq (.reg [xF 6 0, xS 7 (.len false (.t 6)), xS 8 (.mv (xI 0) false)] [0, 1, 7, 8]) (.block 0 l_slices_IndexFunc_api_Found_api_Found_0)) (.seq (.reg [xS 4 (.mv (.c (.int .i64 (-1))) false)] [4]) .ret)))
def c_slices_IndexFunc_api_Found_api_Found : AFunc := ⟨k_slices_IndexFunc_api_Found_api_Found, 19, [.t 4], [], [], []⟩
def k_slices_ContainsFunc_api_Found_api_Found : ACode := (.seq (.reg [xS 4 (.mv (.c (.bool false)) false)] [0, 1]) (.seq (.reg [xT 5 0, xT 6 1, xS 7 (.callh f_slices_IndexFunc_api_Found_api_Found [(.t 5), (.t 6)]), xS 8 (.bin .geq .int (.t 7) (xI 0)), xT 4 8] [4]) .ret))
def c_slices_ContainsFunc_api_Found_api_Found : AFunc := ⟨k_slices_ContainsFunc_api_Found_api_Found, 9, [.t 4], [], [], []⟩
def k_latest_Broken : ACode := (.seq (.reg [xS 2 (.mv (.c (.bool false)) false)] [0]) (.seq (.reg [xF 7 0, xS 8 (.callp f_latest_Highest [(.t 7)] [(0, true)]), xT 6 8, xE 9 6 0, xE 10 6 1, xS 3 (.alloc [(.int .u64 0)]), ⟨none, .store 1 (.t 3) (.t 9), none⟩, xT 4 10] [0, 3, 4]) (.seq (.reg [xS 11 (.mkfn f_latest_Broken_1 [(.t 3)]), xT 5 11] [0, 4, 5]) (.seq (.reg [xT 12 4, xT 13 12, xG 14 13 true (.mv (.t 0) true), xG 15 13 true (.mv (.t 5) true), xG 16 13 true (.callh f_slices_ContainsFunc_api_Found_api_Found [(.t 14), (.t 15)]), xG 17 13 true (.un .not (.t 16)), xS 18 (.pick (.t 13) (.t 17) (.c (.bool false))), xT 2 18] [2]) .ret))))
def c_latest_Broken : AFunc := ⟨k_latest_Broken, 19, [.t 2], [], [], []⟩
def bl_slices_Index_uint64_uint64_0 : ACode := (.seq (.reg [xS 9 (.bin .lss .int (.t 8) (.t 7))] [0, 1, 7, 8, 9]) (.seq (.cond (.t 9)
 .skip
 (.exit 0)) (.seq (.block 1 (.seq (.reg [xF 10 8, xT 5 10] [0, 1, 5, 7, 8]) (.seq (.reg [xF 11 1, xF 12 0, xF 13 5, xS 14 (.ia (.sl 1) (.t 12) (.t 13)), xS 15 (.load 0 (.t 14)), xS 16 (.bin .eql .int (.t 11) (.t 15))] [0, 1, 5, 7, 8, 16]) (.cond (.t 16)
 (.seq (.reg [xT 17 5, xT 4 17] [4]) .ret)
 .skip)))) (.reg [xS 18 (.bin .add .int (.t 8) (xI 1)), xT 8 18] [0, 1, 7, 8]))))
def l_slices_Index_uint64_uint64_0 : ACode := .loop [0, 1, 7, 8] [] bl_slices_Index_uint64_uint64_0
theorem L_slices_Index_uint64_uint64_0 {T : Table} (ks : List Kt) (e : Env) (h : Heap) (Q : Ex → Env → Heap → Prop) : Xc T l_slices_Index_uint64_uint64_0 ks e h Q = Xc T bl_slices_Index_uint64_uint64_0 (.seq l_slices_Index_uint64_uint64_0 :: ks) (e.keep [0, 1, 7, 8]) h Q := Xc_loop ks _ e h Q _ _
def k_slices_Index_uint64_uint64 : ACode := (.seq (.reg [xS 4 (.mv (xI 0) false)] [0, 1]) (.seq (.seq (.reg [xF 6 0, xS 7 (.len false (.t 6)), xS 8 (.mv (xI 0) false)] [0, 1, 7, 8]) (.block 0 l_slices_Index_uint64_uint64_0)) (.seq (.reg [xS 4 (.mv (.c (.int .i64 (-1))) false)] [4]) .ret)))
def c_slices_Index_uint64_uint64 : AFunc := ⟨k_slices_Index_uint64_uint64, 19, [.t 4], [], [], []⟩
def k_slices_Contains_uint64_uint64 : ACode := (.seq (.reg [xS 4 (.mv (.c (.bool false)) false)] [0, 1]) (.seq (.reg [xT 5 0, xT 6 1, xS 7 (.callp f_slices_Index_uint64_uint64 [(.t 5), (.t 6)] [(0, false)]), xS 8 (.bin .geq .int (.t 7) (xI 0)), xT 4 8] [4]) .ret))
def c_slices_Contains_uint64_uint64 : AFunc := ⟨k_slices_Contains_uint64_uint64, 9, [.t 4], [], [], []⟩
def k_latest_nothing_1 : ACode := (.seq (.reg [xS 5 (.mv (.c (.bool false)) false)] [0, 1, 2, 3]) (.seq (.reg [xS 6 (.load 0 (.t 1)), xF 7 0, xS 8 (.callp f_slices_Contains_uint64_uint64 [(.t 6), (.t 7)] [(0, false)]), xT 9 8, xG 10 9 false (.load 0 (.t 2)), xG 11 9 false (.mv (.t 10) true), xG 12 11 true (.mv (.t 0) true), xG 13 11 true (.load 0 (.t 3)), xG 14 11 true (.bin .eql .int (.t 12) (.t 13)), xG 15 9 false (.pick (.t 11) (.t 14) (.c (.bool false))), xS 16 (.pick (.t 9) (.c (.bool true)) (.t 15)), xT 5 16] [5]) .ret))
def c_latest_nothing_1 : AFunc := ⟨k_latest_nothing_1, 17, [.t 5], [], [], []⟩
def k_latest_nothing : ACode := (.seq (.reg [xS 3 (.box (.t 1)), xS 4 (.mv (.c .nilf) false)] [0, 3]) (.seq (.reg [xF 9 0, xS 10 (.callp f_latest_Highest [(.t 9)] [(0, true)]), xT 8 10, xE 11 8 0, xE 12 8 1, xS 5 (.alloc [(.int .u64 0)]), ⟨none, .store 1 (.t 5) (.t 11), none⟩, xT 6 12] [0, 3, 5]) (.seq (.reg [xT 13 0, xS 14 (.callp f_latest_Broken [(.t 13)] [(0, true)]), xS 7 (.alloc [(.bool false)]), ⟨none, .store 1 (.t 7) (.t 14), none⟩] [3, 5, 7]) (.seq (.reg [xS 15 (.mkfn f_latest_nothing_1 [(.t 3), (.t 7), (.t 5)]), xT 4 15] [4]) .ret))))
def c_latest_nothing : AFunc := ⟨k_latest_nothing, 16, [.t 4], [], [], []⟩
def k_math_bits_Len32 : ACode := (.seq (.reg [xS 2 (.mv (xI 0) false)] [0, 2]) (.seq (.seq (.reg [xF 3 0, xS 4 (.bin .geq .int (.t 3) (.c (.int .u32 65536)))] [0, 2, 4]) (.cond (.t 4)
 (.seq (.reg [xT 5 0, xS 6 (.bin .shr .int (.t 5) (.c (.int .u64 16))), xT 0 6] [0]) (.reg [xS 2 (.mv (xI 16) false)] [0, 2]))
 .skip)) (.seq (.seq (.reg [xF 7 0, xS 8 (.bin .geq .int (.t 7) (.c (.int .u32 256)))] [0, 2, 8]) (.cond (.t 8)
 (.seq (.reg [xT 9 0, xS 10 (.bin .shr .int (.t 9) (.c (.int .u64 8))), xT 0 10] [0, 2]) (.reg [xT 11 2, xS 12 (.bin .add .int (.t 11) (xI 8)), xT 2 12] [0, 2]))
 .skip)) (.seq (.reg [xT 13 2, xT 14 0, xS 15 (.conv (.i .u8) (.t 14)), xS 16 (.idx .str 0 (.c (.str [0, 1, 2, 2, 3, 3, 3, 3, 4, 4, 4, 4, 4, 4, 4, 4, 5, 5, 5, 5, 5, 5, 5, 5, 5, 5, 5, 5, 5, 5, 5, 5, 6, 6, 6, 6, 6, 6, 6, 6, 6, 6, 6, 6, 6, 6, 6, 6, 6, 6, 6, 6, 6, 6, 6, 6, 6, 6, 6, 6, 6, 6, 6, 6, 7, 7, 7, 7, 7, 7, 7, 7, 7, 7, 7, 7, 7, 7, 7, 7, 7, 7, 7, 7, 7, 7, 7, 7, 7, 7, 7, 7, 7, 7, 7, 7, 7, 7, 7, 7, 7, 7, 7, 7, 7, 7, 7, 7, 7, 7, 7, 7, 7, 7, 7, 7, 7, 7, 7, 7, 7, 7, 7, 7, 7, 7, 7, 7, 8, 8, 8, 8, 8, 8, 8, 8, 8, 8, 8, 8, 8, 8, 8, 8, 8, 8, 8, 8, 8, 8, 8, 8, 8, 8, 8, 8, 8, 8, 8, 8, 8, 8, 8, 8, 8, 8, 8, 8, 8, 8, 8, 8, 8, 8, 8, 8, 8, 8, 8, 8, 8, 8, 8, 8, 8, 8, 8, 8, 8, 8, 8, 8, 8, 8, 8, 8, 8, 8, 8, 8, 8, 8, 8, 8, 8, 8, 8, 8, 8, 8, 8, 8, 8, 8, 8, 8, 8, 8, 8, 8, 8, 8, 8, 8, 8, 8, 8, 8, 8, 8, 8, 8, 8, 8, 8, 8, 8, 8, 8, 8, 8, 8, 8, 8, 8, 8, 8, 8, 8, 8, 8, 8, 8, 8, 8, 8])) (.t 15)), xS 17 (.conv (.i .i64) (.t 16)), xS 18 (.bin .add .int (.t 13) (.t 17)), xT 2 18] [2]) .ret))))
def c_math_bits_Len32 : AFunc := ⟨k_math_bits_Len32, 19, [.t 2], [], [], []⟩
def k_math_bits_Len64 : ACode := (.seq (.reg [xS 2 (.mv (xI 0) false)] [0, 2]) (.seq (.seq (.reg [xF 3 0, xS 4 (.bin .geq .int (.t 3) (.c (.int .u64 4294967296)))] [0, 2, 4]) (.cond (.t 4)
 (.seq (.reg [xT 5 0, xS 6 (.bin .shr .int (.t 5) (.c (.int .u64 32))), xT 0 6] [0]) (.reg [xS 2 (.mv (xI 32) false)] [0, 2]))
 .skip)) (.seq (.seq (.reg [xF 7 0, xS 8 (.bin .geq .int (.t 7) (.c (.int .u64 65536)))] [0, 2, 8]) (.cond (.t 8)
 (.seq (.reg [xT 9 0, xS 10 (.bin .shr .int (.t 9) (.c (.int .u64 16))), xT 0 10] [0, 2]) (.reg [xT 11 2, xS 12 (.bin .add .int (.t 11) (xI 16)), xT 2 12] [0, 2]))
 .skip)) (.seq (.seq (.reg [xF 13 0, xS 14 (.bin .geq .int (.t 13) (.c (.int .u64 256)))] [0, 2, 14]) (.cond (.t 14)
 (.seq (.reg [xT 15 0, xS 16 (.bin .shr .int (.t 15) (.c (.int .u64 8))), xT 0 16] [0, 2]) (.reg [xT 17 2, xS 18 (.bin .add .int (.t 17) (xI 8)), xT 2 18] [0, 2]))
 .skip)) (.seq (.reg [xT 19 2, xT 20 0, xS 21 (.conv (.i .u8) (.t 20)), xS 22 (.idx .str 0 (.c (.str [0, 1, 2, 2, 3, 3, 3, 3, 4, 4, 4, 4, 4, 4, 4, 4, 5, 5, 5, 5, 5, 5, 5, 5, 5, 5, 5, 5, 5, 5, 5, 5, 6, 6, 6, 6, 6, 6, 6, 6, 6, 6, 6, 6, 6, 6, 6, 6, 6, 6, 6, 6, 6, 6, 6, 6, 6, 6, 6, 6, 6, 6, 6, 6, 7, 7, 7, 7, 7, 7, 7, 7, 7, 7, 7, 7, 7, 7, 7, 7, 7, 7, 7, 7, 7, 7, 7, 7, 7, 7, 7, 7, 7, 7, 7, 7, 7, 7, 7, 7, 7, 7, 7, 7, 7, 7, 7, 7, 7, 7, 7, 7, 7, 7, 7, 7, 7, 7, 7, 7, 7, 7, 7, 7, 7, 7, 7, 7, 8, 8, 8, 8, 8, 8, 8, 8, 8, 8, 8, 8, 8, 8, 8, 8, 8, 8, 8, 8, 8, 8, 8, 8, 8, 8, 8, 8, 8, 8, 8, 8, 8, 8, 8, 8, 8, 8, 8, 8, 8, 8, 8, 8, 8, 8, 8, 8, 8, 8, 8, 8, 8, 8, 8, 8, 8, 8, 8, 8, 8, 8, 8, 8, 8, 8, 8, 8, 8, 8, 8, 8, 8, 8, 8, 8, 8, 8, 8, 8, 8, 8, 8, 8, 8, 8, 8, 8, 8, 8, 8, 8, 8, 8, 8, 8, 8, 8, 8, 8, 8, 8, 8, 8, 8, 8, 8, 8, 8, 8, 8, 8, 8, 8, 8, 8, 8, 8, 8, 8, 8, 8, 8, 8, 8, 8, 8, 8])) (.t 21)), xS 23 (.conv (.i .i64) (.t 22)), xS 24 (.bin .add .int (.t 19) (.t 23)), xT 2 24] [2]) .ret)))))
def c_math_bits_Len64 : AFunc := ⟨k_math_bits_Len64, 25, [.t 2], [], [], []⟩
def k_math_bits_Len : ACode := (.seq (.reg [xS 2 (.mv (xI 0) false)] [0]) (.seq (.cond (.c (.bool false))
 (.seq (.reg [xT 3 0, xS 4 (.conv (.i .u32) (.t 3)), xS 5 (.callp f_math_bits_Len32 [(.t 4)] []), xT 2 5] [2]) .ret)
 .skip) (.seq (.reg [xT 6 0, xS 7 (.callp f_math_bits_Len64 [(.t 6)] []), xT 2 7] [2]) .ret)))
def c_math_bits_Len : AFunc := ⟨k_math_bits_Len, 8, [.t 2], [], [], []⟩
def bl_slices_insertionSortCmpFunc_api_Copies_0 : ACode := (.seq (.seq (.regd [xF 18 9, xF 19 1, xS 20 (.bin .gtr .int (.t 18) (.t 19)), xF 21 20, xG 22 21 true (.mv (.t 3) false), xG 23 21 true (.mv (.t 0) false), xG 24 21 true (.mv (.t 9) false), xG 25 21 true (.ia (.sl 3) (.t 23) (.t 24)), xG 26 21 true (.load 3 (.t 25)), xG 27 21 true (.mv (.t 0) false), xG 28 21 true (.mv (.t 9) false), xG 29 21 true (.bin .sub .int (.t 28) (xI 1)), xG 30 21 true (.ia (.sl 3) (.t 27) (.t 29)), xG 31 21 true (.load 3 (.t 30)), xG 32 21 true (.callv (.t 22) [(.t 26), (.t 31)]), xG 33 21 true (.bin .lss .int (.t 32) (xI 0)), xS 34 (.pick (.t 21) (.t 33) (.c (.bool false)))] [0, 1, 2, 3, 8, 9, 34] ([], []) []) (.cond (.t 34)
 .skip
 (.exit 2))) (.seq (.block 3 (.regd [xF 37 0, xF 38 9, xF 39 0, xF 40 9, xS 41 (.bin .sub .int (.t 40) (xI 1)), xF 42 0, xF 43 9, xS 44 (.bin .sub .int (.t 43) (xI 1)), xS 45 (.ia (.sl 3) (.t 42) (.t 44)), xS 46 (.load 3 (.t 45)), xF 47 0, xF 48 9, xS 49 (.ia (.sl 3) (.t 47) (.t 48)), xS 50 (.load 3 (.t 49)), xS 51 (.ia (.sl 3) (.t 37) (.t 38)), ⟨none, .store 3 (.t 51) (.t 46), none⟩, xS 52 (.ia (.sl 3) (.t 39) (.t 41)), ⟨none, .store 3 (.t 52) (.t 50), none⟩] [0, 1, 2, 3, 8, 9] ([], []) [])) (.reg [xT 35 9, xS 36 (.bin .sub .int (.t 35) (xI 1)), xT 9 36] [0, 1, 2, 3, 8, 9])))
def l_slices_insertionSortCmpFunc_api_Copies_0 : ACode := .loop [0, 1, 2, 3, 8, 9] [] bl_slices_insertionSortCmpFunc_api_Copies_0
theorem L_slices_insertionSortCmpFunc_api_Copies_0 {T : Table} (ks : List Kt) (e : Env) (h : Heap) (Q : Ex → Env → Heap → Prop) : Xc T l_slices_insertionSortCmpFunc_api_Copies_0 ks e h Q = Xc T bl_slices_insertionSortCmpFunc_api_Copies_0 (.seq l_slices_insertionSortCmpFunc_api_Copies_0 :: ks) (e.keep [0, 1, 2, 3, 8, 9]) h Q := Xc_loop ks _ e h Q _ _
def bl_slices_insertionSortCmpFunc_api_Copies_1 : ACode := (.seq (.seq (.reg [xF 12 8, xF 13 2, xS 14 (.bin .lss .int (.t 12) (.t 13))] [0, 1, 2, 3, 8, 14]) (.cond (.t 14)
 .skip
 (.exit 0))) (.seq (.block 1 (.seq (.reg [xF 17 8, xT 9 17] [0, 1, 2, 3, 8, 9]) (.block 2 l_slices_insertionSortCmpFunc_api_Copies_0))) (.reg [xT 15 8, xS 16 (.bin .add .int (.t 15) (xI 1)), xT 8 16] [0, 1, 2, 3, 8])))
def l_slices_insertionSortCmpFunc_api_Copies_1 : ACode := .loop [0, 1, 2, 3, 8] [] bl_slices_insertionSortCmpFunc_api_Copies_1
theorem L_slices_insertionSortCmpFunc_api_Copies_1 {T : Table} (ks : List Kt) (e : Env) (h : Heap) (Q : Ex → Env → Heap → Prop) : Xc T l_slices_insertionSortCmpFunc_api_Copies_1 ks e h Q = Xc T bl_slices_insertionSortCmpFunc_api_Copies_1 (.seq l_slices_insertionSortCmpFunc_api_Copies_1 :: ks) (e.keep [0, 1, 2, 3, 8]) h Q := Xc_loop ks _ e h Q _ _
def k_slices_insertionSortCmpFunc_api_Copies : ACode := (.seq (.reg [xF 10 1, xS 11 (.bin .add .int (.t 10) (xI 1)), xT 8 11] [0, 1, 2, 3, 8]) (.block 0 l_slices_insertionSortCmpFunc_api_Copies_1))
def c_slices_insertionSortCmpFunc_api_Copies : AFunc := ⟨k_slices_insertionSortCmpFunc_api_Copies, 53, [], [], [], []⟩
def bl_slices_pdqsortCmpFunc_api_Copies_0 : ACode := (.block 1 (.seq (.reg [xF 21 2, xF 22 1, xS 23 (.bin .sub .int (.t 21) (.t 22)), xT 12 23] [0, 1, 2, 3, 4, 10, 11, 12]) (.seq (.seq (.reg [xF 24 12, xS 25 (.bin .leq .int (.t 24) (xI 12))] [0, 1, 2, 3, 4, 10, 11, 12, 25]) (.cond (.t 25)
 (.seq (.reg [xT 26 0, xT 27 1, xT 28 2, xT 29 4, xS 30 (.callh f_slices_insertionSortCmpFunc_api_Copies [(.t 26), (.t 27), (.t 28), (.t 29)])] []) .ret)
 .skip)) (.seq (.seq (.reg [xF 31 3, xS 32 (.bin .eql .int (.t 31) (xI 0))] [0, 1, 2, 3, 4, 10, 11, 12, 32]) (.cond (.t 32)
 (.seq (.reg [xT 33 0, xT 34 1, xT 35 2, xT 36 4, xS 37 (.bad)] []) .ret)
 .skip)) (.seq (.seq (.reg [xF 38 10, xS 39 (.un .not (.t 38))] [0, 1, 2, 3, 4, 10, 11, 12, 39]) (.cond (.t 39)
 (.seq (.reg [xF 40 0, xF 41 1, xF 42 2, xF 43 4, xS 44 (.bad)] [0, 1, 2, 3, 4, 10, 11, 12]) (.reg [xT 45 3, xS 46 (.bin .sub .int (.t 45) (xI 1)), xT 3 46] [0, 1, 2, 3, 4, 10, 11, 12]))
 .skip)) (.seq (.reg [xF 48 0, xF 49 1, xF 50 2, xF 51 4, xS 52 (.bad), xT 47 52, xE 53 47 0, xE 54 47 1, xT 13 53, xT 14 54] [0, 1, 2, 3, 4, 10, 11, 12, 13, 14]) (.seq (.seq (.reg [xF 55 14, xS 56 (.bin .eql .int (.t 55) (xI 2))] [0, 1, 2, 3, 4, 10, 11, 12, 13, 14, 56]) (.cond (.t 56)
 (.seq (.reg [xF 57 0, xF 58 1, xF 59 2, xF 60 4, xS 61 (.bad)] [0, 1, 2, 3, 4, 10, 11, 12, 13]) (.seq (.reg [xF 62 2, xS 63 (.bin .sub .int (.t 62) (xI 1)), xT 64 13, xF 65 1, xS 66 (.bin .sub .int (.t 64) (.t 65)), xS 67 (.bin .sub .int (.t 63) (.t 66)), xT 13 67] [0, 1, 2, 3, 4, 10, 11, 12, 13]) (.reg [xS 14 (.mv (xI 1) false)] [0, 1, 2, 3, 4, 10, 11, 12, 13, 14])))
 .skip)) (.seq (.seq (.reg [xF 68 10, xT 69 68, xG 70 69 true (.mv (.t 11) false), xS 71 (.pick (.t 69) (.t 70) (.c (.bool false))), xT 72 71, xG 73 72 true (.mv (.t 14) true), xG 74 72 true (.bin .eql .int (.t 73) (xI 1)), xS 75 (.pick (.t 72) (.t 74) (.c (.bool false)))] [0, 1, 2, 3, 4, 10, 11, 12, 13, 75]) (.cond (.t 75)
 (.seq (.reg [xF 76 0, xF 77 1, xF 78 2, xF 79 4, xS 80 (.bad)] [0, 1, 2, 3, 4, 10, 11, 12, 13, 80]) (.cond (.t 80)
 .ret
 .skip))
 .skip)) (.seq (.seq (.regd [xF 81 1, xS 82 (.bin .gtr .int (.t 81) (xI 0)), xF 83 82, xG 84 83 true (.mv (.t 4) false), xG 85 83 true (.mv (.t 0) false), xG 86 83 true (.mv (.t 1) false), xG 87 83 true (.bin .sub .int (.t 86) (xI 1)), xG 88 83 true (.ia (.sl 3) (.t 85) (.t 87)), xG 89 83 true (.load 3 (.t 88)), xG 90 83 true (.mv (.t 0) false), xG 91 83 true (.mv (.t 13) false), xG 92 83 true (.ia (.sl 3) (.t 90) (.t 91)), xG 93 83 true (.load 3 (.t 92)), xG 94 83 true (.callv (.t 84) [(.t 89), (.t 93)]), xG 95 83 true (.bin .lss .int (.t 94) (xI 0)), xG 96 83 true (.un .not (.t 95)), xS 97 (.pick (.t 83) (.t 96) (.c (.bool false)))] [0, 1, 2, 3, 4, 10, 11, 12, 13, 97] ([], []) []) (.cond (.t 97)
 (.seq (.reg [xF 98 0, xT 99 1, xF 100 2, xT 101 13, xF 102 4, xS 103 (.bad), xT 15 103] [0, 2, 3, 4, 10, 11, 15]) (.seq (.reg [xT 104 15, xT 1 104] [0, 1, 2, 3, 4, 10, 11]) (.exit 1)))
 .skip)) (.seq (.reg [xF 106 0, xF 107 1, xF 108 2, xT 109 13, xF 110 4, xS 111 (.bad), xT 105 111, xE 112 105 0, xE 113 105 1, xT 16 112, xT 17 113] [0, 1, 2, 3, 4, 12, 16, 17]) (.seq (.reg [xT 114 17, xT 11 114] [0, 1, 2, 3, 4, 11, 12, 16]) (.seq (.reg [xF 115 16, xF 116 1, xS 117 (.bin .sub .int (.t 115) (.t 116)), xF 118 2, xF 119 16, xS 120 (.bin .sub .int (.t 118) (.t 119)), xT 18 117, xT 19 120] [0, 1, 2, 3, 4, 11, 12, 16, 18, 19]) (.seq (.reg [xT 121 12, xS 122 (.bin .quo .int (.t 121) (xI 8)), xT 20 122] [0, 1, 2, 3, 4, 11, 16, 18, 19, 20]) (.seq (.reg [xF 123 18, xF 124 19, xS 125 (.bin .lss .int (.t 123) (.t 124))] [0, 1, 2, 3, 4, 11, 16, 18, 19, 20, 125]) (.cond (.t 125)
 (.seq (.reg [xT 126 18, xT 127 20, xS 128 (.bin .geq .int (.t 126) (.t 127)), xT 10 128] [0, 1, 2, 3, 4, 10, 11, 16]) (.seq (.reg [xF 129 0, xT 130 1, xF 131 16, xF 132 3, xF 133 4, xS 134 (.callh f_slices_pdqsortCmpFunc_api_Copies [(.t 129), (.t 130), (.t 131), (.t 132), (.t 133)])] [0, 2, 3, 4, 10, 11, 16]) (.reg [xT 135 16, xS 136 (.bin .add .int (.t 135) (xI 1)), xT 1 136] [0, 1, 2, 3, 4, 10, 11])))
 (.seq (.reg [xT 137 19, xT 138 20, xS 139 (.bin .geq .int (.t 137) (.t 138)), xT 10 139] [0, 1, 2, 3, 4, 10, 11, 16]) (.seq (.reg [xF 140 0, xF 141 16, xS 142 (.bin .add .int (.t 141) (xI 1)), xT 143 2, xF 144 3, xF 145 4, xS 146 (.callh f_slices_pdqsortCmpFunc_api_Copies [(.t 140), (.t 142), (.t 143), (.t 144), (.t 145)])] [0, 1, 3, 4, 10, 11, 16]) (.reg [xT 147 16, xT 2 147] [0, 1, 2, 3, 4, 10, 11]))))))))))))))))))
def l_slices_pdqsortCmpFunc_api_Copies_0 : ACode := .loop [0, 1, 2, 3, 4, 10, 11] [] bl_slices_pdqsortCmpFunc_api_Copies_0
theorem L_slices_pdqsortCmpFunc_api_Copies_0 {T : Table} (ks : List Kt) (e : Env) (h : Heap) (Q : Ex → Env → Heap → Prop) : Xc T l_slices_pdqsortCmpFunc_api_Copies_0 ks e h Q = Xc T bl_slices_pdqsortCmpFunc_api_Copies_0 (.seq l_slices_pdqsortCmpFunc_api_Copies_0 :: ks) (e.keep [0, 1, 2, 3, 4, 10, 11]) h Q := Xc_loop ks _ e h Q _ _
def k_slices_pdqsortCmpFunc_api_Copies : ACode := (.seq (.reg [xS 10 (.mv (.c (.bool true)) false)] [0, 1, 2, 3, 4, 10]) (.seq (.reg [xS 11 (.mv (.c (.bool true)) false)] [0, 1, 2, 3, 4, 10, 11]) (.block 0 l_slices_pdqsortCmpFunc_api_Copies_0)))
def c_slices_pdqsortCmpFunc_api_Copies : AFunc := ⟨k_slices_pdqsortCmpFunc_api_Copies, 148, [], [], [], []⟩
def k_slices_SortFunc_api_Copies_api_Copies : ACode := (.seq (.reg [xF 5 0, xS 6 (.len false (.t 5)), xT 4 6] [0, 1, 4]) (.reg [xT 7 0, xF 8 4, xT 9 4, xS 10 (.conv (.i .u64) (.t 9)), xS 11 (.callp f_math_bits_Len [(.t 10)] []), xT 12 1, xS 13 (.callh f_slices_pdqsortCmpFunc_api_Copies [(.t 7), (xI 0), (.t 8), (.t 11), (.t 12)])] []))
def c_slices_SortFunc_api_Copies_api_Copies : AFunc := ⟨k_slices_SortFunc_api_Copies_api_Copies, 14, [], [], [], []⟩
def bl_latest_Versions_0 : ACode := (.seq (.reg [xS 23 (.bin .lss .int (.t 22) (.t 21))] [5, 6, 20, 21, 22, 23]) (.seq (.cond (.t 23)
 .skip
 (.exit 0)) (.seq (.block 1 (.seq (.reg [xS 24 (.ia (.sl 9) (.t 20) (.t 22)), xS 25 (.load 9 (.t 24)), xS 8 (.alloc [(.int .i64 0), (.int .i64 0), (.int .i64 0), (.int .i64 0), (.int .i64 0), (.int .u64 0), (.int .u64 0), (.int .i64 0), (.int .i64 0)]), ⟨none, .store 9 (.t 8) (.t 25), none⟩] [5, 6, 8, 20, 21, 22]) (.seq (.seq (.reg [xF 26 5, xS 27 (.fa 2 (.t 8)), xS 28 (.fa 3 (.t 27)), xS 29 (.load 0 (.t 28)), xS 30 (.callv (.t 26) [(.t 29)])] [5, 6, 8, 20, 21, 22, 30]) (.cond (.t 30)
 (.exit 1)
 .skip)) (.seq (.reg [xF 31 6, xS 32 (.fa 2 (.t 8)), xS 33 (.fa 5 (.t 32)), xS 34 (.load 0 (.t 33)), xS 35 (.look .int (.t 31) (.t 34) (.ps 9 []) false), xT 9 35] [5, 6, 8, 9, 20, 21, 22]) (.block 2 (.seq (.regd [xF 37 9, xS 38 (.len false (.t 37)), xS 39 (.bin .eql .int (.t 38) (xI 0)), xF 40 39, xG 41 40 false (.fa 2 (.t 8)), xG 42 40 false (.fa 3 (.t 41)), xG 43 40 false (.load 0 (.t 42)), xG 44 40 false (.mv (.t 9) false), xG 45 40 false (.ia (.sl 9) (.t 44) (xI 0)), xG 46 40 false (.fa 2 (.t 45)), xG 47 40 false (.fa 3 (.t 46)), xG 48 40 false (.load 0 (.t 47)), xG 49 40 false (.bin .gtr .int (.t 43) (.t 48)), xS 50 (.pick (.t 40) (.c (.bool true)) (.t 49)), xT 36 50] [5, 6, 8, 9, 20, 21, 22, 36] ([], []) []) (.cond (.t 36)
 (.reg [xF 51 6, xS 52 (.fa 2 (.t 8)), xS 53 (.fa 5 (.t 52)), xS 54 (.load 0 (.t 53)), xS 55 (.load 9 (.t 8)), xS 56 (.bsl 9 [(.t 55)] false), ⟨none, .mset .int (.t 51) (.t 54) (.t 56), none⟩] [5, 6, 20, 21, 22])
 (.seq (.regd [xS 58 (.fa 2 (.t 8)), xS 59 (.fa 3 (.t 58)), xS 60 (.load 0 (.t 59)), xF 61 9, xS 62 (.ia (.sl 9) (.t 61) (xI 0)), xS 63 (.fa 2 (.t 62)), xS 64 (.fa 3 (.t 63)), xS 65 (.load 0 (.t 64)), xS 66 (.bin .eql .int (.t 60) (.t 65)), xT 57 66] [5, 6, 8, 9, 20, 21, 22, 57] ([], []) []) (.cond (.t 57)
 .gap
 .skip))))))))) (.reg [xS 75 (.bin .add .int (.t 22) (xI 1)), xT 22 75] [5, 6, 20, 21, 22]))))
def l_latest_Versions_0 : ACode := .loop [5, 6, 20, 21, 22] [] bl_latest_Versions_0
theorem L_latest_Versions_0 {T : Table} (ks : List Kt) (e : Env) (h : Heap) (Q : Ex → Env → Heap → Prop) : Xc T l_latest_Versions_0 ks e h Q = Xc T bl_latest_Versions_0 (.seq l_latest_Versions_0 :: ks) (e.keep [5, 6, 20, 21, 22]) h Q := Xc_loop ks _ e h Q _ _
def bl_latest_Versions_1 : ACode := (.seq (.reg [xS 95 (.bin .lss .int (.t 94) (.t 93))] [10, 13, 77, 92, 93, 94, 95]) (.seq (.cond (.t 95)
 .skip
 (.exit 5)) (.seq (.block 6 (.seq (.reg [xS 96 (.ia (.sl 9) (.t 92) (.t 94)), xS 97 (.load 9 (.t 96)), xS 15 (.alloc [(.int .i64 0), (.int .i64 0), (.int .i64 0), (.int .i64 0), (.int .i64 0), (.int .u64 0), (.int .u64 0), (.int .i64 0), (.int .i64 0)]), ⟨none, .store 9 (.t 15) (.t 97), none⟩] [10, 13, 15, 77, 92, 93, 94]) (.reg [xS 98 (.fa 2 (.t 13)), xS 99 (.load 0 (.t 98)), xS 100 (.fa 0 (.t 15)), xS 101 (.load 2 (.t 100)), xS 102 (.bsl 2 [(.t 101)] false), xS 103 (.apph 2 16 (.t 99) (.t 102)), xS 104 (.fa 2 (.t 13)), ⟨none, .store 1 (.t 104) (.t 103), none⟩] [10, 13, 77, 92, 93, 94]))) (.reg [xS 105 (.bin .add .int (.t 94) (xI 1)), xT 94 105] [10, 13, 77, 92, 93, 94]))))
def l_latest_Versions_1 : ACode := .loop [10, 13, 77, 92, 93, 94] [] bl_latest_Versions_1
theorem L_latest_Versions_1 {T : Table} (ks : List Kt) (e : Env) (h : Heap) (Q : Ex → Env → Heap → Prop) : Xc T l_latest_Versions_1 ks e h Q = Xc T bl_latest_Versions_1 (.seq l_latest_Versions_1 :: ks) (e.keep [10, 13, 77, 92, 93, 94]) h Q := Xc_loop ks _ e h Q _ _
def bl_latest_Versions_2 : ACode := (.seq (.reg [xS 78 (.nxt false (.t 77)), xE 79 78 0] [10, 77, 79]) (.seq (.cond (.t 79)
 .skip
 (.exit 3)) (.block 4 (.seq (.reg [xS 80 (.bad), xE 81 80 0, xE 82 80 1, xT 11 81, xT 12 82] [10, 11, 12, 77]) (.seq (.reg [xF 83 12, xS 84 (.bad)] [10, 11, 12, 77]) (.seq (.reg [xT 85 11, xF 86 12, xS 87 (.ia (.sl 9) (.t 86) (xI 0)), xS 88 (.fa 2 (.t 87)), xS 89 (.fa 0 (.t 88)), xS 90 (.load 0 (.t 89)), xS 91 (.build [(.int .i64 0), (.int .i64 0), (.hn 2)] [(0, 1, (.t 85)), (1, 1, (.t 90))]), xS 13 (.alloc [(.int .i64 0), (.int .i64 0), (.hn 2)]), ⟨none, .store 3 (.t 13) (.t 91), none⟩] [10, 12, 13, 77]) (.seq (.seq (.reg [xT 92 12, xS 93 (.len false (.t 92)), xS 94 (.mv (xI 0) false)] [10, 13, 77, 92, 93, 94]) (.block 5 l_latest_Versions_1)) (.reg [xT 106 10, xS 107 (.ldz 3 (.t 13) true), xS 108 (.bsl 3 [(.t 107)] false), xS 109 (.apph 3 40 (.t 106) (.t 108)), xT 10 109] [10, 77]))))))))
def l_latest_Versions_2 : ACode := .loop [10, 77] [] bl_latest_Versions_2
theorem L_latest_Versions_2 {T : Table} (ks : List Kt) (e : Env) (h : Heap) (Q : Ex → Env → Heap → Prop) : Xc T l_latest_Versions_2 ks e h Q = Xc T bl_latest_Versions_2 (.seq l_latest_Versions_2 :: ks) (e.keep [10, 77]) h Q := Xc_loop ks _ e h Q _ _
def k_latest_Versions : ACode := (.seq (.reg [xS 4 (.mv (.c (.hn 3)) false)] [0, 1]) (.seq (.reg [xF 16 0, xT 17 1, xS 18 (.callh f_latest_nothing [(.t 16), (.t 17)]), xT 5 18] [0, 5]) (.seq (.reg [xS 19 (.mkm), xT 6 19] [0, 5, 6]) (.seq (.seq (.reg [xT 20 0, xS 21 (.len false (.t 20)), xS 22 (.mv (xI 0) false)] [5, 6, 20, 21, 22]) (.block 0 l_latest_Versions_0)) (.seq (.reg [xS 10 (.mv (.c (.hn 3)) false)] [6, 10]) (.seq (.seq (.reg [xT 76 6, xS 77 (.rng false (.t 76))] [10, 77]) (.block 3 l_latest_Versions_2)) (.seq (.reg [xF 110 10, xS 111 (.callh f_slices_SortFunc_api_Copies_api_Copies [(.t 110), (.c (.fn f_latest_Versions_1 []))])] [10]) (.seq (.reg [xT 112 10, xT 4 112] [4]) .ret))))))))
def c_latest_Versions : AFunc := ⟨k_latest_Versions, 113, [.t 4], [], [], [(0, true)]⟩
def k_nand_Device_Wear : ACode := (.seq (.reg [xS 4 (.mv (xI 0) false)] [0, 1]) (.seq (.seq (.reg [xF 5 0, xF 6 1, xS 7 (.callh f_nand_Device_there [(.t 5), (.t 6)]), xS 8 (.un .not (.t 7))] [0, 1, 8]) (.cond (.t 8)
 (.seq (.reg [xS 4 (.mv (xI 0) false)] [4]) .ret)
 .skip)) (.seq (.reg [xT 9 0, xS 10 (.nilck (.t 9)), xS 11 (.fa 6 (.t 10)), xS 12 (.load 0 (.t 11)), xT 13 1, xS 14 (.ia (.sl 1) (.t 12) (.t 13)), xS 15 (.load 0 (.t 14)), xT 4 15] [4]) .ret)))
def c_nand_Device_Wear : AFunc := ⟨k_nand_Device_Wear, 16, [.t 4], [], [], []⟩
def k_census_see : ACode := (.seq (.reg [xF 7 1, xS 8 (.callp f_page_Class [(.t 7)] [(0, false)])] [0, 1, 8]) (.block 0 (.seq (.reg [xS 17 (.bin .eql .int (.t 8) (xI 0)), xT 16 17] [0, 1, 8, 16]) (.cond (.t 16)
 (.reg [xT 18 0, xS 19 (.nilck (.t 18)), xS 20 (.fa 0 (.t 19)), xS 21 (.load 0 (.t 20)), xS 22 (.bin .add .int (.t 21) (xI 1)), xS 23 (.nilck (.t 18)), xS 24 (.fa 0 (.t 23)), ⟨none, .store 1 (.t 24) (.t 22), none⟩] [])
 (.seq (.reg [xS 26 (.bin .eql .int (.t 8) (xI 1)), xT 25 26] [0, 1, 25]) (.cond (.t 25)
 (.seq (.reg [xT 28 1, xS 29 (.callp f_page_Get [(.t 28)] []), xT 27 29, xE 30 27 0, xE 31 27 1, xE 32 27 2, xS 4 (.alloc [(.int .i64 0), (.int .i64 0), (.int .i64 0), (.int .u64 0), (.int .u64 0), (.int .i64 0), (.int .i64 0)]), ⟨none, .store 7 (.t 4) (.t 30), none⟩, xT 5 31, xT 6 32] [0, 4]) (.seq (.reg [xF 33 0, xS 34 (.nilck (.t 33)), xS 35 (.fa 1 (.t 34)), xS 36 (.load 0 (.t 35)), xS 37 (.bin .add .int (.t 36) (xI 1)), xS 38 (.nilck (.t 33)), xS 39 (.fa 1 (.t 38)), ⟨none, .store 1 (.t 39) (.t 37), none⟩] [0, 4]) (.regd [xF 40 0, xS 41 (.fa 0 (.t 4)), xS 42 (.load 0 (.t 41)), xS 43 (.nilck (.t 40)), xS 44 (.fa 3 (.t 43)), xS 45 (.ia (.arr 6 1) (.t 44) (.t 42)), xS 46 (.load 0 (.t 45)), xS 47 (.bin .add .int (.t 46) (xI 1)), xS 48 (.nilck (.t 40)), xS 49 (.fa 3 (.t 48)), xS 50 (.ia (.arr 6 1) (.t 49) (.t 42)), ⟨none, .store 1 (.t 50) (.t 47), none⟩] [] ([], []) [])))
 (.reg [xT 9 0, xS 10 (.nilck (.t 9)), xS 11 (.fa 2 (.t 10)), xS 12 (.load 0 (.t 11)), xS 13 (.bin .add .int (.t 12) (xI 1)), xS 14 (.nilck (.t 9)), xS 15 (.fa 2 (.t 14)), ⟨none, .store 1 (.t 15) (.t 13), none⟩] [])))))))
def c_census_see : AFunc := ⟨k_census_see, 51, [], [], [], []⟩
def bl_census_Of_1_0 : ACode := (.seq (.reg [xS 25 (.bin .lss .int (.t 24) (.t 23))] [0, 1, 2, 23, 24, 25]) (.seq (.cond (.t 25)
 .skip
 (.exit 0)) (.seq (.block 1 (.seq (.reg [xF 26 24, xT 5 26] [0, 1, 2, 5, 23, 24]) (.seq (.reg [xS 28 (.load 0 (.t 2)), xF 29 0, xT 30 5, xS 31 (.build [(.int .i64 0), (.int .i64 0)] [(0, 1, (.t 29)), (1, 1, (.t 30))]), xS 32 (.callh f_nand_Device_Read [(.t 28), (.t 31)]), xT 27 32, xE 33 27 0, xE 34 27 1, xT 6 33, xT 7 34] [0, 1, 2, 6, 23, 24]) (.reg [xT 35 6, xS 36 (.callh f_census_see [(.t 1), (.t 35)])] [0, 1, 2, 23, 24])))) (.reg [xS 37 (.bin .add .int (.t 24) (xI 1)), xT 24 37] [0, 1, 2, 23, 24]))))
def l_census_Of_1_0 : ACode := .loop [0, 1, 2, 23, 24] [] bl_census_Of_1_0
theorem L_census_Of_1_0 {T : Table} (ks : List Kt) (e : Env) (h : Heap) (Q : Ex → Env → Heap → Prop) : Xc T l_census_Of_1_0 ks e h Q = Xc T bl_census_Of_1_0 (.seq l_census_Of_1_0 :: ks) (e.keep [0, 1, 2, 23, 24]) h Q := Xc_loop ks _ e h Q _ _
def k_census_Of_1 : ACode := (.seq (.regd [xS 8 (.fa 10 (.t 1)), xS 9 (.load 0 (.t 8)), xS 10 (.load 0 (.t 2)), xF 11 0, xS 12 (.callh f_nand_Device_Wear [(.t 10), (.t 11)]), xS 13 (.bin .add .int (.t 9) (.t 12)), xS 14 (.fa 10 (.t 1)), ⟨none, .store 1 (.t 14) (.t 13), none⟩] [0, 1, 2, 3] ([], []) [(1, 0, 7)]) (.seq (.regd [xS 15 (.fa 11 (.t 1)), xS 16 (.load 0 (.t 15)), xS 17 (.load 0 (.t 2)), xF 18 0, xS 19 (.callh f_nand_Device_Wear [(.t 17), (.t 18)]), xS 20 (.mx true [(.t 16), (.t 19)]), xS 21 (.fa 11 (.t 1)), ⟨none, .store 1 (.t 21) (.t 20), none⟩] [0, 1, 2, 3] ([], []) [(1, 0, 7)]) (.seq (.reg [xS 22 (.fa 1 (.t 3)), xS 23 (.load 0 (.t 22)), xS 24 (.mv (xI 0) false)] [0, 1, 2, 23, 24]) (.block 0 l_census_Of_1_0))))
def c_census_Of_1 : AFunc := ⟨k_census_Of_1, 38, [], [], [], []⟩
def bl_census_Of_0 : ACode := (.seq (.reg [xS 31 (.bin .lss .int (.t 30) (.t 29))] [2, 6, 8, 29, 30, 31]) (.seq (.cond (.t 31)
 .skip
 (.exit 0)) (.seq (.block 1 (.seq (.reg [xF 32 30, xT 9 32] [2, 6, 8, 9, 29, 30]) (.reg [xF 33 8, xT 34 9, xS 35 (.callv (.t 33) [(.t 34)])] [2, 6, 8, 29, 30]))) (.reg [xS 36 (.bin .add .int (.t 30) (xI 1)), xT 30 36] [2, 6, 8, 29, 30]))))
def l_census_Of_0 : ACode := .loop [2, 6, 8, 29, 30] [] bl_census_Of_0
theorem L_census_Of_0 {T : Table} (ks : List Kt) (e : Env) (h : Heap) (Q : Ex → Env → Heap → Prop) : Xc T l_census_Of_0 ks e h Q = Xc T bl_census_Of_0 (.seq l_census_Of_0 :: ks) (e.keep [2, 6, 8, 29, 30]) h Q := Xc_loop ks _ e h Q _ _
def k_census_Of : ACode := (.seq (.reg [xS 1 (.box (.t 0)), xS 2 (.alloc [(.int .i64 0), (.int .i64 0), (.int .i64 0), (.int .i64 0), (.int .i64 0), (.int .i64 0), (.int .i64 0), (.int .i64 0), (.int .i64 0), (.int .i64 0), (.int .i64 0), (.int .i64 0)]), xS 3 (.mv (xI 0) false)] [1, 2]) (.seq (.reg [xS 11 (.load 0 (.t 1)), xS 12 (.callh f_scan_All [(.t 11)]), xT 10 12, xE 13 10 0, xE 14 10 1, xT 4 13, xT 5 14] [1, 2, 4, 5]) (.seq (.seq (.reg [xF 15 5, xS 16 (.bin .neq .int (.t 15) (xI 0))] [1, 2, 4, 5, 16]) (.cond (.t 16)
 (.seq (.reg [xS 17 (.build [(.int .i64 0), (.int .i64 0), (.int .i64 0), (.int .i64 0), (.int .i64 0), (.int .i64 0), (.int .i64 0), (.int .i64 0), (.int .i64 0), (.int .i64 0), (.int .i64 0), (.int .i64 0)] []), xT 18 5, ⟨none, .store 12 (.t 2) (.t 17), none⟩, xT 3 18] [2, 3]) .ret)
 .skip)) (.seq (.reg [xT 19 4, xS 20 (.load 0 (.t 1)), xS 21 (.callh f_census_void [(.t 20)]), xS 22 (.callp f_latest_Versions [(.t 19), (.t 21)] []), xS 23 (.len false (.t 22)), xS 24 (.build [(.int .i64 0), (.int .i64 0), (.int .i64 0), (.int .i64 0), (.int .i64 0), (.int .i64 0), (.int .i64 0), (.int .i64 0), (.int .i64 0), (.int .i64 0), (.int .i64 0), (.int .i64 0)] [(9, 1, (.t 23))]), xS 6 (.alloc [(.int .i64 0), (.int .i64 0), (.int .i64 0), (.int .i64 0), (.int .i64 0), (.int .i64 0), (.int .i64 0), (.int .i64 0), (.int .i64 0), (.int .i64 0), (.int .i64 0), (.int .i64 0)]), ⟨none, .store 12 (.t 6) (.t 24), none⟩] [1, 2, 6]) (.seq (.reg [xS 25 (.load 0 (.t 1)), xS 26 (.callh f_nand_Device_Sides [(.t 25)]), xS 7 (.alloc [(.int .i64 0), (.int .i64 0), (.int .i64 0)]), ⟨none, .store 3 (.t 7) (.t 26), none⟩] [1, 2, 6, 7]) (.seq (.reg [xS 27 (.mkfn f_census_Of_1 [(.t 6), (.t 1), (.t 7)]), xT 8 27] [2, 6, 7, 8]) (.seq (.seq (.reg [xS 28 (.fa 0 (.t 7)), xS 29 (.load 0 (.t 28)), xS 30 (.mv (xI 0) false)] [2, 6, 8, 29, 30]) (.block 0 l_census_Of_0)) (.seq (.reg [xS 37 (.load 12 (.t 6)), ⟨none, .store 12 (.t 2) (.t 37), none⟩, xS 3 (.mv (xI 0) false)] [2, 3]) .ret))))))))
def c_census_Of : AFunc := ⟨k_census_Of, 38, [.c 2 12, .t 3], [], [], []⟩
def bl_scan_some_0 : ACode := (.seq (.seq (.reg [xF 7 6, xF 8 0, xS 9 (.callh f_nand_Device_Sides [(.t 8)]), xS 10 (.fld 0 0 (.t 9)), xS 11 (.bin .lss .int (.t 7) (.t 10))] [0, 1, 5, 6, 11]) (.cond (.t 11)
 .skip
 (.exit 0))) (.seq (.block 1 (.seq (.reg [xF 14 0, xF 15 6, xS 16 (.callh f_nand_Device_Marked [(.t 14), (.t 15)]), xF 17 1, xS 18 (.bin .eql .bool (.t 16) (.t 17))] [0, 1, 5, 6, 18]) (.cond (.t 18)
 (.reg [xT 19 5, xF 20 6, xS 21 (.bsl 1 [(.t 20)] false), xS 22 (.apph 1 8 (.t 19) (.t 21)), xT 5 22] [0, 1, 5, 6])
 .skip))) (.reg [xT 12 6, xS 13 (.bin .add .int (.t 12) (xI 1)), xT 6 13] [0, 1, 5, 6])))
def l_scan_some_0 : ACode := .loop [0, 1, 5, 6] [] bl_scan_some_0
theorem L_scan_some_0 {T : Table} (ks : List Kt) (e : Env) (h : Heap) (Q : Ex → Env → Heap → Prop) : Xc T l_scan_some_0 ks e h Q = Xc T bl_scan_some_0 (.seq l_scan_some_0 :: ks) (e.keep [0, 1, 5, 6]) h Q := Xc_loop ks _ e h Q _ _
def k_scan_some : ACode := (.seq (.reg [xS 4 (.mv (.c (.hn 1)) false)] [0, 1]) (.seq (.reg [xS 5 (.mv (.c (.hn 1)) false)] [0, 1, 5]) (.seq (.seq (.reg [xS 6 (.mv (xI 2) false)] [0, 1, 5, 6]) (.block 0 l_scan_some_0)) (.seq (.reg [xT 23 5, xT 4 23] [4]) .ret))))
def c_scan_some : AFunc := ⟨k_scan_some, 24, [.t 4], [], [], []⟩
def k_scan_Marked : ACode := (.seq (.reg [xS 2 (.mv (.c (.ps 1 [])) false)] [0]) (.seq (.reg [xT 3 0, xS 4 (.callh f_scan_some [(.t 3), (.c (.bool true))]), xT 2 4] [2]) .ret))
def c_scan_Marked : AFunc := ⟨k_scan_Marked, 5, [.t 2], [], [], []⟩
def bl_geom_Bad_0 : ACode := (.seq (.reg [xS 18 (.bin .lss .int (.t 17) (.t 16))] [2, 5, 6, 15, 16, 17, 18]) (.seq (.cond (.t 18)
 .skip
 (.exit 0)) (.seq (.block 1 (.seq (.reg [xS 19 (.ia (.sl 1) (.t 15) (.t 17)), xS 20 (.load 0 (.t 19)), xT 8 20] [2, 5, 6, 8, 15, 16, 17]) (.seq (.reg [xF 21 8, xS 22 (.bin .geq .int (.t 21) (xI 2)), xT 23 22, xG 24 23 true (.mv (.t 8) false), xG 25 23 true (.fa 0 (.t 2)), xG 26 23 true (.load 0 (.t 25)), xG 27 23 true (.bin .lss .int (.t 24) (.t 26)), xS 28 (.pick (.t 23) (.t 27) (.c (.bool false))), xT 29 28, xG 30 29 true (.mv (.t 5) false), xG 31 29 true (.mv (.t 8) false), xG 32 29 true (.ia (.sl 1) (.t 30) (.t 31)), xG 33 29 true (.load 0 (.t 32)), xG 34 29 true (.un .not (.t 33)), xS 35 (.pick (.t 29) (.t 34) (.c (.bool false)))] [2, 5, 6, 8, 15, 16, 17, 35]) (.cond (.t 35)
 (.seq (.reg [xF 36 5, xT 37 8, xS 38 (.ia (.sl 1) (.t 36) (.t 37)), ⟨none, .store 1 (.t 38) (.c (.bool true)), none⟩] [2, 5, 6, 15, 16, 17]) (.reg [xT 39 6, xS 40 (.bin .add .int (.t 39) (xI 1)), xT 6 40] [2, 5, 6, 15, 16, 17]))
 .skip)))) (.reg [xS 41 (.bin .add .int (.t 17) (xI 1)), xT 17 41] [2, 5, 6, 15, 16, 17]))))
def l_geom_Bad_0 : ACode := .loop [2, 5, 6, 15, 16, 17] [(5, 0)] bl_geom_Bad_0
theorem L_geom_Bad_0 {T : Table} (ks : List Kt) (e : Env) (h : Heap) (Q : Ex → Env → Heap → Prop) : Xc T l_geom_Bad_0 ks e h Q = Xc T bl_geom_Bad_0 (.seq l_geom_Bad_0 :: ks) (e.keep [2, 5, 6, 15, 16, 17]) h Q := Xc_loop ks _ e h Q _ _
def k_geom_Bad : ACode := (.seq (.reg [xS 2 (.box (.t 0)), xS 4 (.mv (xI 0) false)] [1, 2]) (.seq (.seq (.reg [xS 9 (.load 3 (.t 2)), xS 10 (.callp f_geom_Check [(.t 9)] []), xS 11 (.bin .neq .int (.t 10) (xI 0))] [1, 2, 11]) (.cond (.t 11)
 (.seq (.reg [xS 4 (.mv (xI 0) false)] [4]) .ret)
 .skip)) (.seq (.reg [xS 12 (.fa 0 (.t 2)), xS 13 (.load 0 (.t 12)), xS 14 (.mksl 1 1 (.bool false) (.t 13) (.t 13) true), xT 5 14] [1, 2, 5]) (.seq (.reg [xS 6 (.mv (xI 0) false)] [1, 2, 5, 6]) (.seq (.seq (.reg [xT 15 1, xS 16 (.len false (.t 15)), xS 17 (.mv (xI 0) false)] [2, 5, 6, 15, 16, 17]) (.block 0 l_geom_Bad_0)) (.seq (.reg [xT 42 6, xT 4 42] [4]) .ret))))))
def c_geom_Bad : AFunc := ⟨k_geom_Bad, 43, [.t 4], [], [], []⟩
def k_geom_Good : ACode := (.seq (.reg [xS 2 (.box (.t 0)), xS 4 (.mv (xI 0) false)] [1, 2]) (.seq (.seq (.reg [xS 5 (.load 3 (.t 2)), xS 6 (.callp f_geom_Check [(.t 5)] []), xS 7 (.bin .neq .int (.t 6) (xI 0))] [1, 2, 7]) (.cond (.t 7)
 (.seq (.reg [xS 4 (.mv (xI 0) false)] [4]) .ret)
 .skip)) (.seq (.regd [xS 8 (.fa 0 (.t 2)), xS 9 (.load 0 (.t 8)), xS 10 (.bin .sub .int (.t 9) (xI 2)), xS 11 (.load 3 (.t 2)), xF 12 1, xS 13 (.callp f_geom_Bad [(.t 11), (.t 12)] [(1, false)]), xS 14 (.bin .sub .int (.t 10) (.t 13)), xT 4 14] [4] ([], []) []) .ret)))
def c_geom_Good : AFunc := ⟨k_geom_Good, 15, [.t 4], [], [], []⟩
def k_geom_Logical : ACode := (.seq (.reg [xS 2 (.box (.t 0)), xS 4 (.mv (xI 0) false)] [1, 2]) (.seq (.seq (.reg [xS 5 (.load 3 (.t 2)), xS 6 (.callp f_geom_Check [(.t 5)] []), xS 7 (.bin .neq .int (.t 6) (xI 0))] [1, 2, 7]) (.cond (.t 7)
 (.seq (.reg [xS 4 (.mv (xI 0) false)] [4]) .ret)
 .skip)) (.seq (.regd [xS 8 (.load 3 (.t 2)), xF 9 1, xS 10 (.callp f_geom_Good [(.t 8), (.t 9)] [(1, false)]), xS 11 (.fa 2 (.t 2)), xS 12 (.load 0 (.t 11)), xS 13 (.bin .sub .int (.t 10) (.t 12)), xS 14 (.bin .sub .int (.t 13) (xI 2)), xS 15 (.fa 1 (.t 2)), xS 16 (.load 0 (.t 15)), xS 17 (.bin .mul .int (.t 14) (.t 16)), xS 18 (.bin .sub .int (.t 17) (xI 16)), xS 19 (.mx true [(.t 18), (xI 0)]), xT 4 19] [4] ([], []) []) .ret)))
def c_geom_Logical : AFunc := ⟨k_geom_Logical, 20, [.t 4], [], [], []⟩
def k_ftl_Mount_1 : ACode := (.seq (.reg [xS 2 (.mv (xI 0) false)] [0, 1]) (.seq (.reg [xS 3 (.mv (xI 0) false)] [0, 1]) (.seq (.regd [xS 5 (.load 0 (.t 1)), xS 6 (.load 0 (.t 0)), xS 7 (.bad), xF 4 7, xE 8 4 0, xE 9 4 1, xS 10 (.nilck (.t 5)), xS 11 (.fa 4 (.t 10)), ⟨none, .store 4 (.t 11) (.t 8), none⟩, xT 3 9] [3] ([], []) []) (.seq (.reg [xT 12 3, xT 2 12] [2]) .ret))))
def c_ftl_Mount_1 : AFunc := ⟨k_ftl_Mount_1, 13, [.t 2], [], [], []⟩
def k_cmp_isNaN_int : ACode := (.seq (.reg [xS 2 (.mv (.c (.bool false)) false)] [0]) (.seq (.reg [xF 3 0, xT 4 0, xS 5 (.bin .neq .int (.t 3) (.t 4)), xT 2 5] [2]) .ret))
def c_cmp_isNaN_int : AFunc := ⟨k_cmp_isNaN_int, 6, [.t 2], [], [], []⟩
def k_cmp_Compare_int : ACode := (.seq (.reg [xS 4 (.mv (xI 0) false)] [0, 1]) (.seq (.reg [xF 7 0, xS 8 (.callp f_cmp_isNaN_int [(.t 7)] []), xT 5 8] [0, 1, 5]) (.seq (.reg [xF 9 1, xS 10 (.callp f_cmp_isNaN_int [(.t 9)] []), xT 6 10] [0, 1, 5, 6]) (.seq (.seq (.reg [xT 11 5] [0, 1, 6, 11]) (.cond (.t 11)
 (.seq (.seq (.reg [xT 12 6] [12]) (.cond (.t 12)
 (.seq (.reg [xS 4 (.mv (xI 0) false)] [4]) .ret)
 .skip)) (.seq (.reg [xS 4 (.mv (.c (.int .i64 (-1))) false)] [4]) .ret))
 .skip)) (.seq (.seq (.reg [xT 13 6] [0, 1, 13]) (.cond (.t 13)
 (.seq (.reg [xS 4 (.mv (xI 1) false)] [4]) .ret)
 .skip)) (.seq (.seq (.reg [xF 14 0, xF 15 1, xS 16 (.bin .lss .int (.t 14) (.t 15))] [0, 1, 16]) (.cond (.t 16)
 (.seq (.reg [xS 4 (.mv (.c (.int .i64 (-1))) false)] [4]) .ret)
 .skip)) (.seq (.seq (.reg [xT 17 0, xT 18 1, xS 19 (.bin .gtr .int (.t 17) (.t 18))] [19]) (.cond (.t 19)
 (.seq (.reg [xS 4 (.mv (xI 1) false)] [4]) .ret)
 .skip)) (.seq (.reg [xS 4 (.mv (xI 0) false)] [4]) .ret))))))))
def c_cmp_Compare_int : AFunc := ⟨k_cmp_Compare_int, 20, [.t 4], [], [], []⟩
def k_ftl_Mount : ACode := (.seq (.reg [xS 1 (.box (.t 0)), xS 2 (.mv (.c .nilp) false), xS 3 (.mv (xI 0) false)] [1]) (.seq (.seq (.reg [xS 11 (.load 0 (.t 1)), xS 12 (.bin .eql .ptr (.t 11) (.c .nilp))] [1, 12]) (.cond (.t 12)
 (.seq (.reg [xS 2 (.mv (.c .nilp) false), xS 3 (.mv (xI 1) false)] [2, 3]) .ret)
 .skip)) (.seq (.reg [xS 13 (.load 0 (.t 1)), xS 14 (.callh f_nand_Device_Sides [(.t 13)]), xS 4 (.alloc [(.int .i64 0), (.int .i64 0), (.int .i64 0)]), ⟨none, .store 3 (.t 4) (.t 14), none⟩] [1, 4]) (.seq (.regd [xS 15 (.load 3 (.t 4)), xS 16 (.load 0 (.t 1)), xS 17 (.callh f_scan_Marked [(.t 16)]), xS 18 (.callp f_geom_Logical [(.t 15), (.t 17)] [(1, false)]), xT 5 18] [1, 4, 5] ([], []) [(0, 0, 5)]) (.seq (.seq (.reg [xF 19 5, xS 20 (.bin .lss .int (.t 19) (xI 1))] [1, 4, 5, 20]) (.cond (.t 20)
 (.seq (.reg [xS 2 (.mv (.c .nilp) false), xS 3 (.mv (xI 3) false)] [2, 3]) .ret)
 .skip)) (.seq (.reg [xS 21 (.load 0 (.t 1)), xS 22 (.load 3 (.t 4)), xS 23 (.mkm), xT 24 5, xS 25 (.build [.nilp, (.int .i64 0), (.int .i64 0), (.int .i64 0), (.int .u64 0), (.ps 1 []), (.ps 1 []), (.ps 1 []), .nilp, .mpn, (.int .u64 0), (.int .i64 0), (.bool false)] [(0, 1, (.t 21)), (1, 3, (.t 22)), (9, 1, (.t 23)), (11, 1, (.t 24))]), xS 26 (.box (.t 25)), xS 6 (.alloc [.nilp]), ⟨none, .store 1 (.t 6) (.t 26), none⟩] [1, 6]) (.seq (.reg [xS 27 (.load 0 (.t 6)), xS 28 (.mkfn f_ftl_Mount_1 [(.t 1), (.t 6)]), xS 29 (.bad), xT 7 29] [1, 6, 7]) (.seq (.seq (.reg [xF 30 7, xS 31 (.bin .neq .int (.t 30) (xI 0))] [1, 6, 7, 31]) (.cond (.t 31)
 (.seq (.reg [xT 32 7, xS 2 (.mv (.c .nilp) false), xT 3 32] [2, 3]) .ret)
 .skip)) (.seq (.reg [xS 34 (.load 0 (.t 1)), xS 35 (.callh f_scan_All [(.t 34)]), xT 33 35, xE 36 33 0, xE 37 33 1, xT 8 36, xT 7 37] [6, 7, 8]) (.seq (.seq (.reg [xF 38 7, xS 39 (.bin .neq .int (.t 38) (xI 0))] [6, 7, 8, 39]) (.cond (.t 39)
 (.seq (.reg [xT 40 7, xS 2 (.mv (.c .nilp) false), xT 3 40] [2, 3]) .ret)
 .skip)) (.seq (.regd [xS 41 (.load 0 (.t 6)), xF 42 8, xS 43 (.load 0 (.t 6)), xS 44 (.nilck (.t 43)), xS 45 (.fa 4 (.t 44)), xS 46 (.fa 3 (.t 45)), xS 47 (.load 0 (.t 46)), xS 48 (.bad), xS 49 (.nilck (.t 41)), xS 50 (.fa 4 (.t 49)), xS 51 (.fa 3 (.t 50)), ⟨none, .store 1 (.t 51) (.t 48), none⟩] [6, 8] ([], []) []) (.seq (.reg [xS 52 (.load 0 (.t 6)), xT 53 8, xS 54 (.bad)] [6]) (.seq (.seq (.reg [xS 55 (.load 0 (.t 6)), xS 56 (.bad), xT 9 56] [6, 9]) (.seq (.reg [xF 57 9, xS 58 (.bin .neq .int (.t 57) (xI 0))] [6, 9, 58]) (.cond (.t 58)
 (.seq (.reg [xT 59 9, xS 2 (.mv (.c .nilp) false), xT 3 59] [2, 3]) .ret)
 .skip))) (.seq (.seq (.reg [xS 60 (.load 0 (.t 6)), xS 61 (.bad), xT 10 61] [6, 10]) (.seq (.reg [xF 62 10, xS 63 (.bin .eql .int (.t 62) (xI 9))] [6, 10, 63]) (.cond (.t 63)
 (.seq (.reg [xT 64 10, xS 2 (.mv (.c .nilp) false), xT 3 64] [2, 3]) .ret)
 .skip))) (.seq (.reg [xS 65 (.load 0 (.t 6)), xT 2 65, xS 3 (.mv (xI 0) false)] [2, 3]) .ret)))))))))))))))
def c_ftl_Mount : AFunc := ⟨k_ftl_Mount, 66, [.t 2, .t 3], [], [], []⟩
def k_census_Total : ACode := (.seq (.reg [xS 1 (.box (.t 0)), xS 2 (.mv (xI 0) false)] [1]) (.seq (.reg [xS 3 (.fa 0 (.t 1)), xS 4 (.load 0 (.t 3)), xS 5 (.fa 1 (.t 1)), xS 6 (.load 0 (.t 5)), xS 7 (.bin .add .int (.t 4) (.t 6)), xS 8 (.fa 2 (.t 1)), xS 9 (.load 0 (.t 8)), xS 10 (.bin .add .int (.t 7) (.t 9)), xT 2 10] [2]) .ret))
def c_census_Total : AFunc := ⟨k_census_Total, 11, [.t 2], [], [], []⟩
def k_census_Waste : ACode := (.seq (.reg [xS 1 (.box (.t 0)), xS 2 (.mv (xI 0) false)] [1]) (.seq (.reg [xS 3 (.fa 1 (.t 1)), xS 4 (.load 0 (.t 3)), xS 5 (.fa 3 (.t 1)), xS 6 (.ia (.arr 6 1) (.t 5) (xI 1)), xS 7 (.load 0 (.t 6)), xS 8 (.bin .sub .int (.t 4) (.t 7)), xS 9 (.fa 9 (.t 1)), xS 10 (.load 0 (.t 9)), xS 11 (.bin .sub .int (.t 8) (.t 10)), xS 12 (.mx true [(.t 11), (xI 0)]), xT 2 12] [2]) .ret))
def c_census_Waste : AFunc := ⟨k_census_Waste, 13, [.t 2], [], [], []⟩
def k_law42_awake : ACode := (.seq (.reg [xS 0 (.mv (.c (.bool false)) false)] []) (.seq (.reg [xS 8 (.build [(.int .i64 0), (.int .i64 0), (.int .i64 0)] [(0, 1, (xI 8)), (1, 1, (xI 4))]), xS 9 (.callh f_nand_New [(.t 8), (.c (.ps 1 [])), (.c (.ps 3 []))]), xT 7 9, xE 10 7 0, xE 11 7 1, xT 1 10, xT 2 11] [1]) (.seq (.reg [xF 13 1, xS 14 (.callh f_census_Of [(.t 13)]), xT 12 14, xE 15 12 0, xE 16 12 1, xS 3 (.alloc [(.int .i64 0), (.int .i64 0), (.int .i64 0), (.int .i64 0), (.int .i64 0), (.int .i64 0), (.int .i64 0), (.int .i64 0), (.int .i64 0), (.int .i64 0), (.int .i64 0), (.int .i64 0)]), ⟨none, .store 12 (.t 3) (.t 15), none⟩, xT 4 16] [1, 3, 4]) (.seq (.reg [xT 18 1, xS 19 (.callh f_ftl_Mount [(.t 18)]), xT 17 19, xE 20 17 0, xE 21 17 1, xT 5 20, xT 6 21] [3, 4, 5, 6]) (.seq (.reg [xT 22 4, xS 23 (.bin .eql .int (.t 22) (xI 0)), xT 24 23, xG 25 24 true (.load 12 (.t 3)), xG 26 24 true (.build [(.int .i64 0), (.int .i64 0), (.int .i64 0), (.int .i64 0), (.int .i64 0), (.int .i64 0), (.int .i64 0), (.int .i64 0), (.int .i64 0), (.int .i64 0), (.int .i64 0), (.int .i64 0)] [(0, 1, (xI 32))]), xG 27 24 true (.bin .eql (.agg (.cons 0 0 .int (.cons 1 0 .int (.cons 2 0 .int (.cons 3 6 (.agg (.cons 0 0 .int (.cons 1 0 .int (.cons 2 0 .int (.cons 3 0 .int (.cons 4 0 .int (.cons 5 0 .int .nil))))))) (.cons 9 0 .int (.cons 10 0 .int (.cons 11 0 .int .nil)))))))) (.t 25) (.t 26)), xS 28 (.pick (.t 24) (.t 27) (.c (.bool false))), xT 29 28, xG 30 29 true (.load 12 (.t 3)), xG 31 29 true (.callp f_census_Total [(.t 30)] []), xG 32 29 true (.bin .eql .int (.t 31) (xI 32)), xS 33 (.pick (.t 29) (.t 32) (.c (.bool false))), xT 34 33, xG 35 34 true (.mv (.t 5) true), xG 36 34 true (.bin .eql .ptr (.t 35) (.c .nilp)), xS 37 (.pick (.t 34) (.t 36) (.c (.bool false))), xT 38 37, xG 39 38 true (.mv (.t 6) true), xG 40 38 true (.bin .eql .int (.t 39) (xI 3)), xS 41 (.pick (.t 38) (.t 40) (.c (.bool false))), xT 42 41, xG 43 42 true (.build [(.int .i64 0), (.int .i64 0), (.int .i64 0), (.int .i64 0), (.int .i64 0), (.int .i64 0)] [(0, 1, (xI 0)), (1, 1, (xI 1))]), xG 44 42 true (.build [(.int .i64 0), (.int .i64 0), (.int .i64 0), (.int .i64 0), (.int .i64 0), (.int .i64 0), (.int .i64 0), (.int .i64 0), (.int .i64 0), (.int .i64 0), (.int .i64 0), (.int .i64 0)] [(1, 1, (xI 5)), (3, 6, (.t 43)), (9, 1, (xI 2))]), xG 45 42 true (.callp f_census_Waste [(.t 44)] []), xG 46 42 true (.bin .eql .int (.t 45) (xI 2)), xS 47 (.pick (.t 42) (.t 46) (.c (.bool false))), xT 0 47] [0]) .ret)))))
def c_law42_awake : AFunc := ⟨k_law42_awake, 48, [.t 0], [], [], []⟩
def bl_census_Add_0 : ACode := (.seq (.reg [xS 28 (.bin .lss .int (.t 27) (xI 6))] [2, 3, 4, 26, 27, 28]) (.seq (.cond (.t 28)
 .skip
 (.exit 0)) (.seq (.block 1 (.seq (.reg [xF 29 27, xS 30 (.idx (.arr 6 1) 0 (.t 26) (.t 27)), xT 5 29, xT 6 30] [2, 3, 4, 5, 6, 26, 27]) (.reg [xT 31 5, xS 32 (.fa 3 (.t 2)), xS 33 (.ia (.arr 6 1) (.t 32) (.t 31)), xS 34 (.load 0 (.t 33)), xT 35 6, xS 36 (.bin .add .int (.t 34) (.t 35)), xS 37 (.fa 3 (.t 2)), xS 38 (.ia (.arr 6 1) (.t 37) (.t 31)), ⟨none, .store 1 (.t 38) (.t 36), none⟩] [2, 3, 4, 26, 27]))) (.reg [xS 39 (.bin .add .int (.t 27) (xI 1)), xT 27 39] [2, 3, 4, 26, 27]))))
def l_census_Add_0 : ACode := .loop [2, 3, 4, 26, 27] [] bl_census_Add_0
theorem L_census_Add_0 {T : Table} (ks : List Kt) (e : Env) (h : Heap) (Q : Ex → Env → Heap → Prop) : Xc T l_census_Add_0 ks e h Q = Xc T bl_census_Add_0 (.seq l_census_Add_0 :: ks) (e.keep [2, 3, 4, 26, 27]) h Q := Xc_loop ks _ e h Q _ _
def k_census_Add : ACode := (.seq (.reg [xS 2 (.box (.t 0)), xS 3 (.box (.t 1)), xS 4 (.alloc [(.int .i64 0), (.int .i64 0), (.int .i64 0), (.int .i64 0), (.int .i64 0), (.int .i64 0), (.int .i64 0), (.int .i64 0), (.int .i64 0), (.int .i64 0), (.int .i64 0), (.int .i64 0)])] [2, 3, 4]) (.seq (.reg [xS 7 (.fa 0 (.t 2)), xS 8 (.load 0 (.t 7)), xS 9 (.fa 0 (.t 3)), xS 10 (.load 0 (.t 9)), xS 11 (.bin .add .int (.t 8) (.t 10)), xS 12 (.fa 0 (.t 2)), ⟨none, .store 1 (.t 12) (.t 11), none⟩] [2, 3, 4]) (.seq (.reg [xS 13 (.fa 1 (.t 2)), xS 14 (.load 0 (.t 13)), xS 15 (.fa 1 (.t 3)), xS 16 (.load 0 (.t 15)), xS 17 (.bin .add .int (.t 14) (.t 16)), xS 18 (.fa 1 (.t 2)), ⟨none, .store 1 (.t 18) (.t 17), none⟩] [2, 3, 4]) (.seq (.reg [xS 19 (.fa 2 (.t 2)), xS 20 (.load 0 (.t 19)), xS 21 (.fa 2 (.t 3)), xS 22 (.load 0 (.t 21)), xS 23 (.bin .add .int (.t 20) (.t 22)), xS 24 (.fa 2 (.t 2)), ⟨none, .store 1 (.t 24) (.t 23), none⟩] [2, 3, 4]) (.seq (.seq (.reg [xS 25 (.fa 3 (.t 3)), xS 26 (.load 6 (.t 25)), xS 27 (.mv (xI 0) false)] [2, 3, 4, 26, 27]) (.block 0 l_census_Add_0)) (.seq (.reg [xS 40 (.fa 9 (.t 2)), xS 41 (.load 0 (.t 40)), xS 42 (.fa 9 (.t 3)), xS 43 (.load 0 (.t 42)), xS 44 (.bin .add .int (.t 41) (.t 43)), xS 45 (.fa 9 (.t 2)), ⟨none, .store 1 (.t 45) (.t 44), none⟩] [2, 3, 4]) (.seq (.reg [xS 46 (.fa 10 (.t 2)), xS 47 (.load 0 (.t 46)), xS 48 (.fa 10 (.t 3)), xS 49 (.load 0 (.t 48)), xS 50 (.bin .add .int (.t 47) (.t 49)), xS 51 (.fa 10 (.t 2)), ⟨none, .store 1 (.t 51) (.t 50), none⟩] [2, 3, 4]) (.seq (.reg [xS 52 (.fa 11 (.t 2)), xS 53 (.load 0 (.t 52)), xS 54 (.fa 11 (.t 3)), xS 55 (.load 0 (.t 54)), xS 56 (.mx true [(.t 53), (.t 55)]), xS 57 (.fa 11 (.t 2)), ⟨none, .store 1 (.t 57) (.t 56), none⟩] [2, 4]) (.seq (.reg [xS 58 (.load 12 (.t 2)), ⟨none, .store 12 (.t 4) (.t 58), none⟩] [4]) .ret)))))))))
def c_census_Add : AFunc := ⟨k_census_Add, 59, [.c 4 12], [], [], []⟩
def k_ref01_High : ACode := (.seq (.reg [xS 4 (.mv (xI 0) false)] [0, 1]) (.seq (.seq (.reg [xF 5 0, xF 6 1, xS 7 (.bin .gtr .int (.t 5) (.t 6))] [0, 1, 7]) (.cond (.t 7)
 (.seq (.reg [xT 8 0, xT 4 8] [4]) .ret)
 .skip)) (.seq (.reg [xT 9 1, xT 4 9] [4]) .ret)))
def c_ref01_High : AFunc := ⟨k_ref01_High, 10, [.t 4], [], [], []⟩
def k_census_Same : ACode := (.seq (.reg [xS 2 (.box (.t 0)), xS 3 (.box (.t 1)), xS 4 (.mv (.c (.bool false)) false)] [2, 3]) (.seq (.reg [xS 5 (.fa 3 (.t 2)), xS 6 (.load 6 (.t 5)), xS 7 (.fa 3 (.t 3)), xS 8 (.load 6 (.t 7)), xS 9 (.bin .eql (.agg (.cons 0 0 .int (.cons 1 0 .int (.cons 2 0 .int (.cons 3 0 .int (.cons 4 0 .int (.cons 5 0 .int .nil))))))) (.t 6) (.t 8)), xT 10 9, xG 11 10 true (.fa 0 (.t 2)), xG 12 10 true (.load 0 (.t 11)), xG 13 10 true (.fa 0 (.t 3)), xG 14 10 true (.load 0 (.t 13)), xG 15 10 true (.bin .eql .int (.t 12) (.t 14)), xS 16 (.pick (.t 10) (.t 15) (.c (.bool false))), xT 17 16, xG 18 17 true (.fa 1 (.t 2)), xG 19 17 true (.load 0 (.t 18)), xG 20 17 true (.fa 1 (.t 3)), xG 21 17 true (.load 0 (.t 20)), xG 22 17 true (.bin .eql .int (.t 19) (.t 21)), xS 23 (.pick (.t 17) (.t 22) (.c (.bool false))), xT 24 23, xG 25 24 true (.fa 2 (.t 2)), xG 26 24 true (.load 0 (.t 25)), xG 27 24 true (.fa 2 (.t 3)), xG 28 24 true (.load 0 (.t 27)), xG 29 24 true (.bin .eql .int (.t 26) (.t 28)), xS 30 (.pick (.t 24) (.t 29) (.c (.bool false))), xT 31 30, xG 32 31 true (.fa 9 (.t 2)), xG 33 31 true (.load 0 (.t 32)), xG 34 31 true (.fa 9 (.t 3)), xG 35 31 true (.load 0 (.t 34)), xG 36 31 true (.bin .eql .int (.t 33) (.t 35)), xS 37 (.pick (.t 31) (.t 36) (.c (.bool false))), xT 4 37] [4]) .ret))
def c_census_Same : AFunc := ⟨k_census_Same, 38, [.t 4], [], [], []⟩
def bl_law42_CensusAdds_0 : ACode := (.seq (.seq (.reg [xF 34 7, xS 35 (.bin .lss .int (.t 34) (xI 6))] [2, 3, 5, 6, 7, 35]) (.cond (.t 35)
 .skip
 (.exit 0))) (.seq (.block 1 (.regd [xT 38 6, xF 39 7, xS 40 (.fa 3 (.t 2)), xS 41 (.ia (.arr 6 1) (.t 40) (.t 39)), xS 42 (.load 0 (.t 41)), xF 43 7, xS 44 (.fa 3 (.t 3)), xS 45 (.ia (.arr 6 1) (.t 44) (.t 43)), xS 46 (.load 0 (.t 45)), xS 47 (.bsl 1 [(.t 42), (.t 46)] false), xS 48 (.app 1 8 (.t 38) (.t 47)), xT 6 48] [2, 3, 5, 6, 7] ([(6, 0)], [(0, [(38, 0)]), (10, [(48, 0)]), (11, [(6, 0)])]) [])) (.reg [xT 36 7, xS 37 (.bin .add .int (.t 36) (xI 1)), xT 7 37] [2, 3, 5, 6, 7])))
def l_law42_CensusAdds_0 : ACode := .loop [2, 3, 5, 6, 7] [(6, 0)] bl_law42_CensusAdds_0
theorem L_law42_CensusAdds_0 {T : Table} (ks : List Kt) (e : Env) (h : Heap) (Q : Ex → Env → Heap → Prop) : Xc T l_law42_CensusAdds_0 ks e h Q = Xc T bl_law42_CensusAdds_0 (.seq l_law42_CensusAdds_0 :: ks) (e.keep [2, 3, 5, 6, 7]) h Q := Xc_loop ks _ e h Q _ _
def bl_law42_CensusAdds_1 : ACode := (.seq (.seq (.reg [xF 49 8, xF 50 6, xS 51 (.len false (.t 50)), xS 52 (.bin .lss .int (.t 49) (.t 51))] [2, 3, 5, 6, 8, 52]) (.cond (.t 52)
 .skip
 (.exit 2))) (.seq (.block 3 (.seq (.reg [xF 55 6, xF 56 8, xS 57 (.ia (.sl 1) (.t 55) (.t 56)), xS 58 (.load 0 (.t 57)), xF 59 5, xS 60 (.bin .gtr .int (.t 58) (.t 59)), xT 61 60, xG 62 61 false (.mv (.t 6) false), xG 63 61 false (.mv (.t 8) false), xG 64 61 false (.ia (.sl 1) (.t 62) (.t 63)), xG 65 61 false (.load 0 (.t 64)), xG 66 61 false (.mv (.t 5) false), xG 67 61 false (.un .neg (.t 66)), xG 68 61 false (.bin .lss .int (.t 65) (.t 67)), xS 69 (.pick (.t 61) (.c (.bool true)) (.t 68))] [2, 3, 5, 6, 8, 69]) (.cond (.t 69)
 (.seq (.reg [xS 70 (.callp f_law42_awake [] []), xT 4 70] [4]) .ret)
 .skip))) (.reg [xT 53 8, xS 54 (.bin .add .int (.t 53) (xI 1)), xT 8 54] [2, 3, 5, 6, 8])))
def l_law42_CensusAdds_1 : ACode := .loop [2, 3, 5, 6, 8] [(6, 0)] bl_law42_CensusAdds_1
theorem L_law42_CensusAdds_1 {T : Table} (ks : List Kt) (e : Env) (h : Heap) (Q : Ex → Env → Heap → Prop) : Xc T l_law42_CensusAdds_1 ks e h Q = Xc T bl_law42_CensusAdds_1 (.seq l_law42_CensusAdds_1 :: ks) (e.keep [2, 3, 5, 6, 8]) h Q := Xc_loop ks _ e h Q _ _
def bl_law42_CensusAdds_2 : ACode := (.seq (.seq (.reg [xF 100 11, xS 101 (.bin .lss .int (.t 100) (xI 6))] [2, 3, 9, 10, 11, 101]) (.cond (.t 101)
 .skip
 (.exit 4))) (.seq (.block 5 (.seq (.seq (.regd [xF 104 11, xS 105 (.fa 3 (.t 9)), xS 106 (.ia (.arr 6 1) (.t 105) (.t 104)), xS 107 (.load 0 (.t 106)), xF 108 11, xS 109 (.fa 3 (.t 2)), xS 110 (.ia (.arr 6 1) (.t 109) (.t 108)), xS 111 (.load 0 (.t 110)), xF 112 11, xS 113 (.fa 3 (.t 3)), xS 114 (.ia (.arr 6 1) (.t 113) (.t 112)), xS 115 (.load 0 (.t 114)), xS 116 (.bin .add .int (.t 111) (.t 115)), xS 117 (.bin .neq .int (.t 107) (.t 116))] [2, 3, 9, 10, 11, 117] ([], []) []) (.cond (.t 117)
 (.seq (.reg [xS 4 (.mv (.c (.bool false)) false)] [4]) .ret)
 .skip)) (.regd [xT 118 10, xT 119 118, xG 120 119 true (.mv (.t 11) false), xG 121 119 true (.fa 3 (.t 2)), xG 122 119 true (.ia (.arr 6 1) (.t 121) (.t 120)), xG 123 119 true (.load 0 (.t 122)), xG 124 119 true (.mv (.t 11) false), xG 125 119 true (.fa 3 (.t 3)), xG 126 119 true (.ia (.arr 6 1) (.t 125) (.t 124)), xG 127 119 true (.load 0 (.t 126)), xG 128 119 true (.bin .eql .int (.t 123) (.t 127)), xS 129 (.pick (.t 119) (.t 128) (.c (.bool false))), xT 10 129] [2, 3, 9, 10, 11] ([], []) []))) (.reg [xT 102 11, xS 103 (.bin .add .int (.t 102) (xI 1)), xT 11 103] [2, 3, 9, 10, 11])))
def l_law42_CensusAdds_2 : ACode := .loop [2, 3, 9, 10, 11] [] bl_law42_CensusAdds_2
theorem L_law42_CensusAdds_2 {T : Table} (ks : List Kt) (e : Env) (h : Heap) (Q : Ex → Env → Heap → Prop) : Xc T l_law42_CensusAdds_2 ks e h Q = Xc T bl_law42_CensusAdds_2 (.seq l_law42_CensusAdds_2 :: ks) (e.keep [2, 3, 9, 10, 11]) h Q := Xc_loop ks _ e h Q _ _
def k_law42_CensusAdds : ACode := (.seq (.reg [xS 2 (.box (.t 0)), xS 3 (.box (.t 1)), xS 4 (.mv (.c (.bool false)) false)] [2, 3]) (.seq (.reg [xS 5 (.mv (xI 1099511627776) false)] [2, 3, 5]) (.seq (.reg [xS 13 (.fa 0 (.t 2)), xS 14 (.load 0 (.t 13)), xS 15 (.fa 1 (.t 2)), xS 16 (.load 0 (.t 15)), xS 17 (.fa 2 (.t 2)), xS 18 (.load 0 (.t 17)), xS 19 (.fa 9 (.t 2)), xS 20 (.load 0 (.t 19)), xS 21 (.fa 10 (.t 2)), xS 22 (.load 0 (.t 21)), xS 23 (.fa 0 (.t 3)), xS 24 (.load 0 (.t 23)), xS 25 (.fa 1 (.t 3)), xS 26 (.load 0 (.t 25)), xS 27 (.fa 2 (.t 3)), xS 28 (.load 0 (.t 27)), xS 29 (.fa 9 (.t 3)), xS 30 (.load 0 (.t 29)), xS 31 (.fa 10 (.t 3)), xS 32 (.load 0 (.t 31)), xS 33 (.bsl 1 [(.t 14), (.t 16), (.t 18), (.t 20), (.t 22), (.t 24), (.t 26), (.t 28), (.t 30), (.t 32)] false), xT 6 33] [2, 3, 5, 6]) (.seq (.seq (.reg [xS 7 (.mv (xI 0) false)] [2, 3, 5, 6, 7]) (.block 0 l_law42_CensusAdds_0)) (.seq (.seq (.reg [xS 8 (.mv (xI 0) false)] [2, 3, 5, 6, 8]) (.block 2 l_law42_CensusAdds_1)) (.seq (.reg [xS 71 (.load 12 (.t 2)), xS 72 (.load 12 (.t 3)), xS 73 (.callp f_census_Add [(.t 71), (.t 72)] []), xS 9 (.alloc [(.int .i64 0), (.int .i64 0), (.int .i64 0), (.int .i64 0), (.int .i64 0), (.int .i64 0), (.int .i64 0), (.int .i64 0), (.int .i64 0), (.int .i64 0), (.int .i64 0), (.int .i64 0)]), ⟨none, .store 12 (.t 9) (.t 73), none⟩] [2, 3, 9]) (.seq (.reg [xS 74 (.fa 0 (.t 2)), xS 75 (.load 0 (.t 74)), xS 76 (.fa 0 (.t 3)), xS 77 (.load 0 (.t 76)), xS 78 (.bin .eql .int (.t 75) (.t 77)), xT 79 78, xG 80 79 true (.fa 1 (.t 2)), xG 81 79 true (.load 0 (.t 80)), xG 82 79 true (.fa 1 (.t 3)), xG 83 79 true (.load 0 (.t 82)), xG 84 79 true (.bin .eql .int (.t 81) (.t 83)), xS 85 (.pick (.t 79) (.t 84) (.c (.bool false))), xT 86 85, xG 87 86 true (.fa 2 (.t 2)), xG 88 86 true (.load 0 (.t 87)), xG 89 86 true (.fa 2 (.t 3)), xG 90 86 true (.load 0 (.t 89)), xG 91 86 true (.bin .eql .int (.t 88) (.t 90)), xS 92 (.pick (.t 86) (.t 91) (.c (.bool false))), xT 93 92, xG 94 93 true (.fa 9 (.t 2)), xG 95 93 true (.load 0 (.t 94)), xG 96 93 true (.fa 9 (.t 3)), xG 97 93 true (.load 0 (.t 96)), xG 98 93 true (.bin .eql .int (.t 95) (.t 97)), xS 99 (.pick (.t 93) (.t 98) (.c (.bool false))), xT 10 99] [2, 3, 9, 10]) (.seq (.seq (.reg [xS 11 (.mv (xI 0) false)] [2, 3, 9, 10, 11]) (.block 4 l_law42_CensusAdds_2)) (.seq (.reg [xS 130 (.fa 1 (.t 2)), xS 131 (.load 0 (.t 130)), xS 132 (.fa 3 (.t 2)), xS 133 (.ia (.arr 6 1) (.t 132) (xI 1)), xS 134 (.load 0 (.t 133)), xS 135 (.bin .sub .int (.t 131) (.t 134)), xS 136 (.fa 9 (.t 2)), xS 137 (.load 0 (.t 136)), xS 138 (.bin .sub .int (.t 135) (.t 137)), xS 139 (.callp f_ref01_High [(.t 138), (xI 0)] []), xT 12 139] [2, 3, 9, 10, 12]) (.seq (.regd [xS 140 (.callp f_law42_awake [] []), xT 141 140, xG 142 141 true (.fa 0 (.t 9)), xG 143 141 true (.load 0 (.t 142)), xG 144 141 true (.fa 0 (.t 2)), xG 145 141 true (.load 0 (.t 144)), xG 146 141 true (.fa 0 (.t 3)), xG 147 141 true (.load 0 (.t 146)), xG 148 141 true (.bin .add .int (.t 145) (.t 147)), xG 149 141 true (.bin .eql .int (.t 143) (.t 148)), xS 150 (.pick (.t 141) (.t 149) (.c (.bool false))), xT 151 150, xG 152 151 true (.fa 1 (.t 9)), xG 153 151 true (.load 0 (.t 152)), xG 154 151 true (.fa 1 (.t 2)), xG 155 151 true (.load 0 (.t 154)), xG 156 151 true (.fa 1 (.t 3)), xG 157 151 true (.load 0 (.t 156)), xG 158 151 true (.bin .add .int (.t 155) (.t 157)), xG 159 151 true (.bin .eql .int (.t 153) (.t 158)), xS 160 (.pick (.t 151) (.t 159) (.c (.bool false))), xT 161 160, xG 162 161 true (.fa 2 (.t 9)), xG 163 161 true (.load 0 (.t 162)), xG 164 161 true (.fa 2 (.t 2)), xG 165 161 true (.load 0 (.t 164)), xG 166 161 true (.fa 2 (.t 3)), xG 167 161 true (.load 0 (.t 166)), xG 168 161 true (.bin .add .int (.t 165) (.t 167)), xG 169 161 true (.bin .eql .int (.t 163) (.t 168)), xS 170 (.pick (.t 161) (.t 169) (.c (.bool false))), xT 171 170, xG 172 171 true (.fa 9 (.t 9)), xG 173 171 true (.load 0 (.t 172)), xG 174 171 true (.fa 9 (.t 2)), xG 175 171 true (.load 0 (.t 174)), xG 176 171 true (.fa 9 (.t 3)), xG 177 171 true (.load 0 (.t 176)), xG 178 171 true (.bin .add .int (.t 175) (.t 177)), xG 179 171 true (.bin .eql .int (.t 173) (.t 178)), xS 180 (.pick (.t 171) (.t 179) (.c (.bool false))), xT 181 180, xG 182 181 true (.fa 10 (.t 9)), xG 183 181 true (.load 0 (.t 182)), xG 184 181 true (.fa 10 (.t 2)), xG 185 181 true (.load 0 (.t 184)), xG 186 181 true (.fa 10 (.t 3)), xG 187 181 true (.load 0 (.t 186)), xG 188 181 true (.bin .add .int (.t 185) (.t 187)), xG 189 181 true (.bin .eql .int (.t 183) (.t 188)), xS 190 (.pick (.t 181) (.t 189) (.c (.bool false))), xT 191 190, xG 192 191 true (.fa 11 (.t 9)), xG 193 191 true (.load 0 (.t 192)), xG 194 191 true (.fa 11 (.t 2)), xG 195 191 true (.load 0 (.t 194)), xG 196 191 true (.fa 11 (.t 3)), xG 197 191 true (.load 0 (.t 196)), xG 198 191 true (.callp f_ref01_High [(.t 195), (.t 197)] []), xG 199 191 true (.bin .eql .int (.t 193) (.t 198)), xS 200 (.pick (.t 191) (.t 199) (.c (.bool false))), xT 201 200, xG 202 201 true (.load 12 (.t 2)), xG 203 201 true (.load 12 (.t 3)), xG 204 201 true (.callp f_census_Same [(.t 202), (.t 203)] []), xG 205 201 true (.mv (.t 10) true), xG 206 201 true (.bin .eql .bool (.t 204) (.t 205)), xS 207 (.pick (.t 201) (.t 206) (.c (.bool false))), xT 208 207, xG 209 208 true (.load 12 (.t 2)), xG 210 208 true (.callp f_census_Total [(.t 209)] []), xG 211 208 true (.fa 0 (.t 2)), xG 212 208 true (.load 0 (.t 211)), xG 213 208 true (.fa 1 (.t 2)), xG 214 208 true (.load 0 (.t 213)), xG 215 208 true (.bin .add .int (.t 212) (.t 214)), xG 216 208 true (.fa 2 (.t 2)), xG 217 208 true (.load 0 (.t 216)), xG 218 208 true (.bin .add .int (.t 215) (.t 217)), xG 219 208 true (.bin .eql .int (.t 210) (.t 218)), xS 220 (.pick (.t 208) (.t 219) (.c (.bool false))), xT 221 220, xG 222 221 true (.load 12 (.t 2)), xG 223 221 true (.callp f_census_Waste [(.t 222)] []), xG 224 221 true (.mv (.t 12) true), xG 225 221 true (.bin .eql .int (.t 223) (.t 224)), xS 226 (.pick (.t 221) (.t 225) (.c (.bool false))), xT 4 226] [4] ([], []) []) .ret))))))))))
def c_law42_CensusAdds : AFunc := ⟨k_law42_CensusAdds, 227, [.t 4], [], [], []⟩
def k_latest_Versions_1 : ACode := (.seq (.reg [xS 2 (.box (.t 0)), xS 3 (.box (.t 1)), xS 4 (.mv (xI 0) false)] [2, 3]) (.seq (.reg [xS 5 (.fa 0 (.t 2)), xS 6 (.load 0 (.t 5)), xS 7 (.fa 0 (.t 3)), xS 8 (.load 0 (.t 7)), xS 9 (.callp f_cmp_Compare_int [(.t 6), (.t 8)] []), xT 4 9] [4]) .ret))
def c_latest_Versions_1 : AFunc := ⟨k_latest_Versions_1, 10, [.t 4], [], [], []⟩

def tab : List (Nat × AFunc) := [(f_geom_Check_1, c_geom_Check_1),
  (f_geom_Check, c_geom_Check),
  (f_zeros_Ones, c_zeros_Ones),
  (f_nand_New, c_nand_New),
  (f_nand_Device_Down, c_nand_Device_Down),
  (f_nand_Device_up, c_nand_Device_up),
  (f_geom_Place, c_geom_Place),
  (f_nand_Device_Read, c_nand_Device_Read),
  (f_zeros_count, c_zeros_count),
  (f_zeros_Count, c_zeros_Count),
  (f_zeros_Blank, c_zeros_Blank),
  (f_be_Get_1, c_be_Get_1),
  (f_be_width, c_be_width),
  (f_be_Get, c_be_Get),
  (f_page_Class, c_page_Class),
  (f_page_Get, c_page_Get),
  (f_scan_Data, c_scan_Data),
  (f_scan_All_1, c_scan_All_1),
  (f_nand_Device_Sides, c_nand_Device_Sides),
  (f_nand_Device_there, c_nand_Device_there),
  (f_nand_Device_Marked, c_nand_Device_Marked),
  (f_scan_All, c_scan_All),
  (f_mirror_up, c_mirror_up),
  (f_be_Reader_B, c_be_Reader_B),
  (f_be_Reader_N, c_be_Reader_N),
  (f_table_Get_1, c_table_Get_1),
  (f_table_Get, c_table_Get),
  (f_mirror_Tables_1, c_mirror_Tables_1),
  (f_mirror_Tables, c_mirror_Tables),
  (f_mirror_Newest, c_mirror_Newest),
  (f_census_void, c_census_void),
  (f_latest_Highest, c_latest_Highest),
  (f_latest_Broken_1, c_latest_Broken_1),
  (f_slices_IndexFunc_api_Found_api_Found, c_slices_IndexFunc_api_Found_api_Found),
  (f_slices_ContainsFunc_api_Found_api_Found, c_slices_ContainsFunc_api_Found_api_Found),
  (f_latest_Broken, c_latest_Broken),
  (f_slices_Index_uint64_uint64, c_slices_Index_uint64_uint64),
  (f_slices_Contains_uint64_uint64, c_slices_Contains_uint64_uint64),
  (f_latest_nothing_1, c_latest_nothing_1),
  (f_latest_nothing, c_latest_nothing),
  (f_math_bits_Len32, c_math_bits_Len32),
  (f_math_bits_Len64, c_math_bits_Len64),
  (f_math_bits_Len, c_math_bits_Len),
  (f_slices_insertionSortCmpFunc_api_Copies, c_slices_insertionSortCmpFunc_api_Copies),
  (f_slices_pdqsortCmpFunc_api_Copies, c_slices_pdqsortCmpFunc_api_Copies),
  (f_slices_SortFunc_api_Copies_api_Copies, c_slices_SortFunc_api_Copies_api_Copies),
  (f_latest_Versions, c_latest_Versions),
  (f_nand_Device_Wear, c_nand_Device_Wear),
  (f_census_see, c_census_see),
  (f_census_Of_1, c_census_Of_1),
  (f_census_Of, c_census_Of),
  (f_scan_some, c_scan_some),
  (f_scan_Marked, c_scan_Marked),
  (f_geom_Bad, c_geom_Bad),
  (f_geom_Good, c_geom_Good),
  (f_geom_Logical, c_geom_Logical),
  (f_ftl_Mount_1, c_ftl_Mount_1),
  (f_cmp_isNaN_int, c_cmp_isNaN_int),
  (f_cmp_Compare_int, c_cmp_Compare_int),
  (f_ftl_Mount, c_ftl_Mount),
  (f_census_Total, c_census_Total),
  (f_census_Waste, c_census_Waste),
  (f_law42_awake, c_law42_awake),
  (f_census_Add, c_census_Add),
  (f_ref01_High, c_ref01_High),
  (f_census_Same, c_census_Same),
  (f_law42_CensusAdds, c_law42_CensusAdds),
  (f_latest_Versions_1, c_latest_Versions_1)]
def T : Table := fun f => tab.lookup f
theorem t_geom_Check_1 : T f_geom_Check_1 = some c_geom_Check_1 := rfl
theorem t_geom_Check : T f_geom_Check = some c_geom_Check := rfl
theorem t_zeros_Ones : T f_zeros_Ones = some c_zeros_Ones := rfl
theorem t_nand_New : T f_nand_New = some c_nand_New := rfl
theorem t_nand_Device_Down : T f_nand_Device_Down = some c_nand_Device_Down := rfl
theorem t_nand_Device_up : T f_nand_Device_up = some c_nand_Device_up := rfl
theorem t_geom_Place : T f_geom_Place = some c_geom_Place := rfl
theorem t_nand_Device_Read : T f_nand_Device_Read = some c_nand_Device_Read := rfl
theorem t_zeros_count : T f_zeros_count = some c_zeros_count := rfl
theorem t_zeros_Count : T f_zeros_Count = some c_zeros_Count := rfl
theorem t_zeros_Blank : T f_zeros_Blank = some c_zeros_Blank := rfl
theorem t_be_Get_1 : T f_be_Get_1 = some c_be_Get_1 := rfl
theorem t_be_width : T f_be_width = some c_be_width := rfl
theorem t_be_Get : T f_be_Get = some c_be_Get := rfl
theorem t_page_Class : T f_page_Class = some c_page_Class := rfl
theorem t_page_Get : T f_page_Get = some c_page_Get := rfl
theorem t_scan_Data : T f_scan_Data = some c_scan_Data := rfl
theorem t_scan_All_1 : T f_scan_All_1 = some c_scan_All_1 := rfl
theorem t_nand_Device_Sides : T f_nand_Device_Sides = some c_nand_Device_Sides := rfl
theorem t_nand_Device_there : T f_nand_Device_there = some c_nand_Device_there := rfl
theorem t_nand_Device_Marked : T f_nand_Device_Marked = some c_nand_Device_Marked := rfl
theorem t_scan_All : T f_scan_All = some c_scan_All := rfl
theorem t_mirror_up : T f_mirror_up = some c_mirror_up := rfl
theorem t_be_Reader_B : T f_be_Reader_B = some c_be_Reader_B := rfl
theorem t_be_Reader_N : T f_be_Reader_N = some c_be_Reader_N := rfl
theorem t_table_Get_1 : T f_table_Get_1 = some c_table_Get_1 := rfl
theorem t_table_Get : T f_table_Get = some c_table_Get := rfl
theorem t_mirror_Tables_1 : T f_mirror_Tables_1 = some c_mirror_Tables_1 := rfl
theorem t_mirror_Tables : T f_mirror_Tables = some c_mirror_Tables := rfl
theorem t_mirror_Newest : T f_mirror_Newest = some c_mirror_Newest := rfl
theorem t_census_void : T f_census_void = some c_census_void := rfl
theorem t_latest_Highest : T f_latest_Highest = some c_latest_Highest := rfl
theorem t_latest_Broken_1 : T f_latest_Broken_1 = some c_latest_Broken_1 := rfl
theorem t_slices_IndexFunc_api_Found_api_Found : T f_slices_IndexFunc_api_Found_api_Found = some c_slices_IndexFunc_api_Found_api_Found := rfl
theorem t_slices_ContainsFunc_api_Found_api_Found : T f_slices_ContainsFunc_api_Found_api_Found = some c_slices_ContainsFunc_api_Found_api_Found := rfl
theorem t_latest_Broken : T f_latest_Broken = some c_latest_Broken := rfl
theorem t_slices_Index_uint64_uint64 : T f_slices_Index_uint64_uint64 = some c_slices_Index_uint64_uint64 := rfl
theorem t_slices_Contains_uint64_uint64 : T f_slices_Contains_uint64_uint64 = some c_slices_Contains_uint64_uint64 := rfl
theorem t_latest_nothing_1 : T f_latest_nothing_1 = some c_latest_nothing_1 := rfl
theorem t_latest_nothing : T f_latest_nothing = some c_latest_nothing := rfl
theorem t_math_bits_Len32 : T f_math_bits_Len32 = some c_math_bits_Len32 := rfl
theorem t_math_bits_Len64 : T f_math_bits_Len64 = some c_math_bits_Len64 := rfl
theorem t_math_bits_Len : T f_math_bits_Len = some c_math_bits_Len := rfl
theorem t_slices_insertionSortCmpFunc_api_Copies : T f_slices_insertionSortCmpFunc_api_Copies = some c_slices_insertionSortCmpFunc_api_Copies := rfl
theorem t_slices_pdqsortCmpFunc_api_Copies : T f_slices_pdqsortCmpFunc_api_Copies = some c_slices_pdqsortCmpFunc_api_Copies := rfl
theorem t_slices_SortFunc_api_Copies_api_Copies : T f_slices_SortFunc_api_Copies_api_Copies = some c_slices_SortFunc_api_Copies_api_Copies := rfl
theorem t_latest_Versions : T f_latest_Versions = some c_latest_Versions := rfl
theorem t_nand_Device_Wear : T f_nand_Device_Wear = some c_nand_Device_Wear := rfl
theorem t_census_see : T f_census_see = some c_census_see := rfl
theorem t_census_Of_1 : T f_census_Of_1 = some c_census_Of_1 := rfl
theorem t_census_Of : T f_census_Of = some c_census_Of := rfl
theorem t_scan_some : T f_scan_some = some c_scan_some := rfl
theorem t_scan_Marked : T f_scan_Marked = some c_scan_Marked := rfl
theorem t_geom_Bad : T f_geom_Bad = some c_geom_Bad := rfl
theorem t_geom_Good : T f_geom_Good = some c_geom_Good := rfl
theorem t_geom_Logical : T f_geom_Logical = some c_geom_Logical := rfl
theorem t_ftl_Mount_1 : T f_ftl_Mount_1 = some c_ftl_Mount_1 := rfl
theorem t_cmp_isNaN_int : T f_cmp_isNaN_int = some c_cmp_isNaN_int := rfl
theorem t_cmp_Compare_int : T f_cmp_Compare_int = some c_cmp_Compare_int := rfl
theorem t_ftl_Mount : T f_ftl_Mount = some c_ftl_Mount := rfl
theorem t_census_Total : T f_census_Total = some c_census_Total := rfl
theorem t_census_Waste : T f_census_Waste = some c_census_Waste := rfl
theorem t_law42_awake : T f_law42_awake = some c_law42_awake := rfl
theorem t_census_Add : T f_census_Add = some c_census_Add := rfl
theorem t_ref01_High : T f_ref01_High = some c_ref01_High := rfl
theorem t_census_Same : T f_census_Same = some c_census_Same := rfl
theorem t_law42_CensusAdds : T f_law42_CensusAdds = some c_law42_CensusAdds := rfl
theorem t_latest_Versions_1 : T f_latest_Versions_1 = some c_latest_Versions_1 := rfl
end Ev
