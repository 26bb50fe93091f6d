/- The code of the functions that the claim reaches, in the evaluator's form; what it is held against stands in the text of the checks. No condition. -/
import Derived.Test.YtmbheeapegpmlaaEv9
/-! The code of the functions, as the evaluator takes it. -/
set_option linter.all false
namespace Ev
open Go

abbrev f_law31_SegCuts : Nat := 7
abbrev f_law31_SegFills : Nat := 8
abbrev f_law31_SegOffsets : Nat := 9
abbrev f_ref01_Ints : Nat := 21
abbrev f_ref13_Has : Nat := 26
abbrev f_ref01_High : Nat := 28
abbrev f_ref01_Low : Nat := 29
abbrev f_ref27_Frames : Nat := 31
abbrev f_law31_awake : Nat := 37
abbrev f_seg_Cut : Nat := 38
abbrev f_ref31_Part : Nat := 39
abbrev f_seg_Last : Nat := 40
abbrev f_seg_Offset : Nat := 41
abbrev f_seg_Part : Nat := 42
abbrev f_seg_Fill : Nat := 43
abbrev f_seg_Join : Nat := 44
abbrev f_ref31_Fill : Nat := 45
abbrev f_index_Frames : Nat := 75
abbrev f_seg_part : Nat := 76
abbrev f_seg_Fill_1 : Nat := 77
abbrev f_slices_Contains_bool_bool : Nat := 78
abbrev f_slices_Index_bool_bool : Nat := 93
-- 21: wagtail/wagtailref01.Ints
def bl_ref01_Ints_0 : ACode := (.seq (.seq (.reg [⟨(some 11), .mv (.t 5) false, none⟩,
  ⟨(some 12), .mv (.t 0) false, none⟩,
  ⟨(some 13), .len false (.t 12), none⟩,
  ⟨(some 14), .bin .lss .int (.t 11) (.t 13), none⟩] [0, 1, 5, 14]) (.cond (.t 14)
 .skip
 (.exit 0))) (.seq (.block 1 (.seq (.regd [⟨(some 17), .mv (.t 0) false, none⟩,
  ⟨(some 18), .mv (.t 5) false, none⟩,
  ⟨(some 19), .ia (.sl 1) (.t 17) (.t 18), none⟩,
  ⟨(some 20), .load 0 (.t 19), none⟩,
  ⟨(some 21), .mv (.t 1) false, none⟩,
  ⟨(some 22), .mv (.t 5) false, none⟩,
  ⟨(some 23), .ia (.sl 1) (.t 21) (.t 22), none⟩,
  ⟨(some 24), .load 0 (.t 23), none⟩,
  ⟨(some 25), .bin .neq .int (.t 20) (.t 24), none⟩] [0, 1, 5, 25] [] []) (.cond (.t 25)
 (.seq (.reg [⟨(some 4), .mv (.c (.bool false)) false, none⟩] [4]) .ret)
 .skip))) (.reg [⟨(some 15), .mv (.t 5) true, none⟩,
  ⟨(some 16), .bin .add .int (.t 15) (.c (.int .i64 1)), none⟩,
  ⟨(some 5), .mv (.t 16) true, none⟩] [0, 1, 5])))
def l_ref01_Ints_0 : ACode := .loop [0, 1, 5] [] bl_ref01_Ints_0
theorem L_ref01_Ints_0 {T : Table} (ks : List Kt) (e : Env) (h : Heap) (Q : Ex → Env → Heap → Prop) : Xc T l_ref01_Ints_0 ks e h Q = Xc T bl_ref01_Ints_0 (.seq l_ref01_Ints_0 :: ks) (e.keep [0, 1, 5]) h Q := Xc_loop ks _ e h Q _ _
def k_ref01_Ints : ACode := (.seq (.reg [⟨(some 4), .mv (.c (.bool false)) false, none⟩] [0, 1]) (.seq (.seq (.reg [⟨(some 6), .mv (.t 0) false, none⟩,
  ⟨(some 7), .len false (.t 6), none⟩,
  ⟨(some 8), .mv (.t 1) false, none⟩,
  ⟨(some 9), .len false (.t 8), none⟩,
  ⟨(some 10), .bin .neq .int (.t 7) (.t 9), none⟩] [0, 1, 10]) (.cond (.t 10)
 (.seq (.reg [⟨(some 4), .mv (.c (.bool false)) false, none⟩] [4]) .ret)
 .skip)) (.seq (.seq (.reg [⟨(some 5), .mv (.c (.int .i64 0)) false, none⟩] [0, 1, 5]) (.block 0 l_ref01_Ints_0)) (.seq (.reg [⟨(some 4), .mv (.c (.bool true)) false, none⟩] [4]) .ret))))
def c_ref01_Ints : AFunc := ⟨k_ref01_Ints, 26, [.t 4], [], [], []⟩
-- 28: wagtail/wagtailref01.High

def k_ref01_High : ACode := (.seq (.reg [⟨(some 4), .mv (.c (.int .i64 0)) false, none⟩] [0, 1]) (.seq (.seq (.reg [⟨(some 5), .mv (.t 0) false, none⟩,
  ⟨(some 6), .mv (.t 1) false, none⟩,
  ⟨(some 7), .bin .gtr .int (.t 5) (.t 6), none⟩] [0, 1, 7]) (.cond (.t 7)
 (.seq (.reg [⟨(some 8), .mv (.t 0) true, none⟩,
  ⟨(some 4), .mv (.t 8) true, none⟩] [4]) .ret)
 .skip)) (.seq (.reg [⟨(some 9), .mv (.t 1) true, none⟩,
  ⟨(some 4), .mv (.t 9) true, none⟩] [4]) .ret)))
def c_ref01_High : AFunc := ⟨k_ref01_High, 10, [.t 4], [], [], []⟩
-- 29: wagtail/wagtailref01.Low

def k_ref01_Low : ACode := (.seq (.reg [⟨(some 4), .mv (.c (.int .i64 0)) false, none⟩] [0, 1]) (.seq (.seq (.reg [⟨(some 5), .mv (.t 0) false, none⟩,
  ⟨(some 6), .mv (.t 1) false, none⟩,
  ⟨(some 7), .bin .lss .int (.t 5) (.t 6), none⟩] [0, 1, 7]) (.cond (.t 7)
 (.seq (.reg [⟨(some 8), .mv (.t 0) true, none⟩,
  ⟨(some 4), .mv (.t 8) true, none⟩] [4]) .ret)
 .skip)) (.seq (.reg [⟨(some 9), .mv (.t 1) true, none⟩,
  ⟨(some 4), .mv (.t 9) true, none⟩] [4]) .ret)))
def c_ref01_Low : AFunc := ⟨k_ref01_Low, 10, [.t 4], [], [], []⟩
-- 26: wagtail/wagtailref13.Has
def bl_ref13_Has_0 : ACode := (.seq (.seq (.reg [⟨(some 6), .mv (.t 5) false, none⟩,
  ⟨(some 7), .mv (.t 0) false, none⟩,
  ⟨(some 8), .len false (.t 7), none⟩,
  ⟨(some 9), .bin .lss .int (.t 6) (.t 8), none⟩] [0, 1, 5, 9]) (.cond (.t 9)
 .skip
 (.exit 0))) (.seq (.block 1 (.seq (.reg [⟨(some 12), .mv (.t 0) false, none⟩,
  ⟨(some 13), .mv (.t 5) false, none⟩,
  ⟨(some 14), .ia (.sl 1) (.t 12) (.t 13), none⟩,
  ⟨(some 15), .load 0 (.t 14), none⟩,
  ⟨(some 16), .mv (.t 1) false, none⟩,
  ⟨(some 17), .bin .eql .int (.t 15) (.t 16), none⟩] [0, 1, 5, 17]) (.cond (.t 17)
 (.seq (.reg [⟨(some 4), .mv (.c (.bool true)) false, none⟩] [4]) .ret)
 .skip))) (.reg [⟨(some 10), .mv (.t 5) true, none⟩,
  ⟨(some 11), .bin .add .int (.t 10) (.c (.int .i64 1)), none⟩,
  ⟨(some 5), .mv (.t 11) true, none⟩] [0, 1, 5])))
def l_ref13_Has_0 : ACode := .loop [0, 1, 5] [] bl_ref13_Has_0
theorem L_ref13_Has_0 {T : Table} (ks : List Kt) (e : Env) (h : Heap) (Q : Ex → Env → Heap → Prop) : Xc T l_ref13_Has_0 ks e h Q = Xc T bl_ref13_Has_0 (.seq l_ref13_Has_0 :: ks) (e.keep [0, 1, 5]) h Q := Xc_loop ks _ e h Q _ _
def k_ref13_Has : ACode := (.seq (.reg [⟨(some 4), .mv (.c (.bool false)) false, none⟩] [0, 1]) (.seq (.seq (.reg [⟨(some 5), .mv (.c (.int .i64 0)) false, none⟩] [0, 1, 5]) (.block 0 l_ref13_Has_0)) (.seq (.reg [⟨(some 4), .mv (.c (.bool false)) false, none⟩] [4]) .ret)))
def c_ref13_Has : AFunc := ⟨k_ref13_Has, 18, [.t 4], [], [], []⟩
-- 31: wagtail/wagtailref27.Frames
def bl_ref27_Frames_0 : ACode := (.seq (.seq (.reg [⟨(some 4), .mv (.t 3) false, none⟩,
  ⟨(some 5), .bin .mul .int (.c (.int .i64 100)) (.t 4), none⟩,
  ⟨(some 6), .mv (.t 0) false, none⟩,
  ⟨(some 7), .bin .lss .int (.t 5) (.t 6), none⟩,
  ⟨(some 8), .mv (.t 7) true, none⟩,
  ⟨(some 9), .mv (.t 3) false, (some (8, true))⟩,
  ⟨(some 10), .bin .lss .int (.t 9) (.c (.int .i64 100000)), (some (8, true))⟩,
  ⟨(some 11), .pick (.t 8) (.t 10) (.c (.bool false)), none⟩] [0, 3, 11]) (.cond (.t 11)
 .skip
 (.exit 0))) (.block 1 (.reg [⟨(some 12), .mv (.t 3) true, none⟩,
  ⟨(some 13), .bin .add .int (.t 12) (.c (.int .i64 1)), none⟩,
  ⟨(some 3), .mv (.t 13) true, none⟩] [0, 3])))
def l_ref27_Frames_0 : ACode := .loop [0, 3] [] bl_ref27_Frames_0
theorem L_ref27_Frames_0 {T : Table} (ks : List Kt) (e : Env) (h : Heap) (Q : Ex → Env → Heap → Prop) : Xc T l_ref27_Frames_0 ks e h Q = Xc T bl_ref27_Frames_0 (.seq l_ref27_Frames_0 :: ks) (e.keep [0, 3]) h Q := Xc_loop ks _ e h Q _ _
def k_ref27_Frames : ACode := (.seq (.reg [⟨(some 2), .mv (.c (.int .i64 0)) false, none⟩] [0]) (.seq (.reg [⟨(some 3), .mv (.c (.int .i64 0)) false, none⟩] [0, 3]) (.seq (.block 0 l_ref27_Frames_0) (.seq (.reg [⟨(some 14), .mv (.t 3) true, none⟩,
  ⟨(some 2), .mv (.t 14) true, none⟩] [2]) .ret))))
def c_ref27_Frames : AFunc := ⟨k_ref27_Frames, 15, [.t 2], [], [], []⟩
-- 75: wagtail/index.Frames

def k_index_Frames : ACode := (.seq (.reg [⟨(some 2), .mv (.c (.int .i64 0)) false, none⟩] [0]) (.seq (.seq (.reg [⟨(some 3), .mv (.t 0) false, none⟩,
  ⟨(some 4), .bin .lss .int (.t 3) (.c (.int .i64 1)), none⟩] [0, 4]) (.cond (.t 4)
 (.seq (.reg [⟨(some 2), .mv (.c (.int .i64 0)) false, none⟩] [2]) .ret)
 .skip)) (.seq (.reg [⟨(some 5), .mv (.t 0) true, none⟩,
  ⟨(some 6), .bin .sub .int (.t 5) (.c (.int .i64 1)), none⟩,
  ⟨(some 7), .bin .quo .int (.t 6) (.c (.int .i64 100)), none⟩,
  ⟨(some 8), .bin .add .int (.t 7) (.c (.int .i64 1)), none⟩,
  ⟨(some 2), .mv (.t 8) true, none⟩] [2]) .ret)))
def c_index_Frames : AFunc := ⟨k_index_Frames, 9, [.t 2], [], [], []⟩
-- 41: wagtail/seg.Offset

def k_seg_Offset : ACode := (.seq (.reg [⟨(some 2), .mv (.c (.int .i64 0)) false, none⟩] [0]) (.seq (.reg [⟨(some 3), .mv (.t 0) true, none⟩,
  ⟨(some 4), .mx true [(.t 3), (.c (.int .i64 0))], none⟩,
  ⟨(some 5), .mx false [(.t 4), (.c (.int .i64 1048576))], none⟩,
  ⟨(some 6), .bin .mul .int (.t 5) (.c (.int .i64 100)), none⟩,
  ⟨(some 2), .mv (.t 6) true, none⟩] [2]) .ret))
def c_seg_Offset : AFunc := ⟨k_seg_Offset, 7, [.t 2], [], [], []⟩
-- 76: wagtail/seg.part

def k_seg_part : ACode := (.seq (.reg [⟨(some 4), .mv (.c (.ps 1 [])) false, none⟩] [0, 1]) (.seq (.reg [⟨(some 7), .mv (.t 1) true, none⟩,
  ⟨(some 8), .callp f_seg_Offset [(.t 7)] [], none⟩,
  ⟨(some 5), .mv (.t 8) true, none⟩] [0, 5]) (.seq (.reg [⟨(some 9), .mv (.t 5) false, none⟩,
  ⟨(some 10), .bin .add .int (.t 9) (.c (.int .i64 100)), none⟩,
  ⟨(some 11), .mv (.t 0) false, none⟩,
  ⟨(some 12), .len false (.t 11), none⟩,
  ⟨(some 13), .mx false [(.t 10), (.t 12)], none⟩,
  ⟨(some 6), .mv (.t 13) true, none⟩] [0, 5, 6]) (.seq (.reg [⟨(some 14), .bsl 1 [] false, none⟩,
  ⟨(some 15), .mv (.t 0) true, none⟩,
  ⟨(some 16), .mv (.t 5) true, none⟩,
  ⟨(some 17), .mv (.t 6) false, none⟩,
  ⟨(some 18), .mv (.t 6) true, none⟩,
  ⟨(some 19), .sl (.sl 1) (.t 15) (some (.t 16)) (some (.t 17)) (some (.t 18)) false, none⟩,
  ⟨(some 20), .app 1 1 (.t 14) (.t 19), none⟩,
  ⟨(some 4), .mv (.t 20) true, none⟩] [4]) .ret))))
def c_seg_part : AFunc := ⟨k_seg_part, 21, [.t 4], [], [0], []⟩
-- 38: wagtail/seg.Cut
def bl_seg_Cut_0 : ACode := (.seq (.reg [⟨(some 9), .bin .lss .int (.t 8) (.t 7), none⟩] [0, 3, 7, 8, 9]) (.seq (.cond (.t 9)
 .skip
 (.exit 0)) (.seq (.block 1 (.seq (.reg [⟨(some 10), .mv (.t 8) false, none⟩,
  ⟨(some 4), .mv (.t 10) true, none⟩] [0, 3, 4, 7, 8]) (.reg [⟨(some 11), .mv (.t 3) true, none⟩,
  ⟨(some 12), .mv (.t 0) false, none⟩,
  ⟨(some 13), .mv (.t 4) true, none⟩,
  ⟨(some 14), .callp f_seg_part [(.t 12), (.t 13)] [], none⟩,
  ⟨(some 15), .bsl 1 [(.t 14)] false, none⟩,
  ⟨(some 16), .app 1 24 (.t 11) (.t 15), none⟩,
  ⟨(some 3), .mv (.t 16) true, none⟩] [0, 3, 7, 8]))) (.reg [⟨(some 17), .bin .add .int (.t 8) (.c (.int .i64 1)), none⟩,
  ⟨(some 8), .mv (.t 17) true, none⟩] [0, 3, 7, 8]))))
def l_seg_Cut_0 : ACode := .loop [0, 3, 7, 8] [(3, 0)] bl_seg_Cut_0
theorem L_seg_Cut_0 {T : Table} (ks : List Kt) (e : Env) (h : Heap) (Q : Ex → Env → Heap → Prop) : Xc T l_seg_Cut_0 ks e h Q = Xc T bl_seg_Cut_0 (.seq l_seg_Cut_0 :: ks) (e.keep [0, 3, 7, 8]) h Q := Xc_loop ks _ e h Q _ _
def k_seg_Cut : ACode := (.seq (.reg [⟨(some 2), .mv (.c (.ps 1 [])) false, none⟩] [0]) (.seq (.reg [⟨(some 3), .mv (.c (.ps 1 [])) false, none⟩] [0, 3]) (.seq (.seq (.reg [⟨(some 5), .mv (.t 0) false, none⟩,
  ⟨(some 6), .len false (.t 5), none⟩,
  ⟨(some 7), .callp f_index_Frames [(.t 6)] [], none⟩,
  ⟨(some 8), .mv (.c (.int .i64 0)) false, none⟩] [0, 3, 7, 8]) (.block 0 l_seg_Cut_0)) (.seq (.reg [⟨(some 18), .mv (.t 3) true, none⟩,
  ⟨(some 2), .mv (.t 18) true, none⟩] [2]) .ret))))
def c_seg_Cut : AFunc := ⟨k_seg_Cut, 19, [.t 2], [], [0], []⟩
-- 42: wagtail/seg.Part

def k_seg_Part : ACode := (.seq (.reg [⟨(some 4), .mv (.c (.ps 1 [])) false, none⟩,
  ⟨(some 5), .mv (.c (.int .i64 0)) false, none⟩] [0, 1]) (.seq (.seq (.reg [⟨(some 6), .mv (.t 1) false, none⟩,
  ⟨(some 7), .bin .lss .int (.t 6) (.c (.int .i64 0)), none⟩,
  ⟨(some 8), .mv (.t 7) true, none⟩,
  ⟨(some 9), .mv (.t 1) false, (some (8, false))⟩,
  ⟨(some 10), .mv (.t 0) false, (some (8, false))⟩,
  ⟨(some 11), .len false (.t 10), (some (8, false))⟩,
  ⟨(some 12), .callp f_index_Frames [(.t 11)] [], (some (8, false))⟩,
  ⟨(some 13), .bin .geq .int (.t 9) (.t 12), (some (8, false))⟩,
  ⟨(some 14), .pick (.t 8) (.c (.bool true)) (.t 13), none⟩] [0, 1, 14]) (.cond (.t 14)
 (.seq (.reg [⟨(some 4), .mv (.c (.ps 1 [])) false, none⟩,
  ⟨(some 5), .mv (.c (.int .i64 3)) false, none⟩] [4, 5]) .ret)
 .skip)) (.seq (.reg [⟨(some 15), .mv (.t 0) true, none⟩,
  ⟨(some 16), .mv (.t 1) true, none⟩,
  ⟨(some 17), .callp f_seg_part [(.t 15), (.t 16)] [], none⟩,
  ⟨(some 4), .mv (.t 17) true, none⟩,
  ⟨(some 5), .mv (.c (.int .i64 0)) false, none⟩] [4, 5]) .ret)))
def c_seg_Part : AFunc := ⟨k_seg_Part, 18, [.t 4, .t 5], [], [1], []⟩
-- 77: wagtail/seg.Fill$1

def k_seg_Fill_1 : ACode := (.seq (.reg [⟨(some 5), .mv (.c (.bool false)) false, none⟩] [0, 1, 2, 3]) (.seq (.regd [⟨(some 6), .load 0 (.t 1), none⟩,
  ⟨(some 7), .mv (.t 0) false, none⟩,
  ⟨(some 8), .ia (.sl 1) (.t 6) (.t 7), none⟩,
  ⟨(some 9), .load 0 (.t 8), none⟩,
  ⟨(some 10), .bin .geq .int (.t 9) (.c (.int .i64 0)), none⟩,
  ⟨(some 11), .mv (.t 10) false, none⟩,
  ⟨(some 12), .load 0 (.t 1), (some (11, true))⟩,
  ⟨(some 13), .mv (.t 0) false, (some (11, true))⟩,
  ⟨(some 14), .ia (.sl 1) (.t 12) (.t 13), (some (11, true))⟩,
  ⟨(some 15), .load 0 (.t 14), (some (11, true))⟩,
  ⟨(some 16), .load 0 (.t 2), (some (11, true))⟩,
  ⟨(some 17), .bin .leq .int (.t 15) (.t 16), (some (11, true))⟩,
  ⟨(some 18), .pick (.t 11) (.t 17) (.c (.bool false)), none⟩,
  ⟨(some 19), .mv (.t 18) false, none⟩,
  ⟨(some 20), .load 0 (.t 3), (some (19, true))⟩,
  ⟨(some 21), .mv (.t 0) false, (some (19, true))⟩,
  ⟨(some 22), .ia (.sl 1) (.t 20) (.t 21), (some (19, true))⟩,
  ⟨(some 23), .load 0 (.t 22), (some (19, true))⟩,
  ⟨(some 24), .len false (.t 23), (some (19, true))⟩,
  ⟨(some 25), .load 0 (.t 2), (some (19, true))⟩,
  ⟨(some 26), .load 0 (.t 1), (some (19, true))⟩,
  ⟨(some 27), .mv (.t 0) false, (some (19, true))⟩,
  ⟨(some 28), .ia (.sl 1) (.t 26) (.t 27), (some (19, true))⟩,
  ⟨(some 29), .load 0 (.t 28), (some (19, true))⟩,
  ⟨(some 30), .bin .sub .int (.t 25) (.t 29), (some (19, true))⟩,
  ⟨(some 31), .bin .leq .int (.t 24) (.t 30), (some (19, true))⟩,
  ⟨(some 32), .pick (.t 19) (.t 31) (.c (.bool false)), none⟩,
  ⟨(some 5), .mv (.t 32) false, none⟩] [5] [] []) .ret))
def c_seg_Fill_1 : AFunc := ⟨k_seg_Fill_1, 33, [.t 5], [], [], []⟩
-- 93: slices.Index[[]bool,bool]
def bl_slices_Index_bool_bool_0 : ACode := (.seq (.reg [⟨(some 9), .bin .lss .int (.t 8) (.t 7), none⟩] [0, 1, 7, 8, 9]) (.seq (.cond (.t 9)
 .skip
 (.exit 0)) (.seq (.block 1 (.seq (.reg [⟨(some 10), .mv (.t 8) false, none⟩,
  ⟨(some 5), .mv (.t 10) true, none⟩] [0, 1, 5, 7, 8]) (.seq (.reg [⟨(some 11), .mv (.t 1) false, none⟩,
  ⟨(some 12), .mv (.t 0) false, none⟩,
  ⟨(some 13), .mv (.t 5) false, none⟩,
  ⟨(some 14), .ia (.sl 1) (.t 12) (.t 13), none⟩,
  ⟨(some 15), .load 0 (.t 14), none⟩,
  ⟨(some 16), .bin .eql .bool (.t 11) (.t 15), none⟩] [0, 1, 5, 7, 8, 16]) (.cond (.t 16)
 (.seq (.reg [⟨(some 17), .mv (.t 5) true, none⟩,
  ⟨(some 4), .mv (.t 17) true, none⟩] [4]) .ret)
 .skip)))) (.reg [⟨(some 18), .bin .add .int (.t 8) (.c (.int .i64 1)), none⟩,
  ⟨(some 8), .mv (.t 18) true, none⟩] [0, 1, 7, 8]))))
def l_slices_Index_bool_bool_0 : ACode := .loop [0, 1, 7, 8] [] bl_slices_Index_bool_bool_0
theorem L_slices_Index_bool_bool_0 {T : Table} (ks : List Kt) (e : Env) (h : Heap) (Q : Ex → Env → Heap → Prop) : Xc T l_slices_Index_bool_bool_0 ks e h Q = Xc T bl_slices_Index_bool_bool_0 (.seq l_slices_Index_bool_bool_0 :: ks) (e.keep [0, 1, 7, 8]) h Q := Xc_loop ks _ e h Q _ _
def k_slices_Index_bool_bool : ACode := (.seq (.reg [⟨(some 4), .mv (.c (.int .i64 0)) false, none⟩] [0, 1]) (.seq (.seq (.reg [⟨(some 6), .mv (.t 0) false, none⟩,
  ⟨(some 7), .len false (.t 6), none⟩,
  ⟨(some 8), .mv (.c (.int .i64 0)) false, none⟩] [0, 1, 7, 8]) (.block 0 l_slices_Index_bool_bool_0)) (.seq (.reg [⟨(some 4), .mv (.c (.int .i64 (-1))) false, none⟩] [4]) .ret)))
def c_slices_Index_bool_bool : AFunc := ⟨k_slices_Index_bool_bool, 19, [.t 4], [], [], []⟩
-- 78: slices.Contains[[]bool,bool]

def k_slices_Contains_bool_bool : ACode := (.seq (.reg [⟨(some 4), .mv (.c (.bool false)) false, none⟩] [0, 1]) (.seq (.reg [⟨(some 5), .mv (.t 0) true, none⟩,
  ⟨(some 6), .mv (.t 1) true, none⟩,
  ⟨(some 7), .callp f_slices_Index_bool_bool [(.t 5), (.t 6)] [(0, false)], none⟩,
  ⟨(some 8), .bin .geq .int (.t 7) (.c (.int .i64 0)), none⟩,
  ⟨(some 4), .mv (.t 8) true, none⟩] [4]) .ret))
def c_slices_Contains_bool_bool : AFunc := ⟨k_slices_Contains_bool_bool, 9, [.t 4], [], [], []⟩
-- 43: wagtail/seg.Fill
def bl_seg_Fill_0 : ACode := (.seq (.reg [⟨(some 38), .bin .lss .int (.t 37) (.t 36), none⟩] [4, 5, 8, 9, 10, 36, 37, 38]) (.seq (.cond (.t 38)
 .skip
 (.exit 1)) (.seq (.block 2 (.seq (.reg [⟨(some 39), .mv (.t 37) false, none⟩,
  ⟨(some 11), .mv (.t 39) true, none⟩] [4, 5, 8, 9, 10, 11, 36, 37]) (.seq (.reg [⟨(some 40), .mv (.t 10) false, none⟩,
  ⟨(some 41), .mv (.t 11) true, none⟩,
  ⟨(some 42), .callv (.t 40) [(.t 41)], none⟩,
  ⟨(some 43), .un .not (.t 42), none⟩] [4, 5, 8, 9, 10, 36, 37, 43]) (.cond (.t 43)
 (.seq (.reg [⟨(some 6), .mv (.c (.hn 1)) false, none⟩,
  ⟨(some 7), .mv (.c (.int .i64 3)) false, none⟩] [6, 7]) .ret)
 .skip)))) (.reg [⟨(some 44), .bin .add .int (.t 37) (.c (.int .i64 1)), none⟩,
  ⟨(some 37), .mv (.t 44) true, none⟩] [4, 5, 8, 9, 10, 36, 37]))))
def l_seg_Fill_0 : ACode := .loop [4, 5, 8, 9, 10, 36, 37] [] bl_seg_Fill_0
theorem L_seg_Fill_0 {T : Table} (ks : List Kt) (e : Env) (h : Heap) (Q : Ex → Env → Heap → Prop) : Xc T l_seg_Fill_0 ks e h Q = Xc T bl_seg_Fill_0 (.seq l_seg_Fill_0 :: ks) (e.keep [4, 5, 8, 9, 10, 36, 37]) h Q := Xc_loop ks _ e h Q _ _
def bl_seg_Fill_1 : ACode := (.seq (.reg [⟨(some 55), .bin .lss .int (.t 54) (.t 53), none⟩] [4, 8, 9, 12, 45, 46, 47, 52, 53, 54, 55]) (.seq (.cond (.t 55)
 .skip
 (.exit 5)) (.seq (.block 6 (.seq (.reg [⟨(some 56), .mv (.t 54) false, none⟩,
  ⟨(some 57), .ia (.sl 1) (.t 52) (.t 54), none⟩,
  ⟨(some 58), .load 0 (.t 57), none⟩,
  ⟨(some 14), .mv (.t 56) true, none⟩,
  ⟨(some 15), .mv (.t 58) true, none⟩] [4, 8, 9, 12, 14, 15, 45, 46, 47, 52, 53, 54]) (.seq (.reg [⟨(some 59), .load 0 (.t 4), none⟩,
  ⟨(some 60), .mv (.t 12) false, none⟩,
  ⟨(some 61), .ia (.sl 1) (.t 59) (.t 60), none⟩,
  ⟨(some 62), .load 0 (.t 61), none⟩,
  ⟨(some 63), .mv (.t 14) true, none⟩,
  ⟨(some 64), .bin .add .int (.t 62) (.t 63), none⟩,
  ⟨(some 16), .mv (.t 64) true, none⟩] [4, 8, 9, 12, 15, 16, 45, 46, 47, 52, 53, 54]) (.seq (.seq (.reg [⟨(some 65), .mv (.t 9) false, none⟩,
  ⟨(some 66), .mv (.t 16) false, none⟩,
  ⟨(some 67), .ia (.sl 1) (.t 65) (.t 66), none⟩,
  ⟨(some 68), .load 0 (.t 67), none⟩,
  ⟨(some 69), .mv (.t 68) true, none⟩,
  ⟨(some 70), .mv (.t 8) false, (some (69, true))⟩,
  ⟨(some 71), .mv (.t 16) false, (some (69, true))⟩,
  ⟨(some 72), .ia (.sl 1) (.t 70) (.t 71), (some (69, true))⟩,
  ⟨(some 73), .load 0 (.t 72), (some (69, true))⟩,
  ⟨(some 74), .mv (.t 15) false, (some (69, true))⟩,
  ⟨(some 75), .bin .neq .int (.t 73) (.t 74), (some (69, true))⟩,
  ⟨(some 76), .pick (.t 69) (.t 75) (.c (.bool false)), none⟩] [4, 8, 9, 12, 15, 16, 45, 46, 47, 52, 53, 54, 76]) (.cond (.t 76)
 (.seq (.reg [⟨(some 6), .mv (.c (.hn 1)) false, none⟩,
  ⟨(some 7), .mv (.c (.int .i64 6)) false, none⟩] [6, 7]) .ret)
 .skip)) (.reg [⟨(some 77), .mv (.t 8) false, none⟩,
  ⟨(some 78), .mv (.t 16) false, none⟩,
  ⟨(some 79), .mv (.t 9) false, none⟩,
  ⟨(some 80), .mv (.t 16) true, none⟩,
  ⟨(some 81), .mv (.t 15) true, none⟩,
  ⟨(some 82), .ia (.sl 1) (.t 77) (.t 78), none⟩,
  ⟨none, .store 1 (.t 82) (.t 81), none⟩,
  ⟨(some 83), .ia (.sl 1) (.t 79) (.t 80), none⟩,
  ⟨none, .store 1 (.t 83) (.c (.bool true)), none⟩] [4, 8, 9, 12, 45, 46, 47, 52, 53, 54]))))) (.reg [⟨(some 84), .bin .add .int (.t 54) (.c (.int .i64 1)), none⟩,
  ⟨(some 54), .mv (.t 84) true, none⟩] [4, 8, 9, 12, 45, 46, 47, 52, 53, 54]))))
def l_seg_Fill_1 : ACode := .loop [4, 8, 9, 12, 45, 46, 47, 52, 53, 54] [] bl_seg_Fill_1
theorem L_seg_Fill_1 {T : Table} (ks : List Kt) (e : Env) (h : Heap) (Q : Ex → Env → Heap → Prop) : Xc T l_seg_Fill_1 ks e h Q = Xc T bl_seg_Fill_1 (.seq l_seg_Fill_1 :: ks) (e.keep [4, 8, 9, 12, 45, 46, 47, 52, 53, 54]) h Q := Xc_loop ks _ e h Q _ _
def bl_seg_Fill_2 : ACode := (.seq (.reg [⟨(some 48), .bin .lss .int (.t 47) (.t 46), none⟩] [4, 8, 9, 45, 46, 47, 48]) (.seq (.cond (.t 48)
 .skip
 (.exit 3)) (.seq (.block 4 (.seq (.reg [⟨(some 49), .mv (.t 47) false, none⟩,
  ⟨(some 50), .ia (.sl 1) (.t 45) (.t 47), none⟩,
  ⟨(some 51), .load 0 (.t 50), none⟩,
  ⟨(some 12), .mv (.t 49) true, none⟩,
  ⟨(some 13), .mv (.t 51) true, none⟩] [4, 8, 9, 12, 13, 45, 46, 47]) (.seq (.reg [⟨(some 52), .mv (.t 13) true, none⟩,
  ⟨(some 53), .len false (.t 52), none⟩,
  ⟨(some 54), .mv (.c (.int .i64 0)) false, none⟩] [4, 8, 9, 12, 45, 46, 47, 52, 53, 54]) (.block 5 l_seg_Fill_1)))) (.reg [⟨(some 85), .bin .add .int (.t 47) (.c (.int .i64 1)), none⟩,
  ⟨(some 47), .mv (.t 85) true, none⟩] [4, 8, 9, 45, 46, 47]))))
def l_seg_Fill_2 : ACode := .loop [4, 8, 9, 45, 46, 47] [] bl_seg_Fill_2
theorem L_seg_Fill_2 {T : Table} (ks : List Kt) (e : Env) (h : Heap) (Q : Ex → Env → Heap → Prop) : Xc T l_seg_Fill_2 ks e h Q = Xc T bl_seg_Fill_2 (.seq l_seg_Fill_2 :: ks) (e.keep [4, 8, 9, 45, 46, 47]) h Q := Xc_loop ks _ e h Q _ _
def k_seg_Fill : ACode := (.seq (.reg [⟨(some 3), .box (.t 0), none⟩,
  ⟨(some 4), .box (.t 1), none⟩,
  ⟨(some 5), .box (.t 2), none⟩,
  ⟨(some 6), .mv (.c (.hn 1)) false, none⟩,
  ⟨(some 7), .mv (.c (.int .i64 0)) false, none⟩] [3, 4, 5]) (.seq (.block 0 (.seq (.reg [⟨(some 18), .load 0 (.t 3), none⟩,
  ⟨(some 19), .bin .lss .int (.t 18) (.c (.int .i64 0)), none⟩,
  ⟨(some 20), .mv (.t 19) true, none⟩,
  ⟨(some 21), .load 0 (.t 3), (some (20, false))⟩,
  ⟨(some 22), .bin .gtr .int (.t 21) (.c (.int .i64 3192)), (some (20, false))⟩,
  ⟨(some 23), .pick (.t 20) (.c (.bool true)) (.t 22), none⟩,
  ⟨(some 17), .mv (.t 23) true, none⟩] [3, 4, 5, 17]) (.cond (.t 17)
 (.seq (.reg [⟨(some 6), .mv (.c (.hn 1)) false, none⟩,
  ⟨(some 7), .mv (.c (.int .i64 3)) false, none⟩] [6, 7]) .ret)
 (.seq (.reg [⟨(some 25), .load 0 (.t 4), none⟩,
  ⟨(some 26), .len false (.t 25), none⟩,
  ⟨(some 27), .load 0 (.t 5), none⟩,
  ⟨(some 28), .len false (.t 27), none⟩,
  ⟨(some 29), .bin .neq .int (.t 26) (.t 28), none⟩,
  ⟨(some 24), .mv (.t 29) true, none⟩] [3, 4, 5, 24]) (.cond (.t 24)
 (.seq (.reg [⟨(some 6), .mv (.c (.hn 1)) false, none⟩,
  ⟨(some 7), .mv (.c (.int .i64 2)) false, none⟩] [6, 7]) .ret)
 .skip))))) (.seq (.regd [⟨(some 30), .load 0 (.t 3), none⟩,
  ⟨(some 31), .mksl 1 1 (.int .u8 0) (.t 30) (.t 30) true, none⟩,
  ⟨(some 32), .load 0 (.t 3), none⟩,
  ⟨(some 33), .mksl 1 1 (.bool false) (.t 32) (.t 32) true, none⟩,
  ⟨(some 8), .mv (.t 31) false, none⟩,
  ⟨(some 9), .mv (.t 33) false, none⟩] [3, 4, 5, 8, 9] [] [(0, 0, 1), (2, 0, 3)]) (.seq (.reg [⟨(some 34), .mkfn f_seg_Fill_1 [(.t 4), (.t 3), (.t 5)], none⟩,
  ⟨(some 10), .mv (.t 34) true, none⟩] [4, 5, 8, 9, 10]) (.seq (.seq (.reg [⟨(some 35), .load 0 (.t 5), none⟩,
  ⟨(some 36), .len false (.t 35), none⟩,
  ⟨(some 37), .mv (.c (.int .i64 0)) false, none⟩] [4, 5, 8, 9, 10, 36, 37]) (.block 1 l_seg_Fill_0)) (.seq (.seq (.reg [⟨(some 45), .load 0 (.t 5), none⟩,
  ⟨(some 46), .len false (.t 45), none⟩,
  ⟨(some 47), .mv (.c (.int .i64 0)) false, none⟩] [4, 8, 9, 45, 46, 47]) (.block 3 l_seg_Fill_2)) (.seq (.seq (.reg [⟨(some 86), .mv (.t 9) true, none⟩,
  ⟨(some 87), .callp f_slices_Contains_bool_bool [(.t 86), (.c (.bool false))] [(0, false)], none⟩] [8, 87]) (.cond (.t 87)
 (.seq (.reg [⟨(some 6), .mv (.c (.hn 1)) false, none⟩,
  ⟨(some 7), .mv (.c (.int .i64 8)) false, none⟩] [6, 7]) .ret)
 .skip)) (.seq (.reg [⟨(some 88), .mv (.t 8) true, none⟩,
  ⟨(some 6), .mv (.t 88) true, none⟩,
  ⟨(some 7), .mv (.c (.int .i64 0)) false, none⟩] [6, 7]) .ret))))))))
def c_seg_Fill : AFunc := ⟨k_seg_Fill, 89, [.t 6, .t 7], [], [], [(0, false)]⟩
-- 40: wagtail/seg.Last

def k_seg_Last : ACode := (.seq (.reg [⟨(some 4), .mv (.c (.bool false)) false, none⟩] [0, 1]) (.seq (.reg [⟨(some 5), .mv (.t 1) false, none⟩,
  ⟨(some 6), .bin .geq .int (.t 5) (.c (.int .i64 0)), none⟩,
  ⟨(some 7), .mv (.t 6) true, none⟩,
  ⟨(some 8), .mv (.t 1) true, (some (7, true))⟩,
  ⟨(some 9), .mv (.t 0) true, (some (7, true))⟩,
  ⟨(some 10), .callp f_index_Frames [(.t 9)] [], (some (7, true))⟩,
  ⟨(some 11), .bin .sub .int (.t 10) (.c (.int .i64 1)), (some (7, true))⟩,
  ⟨(some 12), .bin .eql .int (.t 8) (.t 11), (some (7, true))⟩,
  ⟨(some 13), .pick (.t 7) (.t 12) (.c (.bool false)), none⟩,
  ⟨(some 4), .mv (.t 13) true, none⟩] [4]) .ret))
def c_seg_Last : AFunc := ⟨k_seg_Last, 14, [.t 4], [], [], []⟩
-- 44: wagtail/seg.Join
def bl_seg_Join_0 : ACode := (.seq (.reg [⟨(some 9), .bin .lss .int (.t 8) (.t 7), none⟩] [3, 6, 7, 8, 9]) (.seq (.cond (.t 9)
 .skip
 (.exit 0)) (.seq (.block 1 (.seq (.reg [⟨(some 10), .ia (.sl 1) (.t 6) (.t 8), none⟩,
  ⟨(some 11), .load 0 (.t 10), none⟩,
  ⟨(some 5), .mv (.t 11) true, none⟩] [3, 5, 6, 7, 8]) (.reg [⟨(some 12), .mv (.t 3) true, none⟩,
  ⟨(some 13), .mv (.t 5) true, none⟩,
  ⟨(some 14), .app 1 1 (.t 12) (.t 13), none⟩,
  ⟨(some 3), .mv (.t 14) true, none⟩] [3, 6, 7, 8]))) (.reg [⟨(some 15), .bin .add .int (.t 8) (.c (.int .i64 1)), none⟩,
  ⟨(some 8), .mv (.t 15) true, none⟩] [3, 6, 7, 8]))))
def l_seg_Join_0 : ACode := .loop [3, 6, 7, 8] [(3, 0)] bl_seg_Join_0
theorem L_seg_Join_0 {T : Table} (ks : List Kt) (e : Env) (h : Heap) (Q : Ex → Env → Heap → Prop) : Xc T l_seg_Join_0 ks e h Q = Xc T bl_seg_Join_0 (.seq l_seg_Join_0 :: ks) (e.keep [3, 6, 7, 8]) h Q := Xc_loop ks _ e h Q _ _
def k_seg_Join : ACode := (.seq (.reg [⟨(some 2), .mv (.c (.ps 1 [])) false, none⟩] [0]) (.seq (.reg [⟨(some 3), .mv (.c (.ps 1 [])) false, none⟩] [0, 3]) (.seq (.seq (.reg [⟨(some 6), .mv (.t 0) true, none⟩,
  ⟨(some 7), .len false (.t 6), none⟩,
  ⟨(some 8), .mv (.c (.int .i64 0)) false, none⟩] [3, 6, 7, 8]) (.block 0 l_seg_Join_0)) (.seq (.reg [⟨(some 16), .mv (.t 3) true, none⟩,
  ⟨(some 2), .mv (.t 16) true, none⟩] [2]) .ret))))
def c_seg_Join : AFunc := ⟨k_seg_Join, 17, [.t 2], [], [0], []⟩
-- 37: wagtail/wagtaillaw31.awake

def k_law31_awake : ACode := (.seq (.reg [⟨(some 0), .mv (.c (.bool false)) false, none⟩] []) (.seq (.reg [⟨(some 6), .mksl 1 1 (.int .u8 0) (.c (.int .i64 250)) (.c (.int .i64 250)) false, none⟩,
  ⟨(some 7), .callp f_seg_Cut [(.t 6)] [], none⟩,
  ⟨(some 1), .mv (.t 7) true, none⟩] [1]) (.seq (.reg [⟨(some 9), .bsl 1 [(.c (.int .u8 97)), (.c (.int .u8 98)), (.c (.int .u8 99))] true, none⟩,
  ⟨(some 10), .lit (.t 9), none⟩,
  ⟨(some 11), .callp f_seg_Part [(.t 10), (.c (.int .i64 0))] [], none⟩,
  ⟨(some 8), .mv (.t 11) true, none⟩,
  ⟨(some 12), .ext (.t 8) 0, none⟩,
  ⟨(some 13), .ext (.t 8) 1, none⟩,
  ⟨(some 2), .mv (.t 12) true, none⟩,
  ⟨(some 3), .mv (.t 13) true, none⟩] [1, 2, 3]) (.seq (.reg [⟨(some 15), .bsl 1 [(.c (.int .i64 1)), (.c (.int .i64 0))] false, none⟩,
  ⟨(some 16), .bsl 1 [(.c (.int .u8 98)), (.c (.int .u8 99))] true, none⟩,
  ⟨(some 17), .lit (.t 16), none⟩,
  ⟨(some 18), .bsl 1 [(.c (.int .u8 97)), (.c (.int .u8 98))] true, none⟩,
  ⟨(some 19), .lit (.t 18), none⟩,
  ⟨(some 20), .bsl 1 [(.t 17), (.t 19)] false, none⟩,
  ⟨(some 21), .callp f_seg_Fill [(.c (.int .i64 3)), (.t 15), (.t 20)] [], none⟩,
  ⟨(some 14), .mv (.t 21) true, none⟩,
  ⟨(some 22), .ext (.t 14) 0, none⟩,
  ⟨(some 23), .ext (.t 14) 1, none⟩,
  ⟨(some 4), .mv (.t 22) true, none⟩,
  ⟨(some 5), .mv (.t 23) true, none⟩] [1, 2, 3, 4, 5]) (.seq (.reg [⟨(some 24), .mv (.t 1) false, none⟩,
  ⟨(some 25), .len false (.t 24), none⟩,
  ⟨(some 26), .bin .eql .int (.t 25) (.c (.int .i64 3)), none⟩,
  ⟨(some 27), .mv (.t 26) true, none⟩,
  ⟨(some 28), .mv (.t 1) true, (some (27, true))⟩,
  ⟨(some 29), .ia (.sl 1) (.t 28) (.c (.int .i64 2)), (some (27, true))⟩,
  ⟨(some 30), .load 0 (.t 29), (some (27, true))⟩,
  ⟨(some 31), .len false (.t 30), (some (27, true))⟩,
  ⟨(some 32), .bin .eql .int (.t 31) (.c (.int .i64 50)), (some (27, true))⟩,
  ⟨(some 33), .pick (.t 27) (.t 32) (.c (.bool false)), none⟩,
  ⟨(some 34), .mv (.t 33) true, none⟩,
  ⟨(some 35), .mv (.t 2) true, (some (34, true))⟩,
  ⟨(some 36), .conv .bs (.t 35), (some (34, true))⟩,
  ⟨(some 37), .bin .eql .str (.t 36) (.c (.str [97, 98, 99])), (some (34, true))⟩,
  ⟨(some 38), .pick (.t 34) (.t 37) (.c (.bool false)), none⟩,
  ⟨(some 39), .mv (.t 38) true, none⟩,
  ⟨(some 40), .mv (.t 3) true, (some (39, true))⟩,
  ⟨(some 41), .bin .eql .int (.t 40) (.c (.int .i64 0)), (some (39, true))⟩,
  ⟨(some 42), .pick (.t 39) (.t 41) (.c (.bool false)), none⟩,
  ⟨(some 43), .mv (.t 42) true, none⟩,
  ⟨(some 44), .mv (.t 4) true, (some (43, true))⟩,
  ⟨(some 45), .conv .bs (.t 44), (some (43, true))⟩,
  ⟨(some 46), .bin .eql .str (.t 45) (.c (.str [97, 98, 99])), (some (43, true))⟩,
  ⟨(some 47), .pick (.t 43) (.t 46) (.c (.bool false)), none⟩,
  ⟨(some 48), .mv (.t 47) true, none⟩,
  ⟨(some 49), .mv (.t 5) true, (some (48, true))⟩,
  ⟨(some 50), .bin .eql .int (.t 49) (.c (.int .i64 0)), (some (48, true))⟩,
  ⟨(some 51), .pick (.t 48) (.t 50) (.c (.bool false)), none⟩,
  ⟨(some 52), .mv (.t 51) true, none⟩,
  ⟨(some 53), .callp f_seg_Offset [(.c (.int .i64 2))] [], (some (52, true))⟩,
  ⟨(some 54), .bin .eql .int (.t 53) (.c (.int .i64 200)), (some (52, true))⟩,
  ⟨(some 55), .pick (.t 52) (.t 54) (.c (.bool false)), none⟩,
  ⟨(some 56), .mv (.t 55) true, none⟩,
  ⟨(some 57), .callp f_seg_Last [(.c (.int .i64 250)), (.c (.int .i64 2))] [], (some (56, true))⟩,
  ⟨(some 58), .pick (.t 56) (.t 57) (.c (.bool false)), none⟩,
  ⟨(some 59), .mv (.t 58) true, none⟩,
  ⟨(some 60), .bsl 1 [(.c (.int .u8 97))] true, (some (59, true))⟩,
  ⟨(some 61), .lit (.t 60), (some (59, true))⟩,
  ⟨(some 62), .bsl 1 [(.c (.int .u8 98))] true, (some (59, true))⟩,
  ⟨(some 63), .lit (.t 62), (some (59, true))⟩,
  ⟨(some 64), .bsl 1 [(.t 61), (.t 63)] false, (some (59, true))⟩,
  ⟨(some 65), .callp f_seg_Join [(.t 64)] [], (some (59, true))⟩,
  ⟨(some 66), .conv .bs (.t 65), (some (59, true))⟩,
  ⟨(some 67), .bin .eql .str (.t 66) (.c (.str [97, 98])), (some (59, true))⟩,
  ⟨(some 68), .pick (.t 59) (.t 67) (.c (.bool false)), none⟩,
  ⟨(some 0), .mv (.t 68) true, none⟩] [0]) .ret)))))
def c_law31_awake : AFunc := ⟨k_law31_awake, 69, [.t 0], [], [], []⟩
-- 39: wagtail/wagtailref31.Part

def k_ref31_Part : ACode := (.seq (.reg [⟨(some 4), .mv (.c (.str [])) false, none⟩] [0, 1]) (.seq (.reg [⟨(some 5), .mv (.t 0) false, none⟩,
  ⟨(some 6), .mv (.t 1) false, none⟩,
  ⟨(some 7), .bin .mul .int (.c (.int .i64 100)) (.t 6), none⟩,
  ⟨(some 8), .mv (.t 1) true, none⟩,
  ⟨(some 9), .bin .mul .int (.c (.int .i64 100)) (.t 8), none⟩,
  ⟨(some 10), .bin .add .int (.t 9) (.c (.int .i64 100)), none⟩,
  ⟨(some 11), .mv (.t 0) true, none⟩,
  ⟨(some 12), .len true (.t 11), none⟩,
  ⟨(some 13), .callp f_ref01_Low [(.t 10), (.t 12)] [], none⟩,
  ⟨(some 14), .sl .str (.t 5) (some (.t 7)) (some (.t 13)) none false, none⟩,
  ⟨(some 4), .mv (.t 14) true, none⟩] [4]) .ret))
def c_ref31_Part : AFunc := ⟨k_ref31_Part, 15, [.t 4], [], [], []⟩
-- 7: wagtail/wagtaillaw31.SegCuts
def bl_law31_SegCuts_0 : ACode := (.seq (.seq (.reg [⟨(some 27), .mv (.t 9) false, none⟩,
  ⟨(some 28), .mv (.t 6) false, none⟩,
  ⟨(some 29), .bin .lss .int (.t 27) (.t 28), none⟩] [0, 1, 5, 6, 7, 8, 9, 29]) (.cond (.t 29)
 .skip
 (.exit 0))) (.seq (.block 1 (.seq (.seq (.regd [⟨(some 32), .mv (.t 5) false, none⟩,
  ⟨(some 33), .mv (.t 9) false, none⟩,
  ⟨(some 34), .ia (.sl 1) (.t 32) (.t 33), none⟩,
  ⟨(some 35), .load 0 (.t 34), none⟩,
  ⟨(some 36), .conv .bs (.t 35), none⟩,
  ⟨(some 37), .mv (.t 0) false, none⟩,
  ⟨(some 38), .conv .bs (.t 37), none⟩,
  ⟨(some 39), .mv (.t 9) false, none⟩,
  ⟨(some 40), .callp f_ref31_Part [(.t 38), (.t 39)] [], none⟩,
  ⟨(some 41), .bin .neq .str (.t 36) (.t 40), none⟩,
  ⟨(some 42), .mv (.t 41) false, none⟩,
  ⟨(some 43), .mv (.t 0) false, (some (42, false))⟩,
  ⟨(some 44), .len false (.t 43), (some (42, false))⟩,
  ⟨(some 45), .mv (.t 9) false, (some (42, false))⟩,
  ⟨(some 46), .callp f_seg_Last [(.t 44), (.t 45)] [], (some (42, false))⟩,
  ⟨(some 47), .mv (.t 9) false, (some (42, false))⟩,
  ⟨(some 48), .mv (.t 6) false, (some (42, false))⟩,
  ⟨(some 49), .bin .sub .int (.t 48) (.c (.int .i64 1)), (some (42, false))⟩,
  ⟨(some 50), .bin .eql .int (.t 47) (.t 49), (some (42, false))⟩,
  ⟨(some 51), .bin .neq .bool (.t 46) (.t 50), (some (42, false))⟩,
  ⟨(some 52), .pick (.t 42) (.c (.bool true)) (.t 51), none⟩,
  ⟨(some 53), .mv (.t 52) false, none⟩,
  ⟨(some 54), .mv (.t 9) false, (some (53, false))⟩,
  ⟨(some 55), .callp f_seg_Offset [(.t 54)] [], (some (53, false))⟩,
  ⟨(some 56), .mv (.t 9) false, (some (53, false))⟩,
  ⟨(some 57), .bin .mul .int (.c (.int .i64 100)) (.t 56), (some (53, false))⟩,
  ⟨(some 58), .bin .neq .int (.t 55) (.t 57), (some (53, false))⟩,
  ⟨(some 59), .pick (.t 53) (.c (.bool true)) (.t 58), none⟩] [0, 1, 5, 6, 7, 8, 9, 59] [(7, 0), (8, 0)] []) (.cond (.t 59)
 (.seq (.reg [⟨(some 4), .mv (.c (.bool false)) false, none⟩] [4]) .ret)
 .skip)) (.seq (.reg [⟨(some 60), .mv (.t 9) false, none⟩,
  ⟨(some 61), .bin .mul .int (.c (.int .i64 100)) (.t 60), none⟩,
  ⟨(some 62), .bsl 1 [(.t 61)] false, none⟩,
  ⟨(some 63), .mv (.t 7) true, none⟩,
  ⟨(some 64), .app 1 8 (.t 62) (.t 63), none⟩,
  ⟨(some 7), .mv (.t 64) true, none⟩] [0, 1, 5, 6, 7, 8, 9]) (.reg [⟨(some 65), .mv (.t 5) false, none⟩,
  ⟨(some 66), .mv (.t 9) false, none⟩,
  ⟨(some 67), .ia (.sl 1) (.t 65) (.t 66), none⟩,
  ⟨(some 68), .load 0 (.t 67), none⟩,
  ⟨(some 69), .bsl 1 [(.t 68)] false, none⟩,
  ⟨(some 70), .mv (.t 8) true, none⟩,
  ⟨(some 71), .app 1 24 (.t 69) (.t 70), none⟩,
  ⟨(some 8), .mv (.t 71) true, none⟩] [0, 1, 5, 6, 7, 8, 9])))) (.reg [⟨(some 30), .mv (.t 9) true, none⟩,
  ⟨(some 31), .bin .add .int (.t 30) (.c (.int .i64 1)), none⟩,
  ⟨(some 9), .mv (.t 31) true, none⟩] [0, 1, 5, 6, 7, 8, 9])))
def l_law31_SegCuts_0 : ACode := .loop [0, 1, 5, 6, 7, 8, 9] [(7, 0), (8, 0)] bl_law31_SegCuts_0
theorem L_law31_SegCuts_0 {T : Table} (ks : List Kt) (e : Env) (h : Heap) (Q : Ex → Env → Heap → Prop) : Xc T l_law31_SegCuts_0 ks e h Q = Xc T bl_law31_SegCuts_0 (.seq l_law31_SegCuts_0 :: ks) (e.keep [0, 1, 5, 6, 7, 8, 9]) h Q := Xc_loop ks _ e h Q _ _
def k_law31_SegCuts : ACode := (.seq (.reg [⟨(some 4), .mv (.c (.bool false)) false, none⟩] [0, 1]) (.seq (.seq (.reg [⟨(some 14), .mv (.t 0) false, none⟩,
  ⟨(some 15), .len false (.t 14), none⟩,
  ⟨(some 16), .bin .gtr .int (.t 15) (.c (.int .i64 3192)), none⟩] [0, 1, 16]) (.cond (.t 16)
 (.seq (.reg [⟨(some 17), .callp f_law31_awake [] [], none⟩,
  ⟨(some 4), .mv (.t 17) true, none⟩] [4]) .ret)
 .skip)) (.seq (.reg [⟨(some 18), .mv (.t 0) false, none⟩,
  ⟨(some 19), .callp f_seg_Cut [(.t 18)] [], none⟩,
  ⟨(some 5), .mv (.t 19) true, none⟩] [0, 1, 5]) (.seq (.reg [⟨(some 20), .mv (.t 0) false, none⟩,
  ⟨(some 21), .len false (.t 20), none⟩,
  ⟨(some 22), .callp f_ref27_Frames [(.t 21)] [], none⟩,
  ⟨(some 6), .mv (.t 22) true, none⟩] [0, 1, 5, 6]) (.seq (.seq (.reg [⟨(some 23), .mv (.t 5) false, none⟩,
  ⟨(some 24), .len false (.t 23), none⟩,
  ⟨(some 25), .mv (.t 6) false, none⟩,
  ⟨(some 26), .bin .neq .int (.t 24) (.t 25), none⟩] [0, 1, 5, 6, 26]) (.cond (.t 26)
 (.seq (.reg [⟨(some 4), .mv (.c (.bool false)) false, none⟩] [4]) .ret)
 .skip)) (.seq (.reg [⟨(some 7), .mv (.c (.ps 1 [])) false, none⟩] [0, 1, 5, 6, 7]) (.seq (.reg [⟨(some 8), .mv (.c (.ps 1 [])) false, none⟩] [0, 1, 5, 6, 7, 8]) (.seq (.seq (.reg [⟨(some 9), .mv (.c (.int .i64 0)) false, none⟩] [0, 1, 5, 6, 7, 8, 9]) (.block 0 l_law31_SegCuts_0)) (.seq (.reg [⟨(some 73), .mv (.t 0) false, none⟩,
  ⟨(some 74), .mv (.t 1) false, none⟩,
  ⟨(some 75), .callp f_seg_Part [(.t 73), (.t 74)] [], none⟩,
  ⟨(some 72), .mv (.t 75) true, none⟩,
  ⟨(some 76), .ext (.t 72) 0, none⟩,
  ⟨(some 77), .ext (.t 72) 1, none⟩,
  ⟨(some 10), .mv (.t 76) true, none⟩,
  ⟨(some 11), .mv (.t 77) true, none⟩] [0, 1, 5, 6, 7, 8, 10, 11]) (.seq (.seq (.reg [⟨(some 78), .mv (.t 1) false, none⟩,
  ⟨(some 79), .bin .lss .int (.t 78) (.c (.int .i64 0)), none⟩,
  ⟨(some 80), .mv (.t 79) true, none⟩,
  ⟨(some 81), .mv (.t 1) false, (some (80, false))⟩,
  ⟨(some 82), .mv (.t 6) true, (some (80, false))⟩,
  ⟨(some 83), .bin .geq .int (.t 81) (.t 82), (some (80, false))⟩,
  ⟨(some 84), .pick (.t 80) (.c (.bool true)) (.t 83), none⟩] [0, 1, 5, 7, 8, 10, 11, 84]) (.cond (.t 84)
 (.seq (.reg [⟨(some 85), .mv (.t 10) true, none⟩,
  ⟨(some 86), .len false (.t 85), none⟩,
  ⟨(some 87), .bin .neq .int (.t 86) (.c (.int .i64 0)), none⟩,
  ⟨(some 88), .mv (.t 87) true, none⟩,
  ⟨(some 89), .mv (.t 11) true, (some (88, false))⟩,
  ⟨(some 90), .bin .neq .int (.t 89) (.c (.int .i64 3)), (some (88, false))⟩,
  ⟨(some 91), .pick (.t 88) (.c (.bool true)) (.t 90), none⟩,
  ⟨(some 92), .mv (.t 91) true, none⟩,
  ⟨(some 93), .mv (.t 0) false, (some (92, false))⟩,
  ⟨(some 94), .len false (.t 93), (some (92, false))⟩,
  ⟨(some 95), .mv (.t 1) true, (some (92, false))⟩,
  ⟨(some 96), .callp f_seg_Last [(.t 94), (.t 95)] [], (some (92, false))⟩,
  ⟨(some 97), .pick (.t 92) (.c (.bool true)) (.t 96), none⟩] [0, 5, 7, 8, 97]) (.cond (.t 97)
 (.seq (.reg [⟨(some 4), .mv (.c (.bool false)) false, none⟩] [4]) .ret)
 .skip))
 (.seq (.regd [⟨(some 98), .mv (.t 10) false, none⟩,
  ⟨(some 99), .conv .bs (.t 98), none⟩,
  ⟨(some 100), .mv (.t 0) false, none⟩,
  ⟨(some 101), .conv .bs (.t 100), none⟩,
  ⟨(some 102), .mv (.t 1) false, none⟩,
  ⟨(some 103), .callp f_ref31_Part [(.t 101), (.t 102)] [], none⟩,
  ⟨(some 104), .bin .neq .str (.t 99) (.t 103), none⟩,
  ⟨(some 105), .mv (.t 104) false, none⟩,
  ⟨(some 106), .mv (.t 11) false, (some (105, false))⟩,
  ⟨(some 107), .bin .neq .int (.t 106) (.c (.int .i64 0)), (some (105, false))⟩,
  ⟨(some 108), .pick (.t 105) (.c (.bool true)) (.t 107), none⟩] [0, 5, 7, 8, 108] [(7, 0), (8, 0)] []) (.cond (.t 108)
 (.seq (.reg [⟨(some 4), .mv (.c (.bool false)) false, none⟩] [4]) .ret)
 .skip)))) (.seq (.reg [⟨(some 110), .mv (.t 0) false, none⟩,
  ⟨(some 111), .len false (.t 110), none⟩,
  ⟨(some 112), .mv (.t 7) true, none⟩,
  ⟨(some 113), .mv (.t 8) true, none⟩,
  ⟨(some 114), .callp f_seg_Fill [(.t 111), (.t 112), (.t 113)] [], none⟩,
  ⟨(some 109), .mv (.t 114) true, none⟩,
  ⟨(some 115), .ext (.t 109) 0, none⟩,
  ⟨(some 116), .ext (.t 109) 1, none⟩,
  ⟨(some 12), .mv (.t 115) true, none⟩,
  ⟨(some 13), .mv (.t 116) true, none⟩] [0, 5, 12, 13]) (.seq (.regd [⟨(some 117), .callp f_law31_awake [] [], none⟩,
  ⟨(some 118), .mv (.t 117) false, none⟩,
  ⟨(some 119), .mv (.t 5) false, (some (118, true))⟩,
  ⟨(some 120), .callp f_seg_Join [(.t 119)] [], (some (118, true))⟩,
  ⟨(some 121), .conv .bs (.t 120), (some (118, true))⟩,
  ⟨(some 122), .mv (.t 0) false, (some (118, true))⟩,
  ⟨(some 123), .conv .bs (.t 122), (some (118, true))⟩,
  ⟨(some 124), .bin .eql .str (.t 121) (.t 123), (some (118, true))⟩,
  ⟨(some 125), .pick (.t 118) (.t 124) (.c (.bool false)), none⟩,
  ⟨(some 126), .mv (.t 125) false, none⟩,
  ⟨(some 127), .mv (.t 12) false, (some (126, true))⟩,
  ⟨(some 128), .conv .bs (.t 127), (some (126, true))⟩,
  ⟨(some 129), .mv (.t 0) false, (some (126, true))⟩,
  ⟨(some 130), .conv .bs (.t 129), (some (126, true))⟩,
  ⟨(some 131), .bin .eql .str (.t 128) (.t 130), (some (126, true))⟩,
  ⟨(some 132), .pick (.t 126) (.t 131) (.c (.bool false)), none⟩,
  ⟨(some 133), .mv (.t 132) false, none⟩,
  ⟨(some 134), .mv (.t 13) false, (some (133, true))⟩,
  ⟨(some 135), .bin .eql .int (.t 134) (.c (.int .i64 0)), (some (133, true))⟩,
  ⟨(some 136), .pick (.t 133) (.t 135) (.c (.bool false)), none⟩,
  ⟨(some 4), .mv (.t 136) false, none⟩] [4] [] []) .ret))))))))))))
def c_law31_SegCuts : AFunc := ⟨k_law31_SegCuts, 137, [.t 4], [], [], []⟩
-- 45: wagtail/wagtailref31.Fill
def bl_ref31_Fill_0 : ACode := (.seq (.seq (.reg [⟨(some 15), .mv (.t 8) false, none⟩,
  ⟨(some 16), .mv (.t 2) false, none⟩,
  ⟨(some 17), .len false (.t 16), none⟩,
  ⟨(some 18), .bin .lss .int (.t 15) (.t 17), none⟩] [0, 1, 2, 8, 18]) (.cond (.t 18)
 .skip
 (.exit 0))) (.seq (.block 1 (.seq (.regd [⟨(some 21), .mv (.t 1) false, none⟩,
  ⟨(some 22), .mv (.t 8) false, none⟩,
  ⟨(some 23), .ia (.sl 1) (.t 21) (.t 22), none⟩,
  ⟨(some 24), .load 0 (.t 23), none⟩,
  ⟨(some 25), .bin .lss .int (.t 24) (.c (.int .i64 0)), none⟩,
  ⟨(some 26), .mv (.t 25) false, none⟩,
  ⟨(some 27), .mv (.t 1) false, (some (26, false))⟩,
  ⟨(some 28), .mv (.t 8) false, (some (26, false))⟩,
  ⟨(some 29), .ia (.sl 1) (.t 27) (.t 28), (some (26, false))⟩,
  ⟨(some 30), .load 0 (.t 29), (some (26, false))⟩,
  ⟨(some 31), .mv (.t 0) false, (some (26, false))⟩,
  ⟨(some 32), .bin .gtr .int (.t 30) (.t 31), (some (26, false))⟩,
  ⟨(some 33), .pick (.t 26) (.c (.bool true)) (.t 32), none⟩,
  ⟨(some 34), .mv (.t 33) false, none⟩,
  ⟨(some 35), .mv (.t 2) false, (some (34, false))⟩,
  ⟨(some 36), .mv (.t 8) false, (some (34, false))⟩,
  ⟨(some 37), .ia (.sl 1) (.t 35) (.t 36), (some (34, false))⟩,
  ⟨(some 38), .load 0 (.t 37), (some (34, false))⟩,
  ⟨(some 39), .len false (.t 38), (some (34, false))⟩,
  ⟨(some 40), .mv (.t 0) false, (some (34, false))⟩,
  ⟨(some 41), .mv (.t 1) false, (some (34, false))⟩,
  ⟨(some 42), .mv (.t 8) false, (some (34, false))⟩,
  ⟨(some 43), .ia (.sl 1) (.t 41) (.t 42), (some (34, false))⟩,
  ⟨(some 44), .load 0 (.t 43), (some (34, false))⟩,
  ⟨(some 45), .bin .sub .int (.t 40) (.t 44), (some (34, false))⟩,
  ⟨(some 46), .bin .gtr .int (.t 39) (.t 45), (some (34, false))⟩,
  ⟨(some 47), .pick (.t 34) (.c (.bool true)) (.t 46), none⟩] [0, 1, 2, 8, 47] [] []) (.cond (.t 47)
 (.seq (.reg [⟨(some 6), .mv (.c (.str [])) false, none⟩,
  ⟨(some 7), .mv (.c (.int .i64 3)) false, none⟩] [6, 7]) .ret)
 .skip))) (.reg [⟨(some 19), .mv (.t 8) true, none⟩,
  ⟨(some 20), .bin .add .int (.t 19) (.c (.int .i64 1)), none⟩,
  ⟨(some 8), .mv (.t 20) true, none⟩] [0, 1, 2, 8])))
def l_ref31_Fill_0 : ACode := .loop [0, 1, 2, 8] [] bl_ref31_Fill_0
theorem L_ref31_Fill_0 {T : Table} (ks : List Kt) (e : Env) (h : Heap) (Q : Ex → Env → Heap → Prop) : Xc T l_ref31_Fill_0 ks e h Q = Xc T bl_ref31_Fill_0 (.seq l_ref31_Fill_0 :: ks) (e.keep [0, 1, 2, 8]) h Q := Xc_loop ks _ e h Q _ _
def bl_ref31_Fill_1 : ACode := (.seq (.seq (.reg [⟨(some 53), .mv (.t 13) false, none⟩,
  ⟨(some 54), .mv (.t 2) false, none⟩,
  ⟨(some 55), .len false (.t 54), none⟩,
  ⟨(some 56), .bin .lss .int (.t 53) (.t 55), none⟩] [0, 1, 2, 9, 10, 11, 12, 13, 56]) (.cond (.t 56)
 .skip
 (.exit 4))) (.seq (.block 5 (.seq (.seq (.regd [⟨(some 59), .mv (.t 11) false, none⟩,
  ⟨(some 60), .mv (.t 1) false, none⟩,
  ⟨(some 61), .mv (.t 13) false, none⟩,
  ⟨(some 62), .ia (.sl 1) (.t 60) (.t 61), none⟩,
  ⟨(some 63), .load 0 (.t 62), none⟩,
  ⟨(some 64), .bin .lss .int (.t 59) (.t 63), none⟩,
  ⟨(some 65), .mv (.t 64) false, none⟩,
  ⟨(some 66), .mv (.t 11) false, (some (65, false))⟩,
  ⟨(some 67), .mv (.t 1) false, (some (65, false))⟩,
  ⟨(some 68), .mv (.t 13) false, (some (65, false))⟩,
  ⟨(some 69), .ia (.sl 1) (.t 67) (.t 68), (some (65, false))⟩,
  ⟨(some 70), .load 0 (.t 69), (some (65, false))⟩,
  ⟨(some 71), .bin .sub .int (.t 66) (.t 70), (some (65, false))⟩,
  ⟨(some 72), .mv (.t 2) false, (some (65, false))⟩,
  ⟨(some 73), .mv (.t 13) false, (some (65, false))⟩,
  ⟨(some 74), .ia (.sl 1) (.t 72) (.t 73), (some (65, false))⟩,
  ⟨(some 75), .load 0 (.t 74), (some (65, false))⟩,
  ⟨(some 76), .len false (.t 75), (some (65, false))⟩,
  ⟨(some 77), .bin .geq .int (.t 71) (.t 76), (some (65, false))⟩,
  ⟨(some 78), .pick (.t 65) (.c (.bool true)) (.t 77), none⟩] [0, 1, 2, 9, 10, 11, 12, 13, 78] [] []) (.cond (.t 78)
 (.exit 5)
 .skip)) (.seq (.regd [⟨(some 79), .mv (.t 2) false, none⟩,
  ⟨(some 80), .mv (.t 13) false, none⟩,
  ⟨(some 81), .ia (.sl 1) (.t 79) (.t 80), none⟩,
  ⟨(some 82), .load 0 (.t 81), none⟩,
  ⟨(some 83), .mv (.t 11) false, none⟩,
  ⟨(some 84), .mv (.t 1) false, none⟩,
  ⟨(some 85), .mv (.t 13) false, none⟩,
  ⟨(some 86), .ia (.sl 1) (.t 84) (.t 85), none⟩,
  ⟨(some 87), .load 0 (.t 86), none⟩,
  ⟨(some 88), .bin .sub .int (.t 83) (.t 87), none⟩,
  ⟨(some 89), .ia (.sl 1) (.t 82) (.t 88), none⟩,
  ⟨(some 90), .load 0 (.t 89), none⟩,
  ⟨(some 91), .conv (.i .i64) (.t 90), none⟩,
  ⟨(some 14), .mv (.t 91) false, none⟩] [0, 1, 2, 9, 10, 11, 12, 13, 14] [] []) (.seq (.seq (.reg [⟨(some 92), .mv (.t 12) false, none⟩,
  ⟨(some 93), .bin .geq .int (.t 92) (.c (.int .i64 0)), none⟩,
  ⟨(some 94), .mv (.t 93) true, none⟩,
  ⟨(some 95), .mv (.t 12) true, (some (94, true))⟩,
  ⟨(some 96), .mv (.t 14) false, (some (94, true))⟩,
  ⟨(some 97), .bin .neq .int (.t 95) (.t 96), (some (94, true))⟩,
  ⟨(some 98), .pick (.t 94) (.t 97) (.c (.bool false)), none⟩] [0, 1, 2, 9, 10, 11, 13, 14, 98]) (.cond (.t 98)
 (.seq (.reg [⟨(some 6), .mv (.c (.str [])) false, none⟩,
  ⟨(some 7), .mv (.c (.int .i64 6)) false, none⟩] [6, 7]) .ret)
 .skip)) (.reg [⟨(some 99), .mv (.t 14) true, none⟩,
  ⟨(some 12), .mv (.t 99) true, none⟩] [0, 1, 2, 9, 10, 11, 12, 13]))))) (.reg [⟨(some 57), .mv (.t 13) true, none⟩,
  ⟨(some 58), .bin .add .int (.t 57) (.c (.int .i64 1)), none⟩,
  ⟨(some 13), .mv (.t 58) true, none⟩] [0, 1, 2, 9, 10, 11, 12, 13])))
def l_ref31_Fill_1 : ACode := .loop [0, 1, 2, 9, 10, 11, 12, 13] [] bl_ref31_Fill_1
theorem L_ref31_Fill_1 {T : Table} (ks : List Kt) (e : Env) (h : Heap) (Q : Ex → Env → Heap → Prop) : Xc T l_ref31_Fill_1 ks e h Q = Xc T bl_ref31_Fill_1 (.seq l_ref31_Fill_1 :: ks) (e.keep [0, 1, 2, 9, 10, 11, 12, 13]) h Q := Xc_loop ks _ e h Q _ _
def bl_ref31_Fill_2 : ACode := (.seq (.seq (.reg [⟨(some 48), .mv (.t 11) false, none⟩,
  ⟨(some 49), .mv (.t 0) false, none⟩,
  ⟨(some 50), .bin .lss .int (.t 48) (.t 49), none⟩] [0, 1, 2, 9, 10, 11, 50]) (.cond (.t 50)
 .skip
 (.exit 2))) (.seq (.block 3 (.seq (.reg [⟨(some 12), .mv (.c (.int .i64 (-1))) false, none⟩] [0, 1, 2, 9, 10, 11, 12]) (.seq (.seq (.reg [⟨(some 13), .mv (.c (.int .i64 0)) false, none⟩] [0, 1, 2, 9, 10, 11, 12, 13]) (.block 4 l_ref31_Fill_1)) (.seq (.reg [⟨(some 100), .mv (.t 12) false, none⟩,
  ⟨(some 101), .bin .lss .int (.t 100) (.c (.int .i64 0)), none⟩] [0, 1, 2, 9, 10, 11, 12, 101]) (.cond (.t 101)
 (.reg [⟨(some 10), .mv (.c (.int .i64 8)) false, none⟩] [0, 1, 2, 9, 10, 11])
 (.reg [⟨(some 102), .mv (.t 9) true, none⟩,
  ⟨(some 103), .mv (.t 12) true, none⟩,
  ⟨(some 104), .conv (.i .u8) (.t 103), none⟩,
  ⟨(some 105), .bsl 1 [(.t 104)] false, none⟩,
  ⟨(some 106), .conv .bs (.t 105), none⟩,
  ⟨(some 107), .bin .add .int (.t 102) (.t 106), none⟩,
  ⟨(some 9), .mv (.t 107) true, none⟩] [0, 1, 2, 9, 10, 11])))))) (.reg [⟨(some 51), .mv (.t 11) true, none⟩,
  ⟨(some 52), .bin .add .int (.t 51) (.c (.int .i64 1)), none⟩,
  ⟨(some 11), .mv (.t 52) true, none⟩] [0, 1, 2, 9, 10, 11])))
def l_ref31_Fill_2 : ACode := .loop [0, 1, 2, 9, 10, 11] [] bl_ref31_Fill_2
theorem L_ref31_Fill_2 {T : Table} (ks : List Kt) (e : Env) (h : Heap) (Q : Ex → Env → Heap → Prop) : Xc T l_ref31_Fill_2 ks e h Q = Xc T bl_ref31_Fill_2 (.seq l_ref31_Fill_2 :: ks) (e.keep [0, 1, 2, 9, 10, 11]) h Q := Xc_loop ks _ e h Q _ _
def k_ref31_Fill : ACode := (.seq (.reg [⟨(some 6), .mv (.c (.str [])) false, none⟩,
  ⟨(some 7), .mv (.c (.int .i64 0)) false, none⟩] [0, 1, 2]) (.seq (.seq (.reg [⟨(some 8), .mv (.c (.int .i64 0)) false, none⟩] [0, 1, 2, 8]) (.block 0 l_ref31_Fill_0)) (.seq (.reg [⟨(some 9), .mv (.c (.str [])) false, none⟩] [0, 1, 2, 9]) (.seq (.reg [⟨(some 10), .mv (.c (.int .i64 0)) false, none⟩] [0, 1, 2, 9, 10]) (.seq (.seq (.reg [⟨(some 11), .mv (.c (.int .i64 0)) false, none⟩] [0, 1, 2, 9, 10, 11]) (.block 2 l_ref31_Fill_2)) (.seq (.seq (.reg [⟨(some 108), .mv (.t 10) false, none⟩,
  ⟨(some 109), .bin .neq .int (.t 108) (.c (.int .i64 0)), none⟩] [9, 10, 109]) (.cond (.t 109)
 (.seq (.reg [⟨(some 110), .mv (.t 10) true, none⟩,
  ⟨(some 6), .mv (.c (.str [])) false, none⟩,
  ⟨(some 7), .mv (.t 110) true, none⟩] [6, 7]) .ret)
 .skip)) (.seq (.reg [⟨(some 111), .mv (.t 9) true, none⟩,
  ⟨(some 6), .mv (.t 111) true, none⟩,
  ⟨(some 7), .mv (.c (.int .i64 0)) false, none⟩] [6, 7]) .ret)))))))
def c_ref31_Fill : AFunc := ⟨k_ref31_Fill, 112, [.t 6, .t 7], [], [], []⟩
-- 8: wagtail/wagtaillaw31.SegFills
def bl_law31_SegFills_0 : ACode := (.seq (.seq (.reg [⟨(some 29), .mv (.t 7) false, none⟩,
  ⟨(some 30), .mv (.t 2) false, none⟩,
  ⟨(some 31), .len false (.t 30), none⟩,
  ⟨(some 32), .bin .lss .int (.t 29) (.t 31), none⟩] [0, 1, 2, 7, 32]) (.cond (.t 32)
 .skip
 (.exit 0))) (.seq (.block 1 (.seq (.reg [⟨(some 35), .mv (.t 2) false, none⟩,
  ⟨(some 36), .mv (.t 7) false, none⟩,
  ⟨(some 37), .ia (.sl 1) (.t 35) (.t 36), none⟩,
  ⟨(some 38), .load 0 (.t 37), none⟩,
  ⟨(some 39), .len false (.t 38), none⟩,
  ⟨(some 40), .bin .gtr .int (.t 39) (.c (.int .i64 300)), none⟩] [0, 1, 2, 7, 40]) (.cond (.t 40)
 (.seq (.reg [⟨(some 41), .callp f_law31_awake [] [], none⟩,
  ⟨(some 6), .mv (.t 41) true, none⟩] [6]) .ret)
 .skip))) (.reg [⟨(some 33), .mv (.t 7) true, none⟩,
  ⟨(some 34), .bin .add .int (.t 33) (.c (.int .i64 1)), none⟩,
  ⟨(some 7), .mv (.t 34) true, none⟩] [0, 1, 2, 7])))
def l_law31_SegFills_0 : ACode := .loop [0, 1, 2, 7] [] bl_law31_SegFills_0
theorem L_law31_SegFills_0 {T : Table} (ks : List Kt) (e : Env) (h : Heap) (Q : Ex → Env → Heap → Prop) : Xc T l_law31_SegFills_0 ks e h Q = Xc T bl_law31_SegFills_0 (.seq l_law31_SegFills_0 :: ks) (e.keep [0, 1, 2, 7]) h Q := Xc_loop ks _ e h Q _ _
def k_law31_SegFills : ACode := (.seq (.reg [⟨(some 6), .mv (.c (.bool false)) false, none⟩] [0, 1, 2]) (.seq (.seq (.reg [⟨(some 12), .mv (.t 1) false, none⟩,
  ⟨(some 13), .len false (.t 12), none⟩,
  ⟨(some 14), .bin .gtr .int (.t 13) (.c (.int .i64 20)), none⟩,
  ⟨(some 15), .mv (.t 14) true, none⟩,
  ⟨(some 16), .mv (.t 2) false, (some (15, false))⟩,
  ⟨(some 17), .len false (.t 16), (some (15, false))⟩,
  ⟨(some 18), .bin .gtr .int (.t 17) (.c (.int .i64 20)), (some (15, false))⟩,
  ⟨(some 19), .pick (.t 15) (.c (.bool true)) (.t 18), none⟩,
  ⟨(some 20), .mv (.t 19) true, none⟩,
  ⟨(some 21), .mv (.t 0) false, (some (20, false))⟩,
  ⟨(some 22), .bin .gtr .int (.t 21) (.c (.int .i64 200)), (some (20, false))⟩,
  ⟨(some 23), .mv (.t 22) true, (some (20, false))⟩,
  ⟨(some 24), .mv (.t 0) false, (some (23, true))⟩,
  ⟨(some 25), .bin .leq .int (.t 24) (.c (.int .i64 3192)), (some (23, true))⟩,
  ⟨(some 26), .pick (.t 23) (.t 25) (.c (.bool false)), (some (20, false))⟩,
  ⟨(some 27), .pick (.t 20) (.c (.bool true)) (.t 26), none⟩] [0, 1, 2, 27]) (.cond (.t 27)
 (.seq (.reg [⟨(some 28), .callp f_law31_awake [] [], none⟩,
  ⟨(some 6), .mv (.t 28) true, none⟩] [6]) .ret)
 .skip)) (.seq (.seq (.reg [⟨(some 7), .mv (.c (.int .i64 0)) false, none⟩] [0, 1, 2, 7]) (.block 0 l_law31_SegFills_0)) (.seq (.reg [⟨(some 43), .mv (.t 0) false, none⟩,
  ⟨(some 44), .mv (.t 1) false, none⟩,
  ⟨(some 45), .mv (.t 2) false, none⟩,
  ⟨(some 46), .callp f_seg_Fill [(.t 43), (.t 44), (.t 45)] [], none⟩,
  ⟨(some 42), .mv (.t 46) true, none⟩,
  ⟨(some 47), .ext (.t 42) 0, none⟩,
  ⟨(some 48), .ext (.t 42) 1, none⟩,
  ⟨(some 8), .mv (.t 47) true, none⟩,
  ⟨(some 9), .mv (.t 48) true, none⟩] [0, 1, 2, 8, 9]) (.seq (.seq (.reg [⟨(some 49), .mv (.t 0) false, none⟩,
  ⟨(some 50), .bin .lss .int (.t 49) (.c (.int .i64 0)), none⟩,
  ⟨(some 51), .mv (.t 50) true, none⟩,
  ⟨(some 52), .mv (.t 0) false, (some (51, false))⟩,
  ⟨(some 53), .bin .gtr .int (.t 52) (.c (.int .i64 3192)), (some (51, false))⟩,
  ⟨(some 54), .pick (.t 51) (.c (.bool true)) (.t 53), none⟩] [0, 1, 2, 8, 9, 54]) (.cond (.t 54)
 (.seq (.reg [⟨(some 55), .callp f_law31_awake [] [], none⟩,
  ⟨(some 56), .mv (.t 55) true, none⟩,
  ⟨(some 57), .mv (.t 8) true, (some (56, true))⟩,
  ⟨(some 58), .len false (.t 57), (some (56, true))⟩,
  ⟨(some 59), .bin .eql .int (.t 58) (.c (.int .i64 0)), (some (56, true))⟩,
  ⟨(some 60), .pick (.t 56) (.t 59) (.c (.bool false)), none⟩,
  ⟨(some 61), .mv (.t 60) true, none⟩,
  ⟨(some 62), .mv (.t 9) true, (some (61, true))⟩,
  ⟨(some 63), .bin .eql .int (.t 62) (.c (.int .i64 3)), (some (61, true))⟩,
  ⟨(some 64), .pick (.t 61) (.t 63) (.c (.bool false)), none⟩,
  ⟨(some 6), .mv (.t 64) true, none⟩] [6]) .ret)
 .skip)) (.seq (.seq (.reg [⟨(some 65), .mv (.t 1) false, none⟩,
  ⟨(some 66), .len false (.t 65), none⟩,
  ⟨(some 67), .mv (.t 2) false, none⟩,
  ⟨(some 68), .len false (.t 67), none⟩,
  ⟨(some 69), .bin .neq .int (.t 66) (.t 68), none⟩] [0, 1, 2, 8, 9, 69]) (.cond (.t 69)
 (.seq (.reg [⟨(some 70), .callp f_law31_awake [] [], none⟩,
  ⟨(some 71), .mv (.t 70) true, none⟩,
  ⟨(some 72), .mv (.t 8) true, (some (71, true))⟩,
  ⟨(some 73), .len false (.t 72), (some (71, true))⟩,
  ⟨(some 74), .bin .eql .int (.t 73) (.c (.int .i64 0)), (some (71, true))⟩,
  ⟨(some 75), .pick (.t 71) (.t 74) (.c (.bool false)), none⟩,
  ⟨(some 76), .mv (.t 75) true, none⟩,
  ⟨(some 77), .mv (.t 9) true, (some (76, true))⟩,
  ⟨(some 78), .bin .eql .int (.t 77) (.c (.int .i64 2)), (some (76, true))⟩,
  ⟨(some 79), .pick (.t 76) (.t 78) (.c (.bool false)), none⟩,
  ⟨(some 6), .mv (.t 79) true, none⟩] [6]) .ret)
 .skip)) (.seq (.reg [⟨(some 81), .mv (.t 0) true, none⟩,
  ⟨(some 82), .mv (.t 1) true, none⟩,
  ⟨(some 83), .mv (.t 2) true, none⟩,
  ⟨(some 84), .callp f_ref31_Fill [(.t 81), (.t 82), (.t 83)] [(1, false), (2, false)], none⟩,
  ⟨(some 80), .mv (.t 84) true, none⟩,
  ⟨(some 85), .ext (.t 80) 0, none⟩,
  ⟨(some 86), .ext (.t 80) 1, none⟩,
  ⟨(some 10), .mv (.t 85) true, none⟩,
  ⟨(some 11), .mv (.t 86) true, none⟩] [8, 9, 10, 11]) (.seq (.reg [⟨(some 87), .callp f_law31_awake [] [], none⟩,
  ⟨(some 88), .mv (.t 87) true, none⟩,
  ⟨(some 89), .mv (.t 8) true, (some (88, true))⟩,
  ⟨(some 90), .conv .bs (.t 89), (some (88, true))⟩,
  ⟨(some 91), .mv (.t 10) true, (some (88, true))⟩,
  ⟨(some 92), .bin .eql .str (.t 90) (.t 91), (some (88, true))⟩,
  ⟨(some 93), .pick (.t 88) (.t 92) (.c (.bool false)), none⟩,
  ⟨(some 94), .mv (.t 93) true, none⟩,
  ⟨(some 95), .mv (.t 9) true, (some (94, true))⟩,
  ⟨(some 96), .mv (.t 11) true, (some (94, true))⟩,
  ⟨(some 97), .bin .eql .int (.t 95) (.t 96), (some (94, true))⟩,
  ⟨(some 98), .pick (.t 94) (.t 97) (.c (.bool false)), none⟩,
  ⟨(some 6), .mv (.t 98) true, none⟩] [6]) .ret))))))))
def c_law31_SegFills : AFunc := ⟨k_law31_SegFills, 99, [.t 6], [], [], []⟩
-- 9: wagtail/wagtaillaw31.SegOffsets

def k_law31_SegOffsets : ACode := (.seq (.reg [⟨(some 4), .mv (.c (.bool false)) false, none⟩] [0, 1]) (.seq (.reg [⟨(some 5), .mv (.c (.int .i64 0)) false, none⟩] [0, 1, 5]) (.seq (.seq (.reg [⟨(some 6), .mv (.t 0) false, none⟩,
  ⟨(some 7), .bin .gtr .int (.t 6) (.c (.int .i64 0)), none⟩] [0, 1, 5, 7]) (.cond (.t 7)
 (.reg [⟨(some 8), .mv (.t 0) false, none⟩,
  ⟨(some 9), .callp f_ref01_Low [(.t 8), (.c (.int .i64 1048576))] [], none⟩,
  ⟨(some 10), .bin .mul .int (.c (.int .i64 100)) (.t 9), none⟩,
  ⟨(some 5), .mv (.t 10) true, none⟩] [0, 1, 5])
 .skip)) (.seq (.seq (.reg [⟨(some 11), .mv (.t 1) false, none⟩,
  ⟨(some 12), .bin .gtr .int (.t 11) (.c (.int .i64 1000000)), none⟩] [0, 1, 5, 12]) (.cond (.t 12)
 (.seq (.reg [⟨(some 13), .callp f_law31_awake [] [], none⟩,
  ⟨(some 14), .mv (.t 13) true, none⟩,
  ⟨(some 15), .mv (.t 0) true, (some (14, true))⟩,
  ⟨(some 16), .callp f_seg_Offset [(.t 15)] [], (some (14, true))⟩,
  ⟨(some 17), .mv (.t 5) true, (some (14, true))⟩,
  ⟨(some 18), .bin .eql .int (.t 16) (.t 17), (some (14, true))⟩,
  ⟨(some 19), .pick (.t 14) (.t 18) (.c (.bool false)), none⟩,
  ⟨(some 4), .mv (.t 19) true, none⟩] [4]) .ret)
 .skip)) (.seq (.reg [⟨(some 20), .callp f_law31_awake [] [], none⟩,
  ⟨(some 21), .mv (.t 20) true, none⟩,
  ⟨(some 22), .mv (.t 0) false, (some (21, true))⟩,
  ⟨(some 23), .callp f_seg_Offset [(.t 22)] [], (some (21, true))⟩,
  ⟨(some 24), .mv (.t 5) true, (some (21, true))⟩,
  ⟨(some 25), .bin .eql .int (.t 23) (.t 24), (some (21, true))⟩,
  ⟨(some 26), .pick (.t 21) (.t 25) (.c (.bool false)), none⟩,
  ⟨(some 27), .mv (.t 26) true, none⟩,
  ⟨(some 28), .mv (.t 1) false, (some (27, true))⟩,
  ⟨(some 29), .mv (.t 0) false, (some (27, true))⟩,
  ⟨(some 30), .callp f_seg_Last [(.t 28), (.t 29)] [], (some (27, true))⟩,
  ⟨(some 31), .mv (.t 0) false, (some (27, true))⟩,
  ⟨(some 32), .bin .geq .int (.t 31) (.c (.int .i64 0)), (some (27, true))⟩,
  ⟨(some 33), .mv (.t 32) true, (some (27, true))⟩,
  ⟨(some 34), .mv (.t 0) true, (some (33, true))⟩,
  ⟨(some 35), .mv (.t 1) true, (some (33, true))⟩,
  ⟨(some 36), .callp f_ref27_Frames [(.t 35)] [], (some (33, true))⟩,
  ⟨(some 37), .bin .sub .int (.t 36) (.c (.int .i64 1)), (some (33, true))⟩,
  ⟨(some 38), .bin .eql .int (.t 34) (.t 37), (some (33, true))⟩,
  ⟨(some 39), .pick (.t 33) (.t 38) (.c (.bool false)), (some (27, true))⟩,
  ⟨(some 40), .bin .eql .bool (.t 30) (.t 39), (some (27, true))⟩,
  ⟨(some 41), .pick (.t 27) (.t 40) (.c (.bool false)), none⟩,
  ⟨(some 4), .mv (.t 41) true, none⟩] [4]) .ret)))))
def c_law31_SegOffsets : AFunc := ⟨k_law31_SegOffsets, 42, [.t 4], [], [], []⟩

def tab : List (Nat × AFunc) := [(f_ref01_Ints, c_ref01_Ints),
  (f_ref01_High, c_ref01_High),
  (f_ref01_Low, c_ref01_Low),
  (f_ref13_Has, c_ref13_Has),
  (f_ref27_Frames, c_ref27_Frames),
  (f_index_Frames, c_index_Frames),
  (f_seg_Offset, c_seg_Offset),
  (f_seg_part, c_seg_part),
  (f_seg_Cut, c_seg_Cut),
  (f_seg_Part, c_seg_Part),
  (f_seg_Fill_1, c_seg_Fill_1),
  (f_slices_Index_bool_bool, c_slices_Index_bool_bool),
  (f_slices_Contains_bool_bool, c_slices_Contains_bool_bool),
  (f_seg_Fill, c_seg_Fill),
  (f_seg_Last, c_seg_Last),
  (f_seg_Join, c_seg_Join),
  (f_law31_awake, c_law31_awake),
  (f_ref31_Part, c_ref31_Part),
  (f_law31_SegCuts, c_law31_SegCuts),
  (f_ref31_Fill, c_ref31_Fill),
  (f_law31_SegFills, c_law31_SegFills),
  (f_law31_SegOffsets, c_law31_SegOffsets)]
def T : Table := fun f => tab.lookup f
theorem t_ref01_Ints : T f_ref01_Ints = some c_ref01_Ints := rfl
theorem t_ref01_High : T f_ref01_High = some c_ref01_High := rfl
theorem t_ref01_Low : T f_ref01_Low = some c_ref01_Low := rfl
theorem t_ref13_Has : T f_ref13_Has = some c_ref13_Has := rfl
theorem t_ref27_Frames : T f_ref27_Frames = some c_ref27_Frames := rfl
theorem t_index_Frames : T f_index_Frames = some c_index_Frames := rfl
theorem t_seg_Offset : T f_seg_Offset = some c_seg_Offset := rfl
theorem t_seg_part : T f_seg_part = some c_seg_part := rfl
theorem t_seg_Cut : T f_seg_Cut = some c_seg_Cut := rfl
theorem t_seg_Part : T f_seg_Part = some c_seg_Part := rfl
theorem t_seg_Fill_1 : T f_seg_Fill_1 = some c_seg_Fill_1 := rfl
theorem t_slices_Index_bool_bool : T f_slices_Index_bool_bool = some c_slices_Index_bool_bool := rfl
theorem t_slices_Contains_bool_bool : T f_slices_Contains_bool_bool = some c_slices_Contains_bool_bool := rfl
theorem t_seg_Fill : T f_seg_Fill = some c_seg_Fill := rfl
theorem t_seg_Last : T f_seg_Last = some c_seg_Last := rfl
theorem t_seg_Join : T f_seg_Join = some c_seg_Join := rfl
theorem t_law31_awake : T f_law31_awake = some c_law31_awake := rfl
theorem t_ref31_Part : T f_ref31_Part = some c_ref31_Part := rfl
theorem t_law31_SegCuts : T f_law31_SegCuts = some c_law31_SegCuts := rfl
theorem t_ref31_Fill : T f_ref31_Fill = some c_ref31_Fill := rfl
theorem t_law31_SegFills : T f_law31_SegFills = some c_law31_SegFills := rfl
theorem t_law31_SegOffsets : T f_law31_SegOffsets = some c_law31_SegOffsets := rfl
end Ev
