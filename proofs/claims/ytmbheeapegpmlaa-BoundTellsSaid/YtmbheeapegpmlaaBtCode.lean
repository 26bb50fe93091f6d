/- The code of the functions that the claim reaches, in the evaluator's form; what it is held against stands in the text of the checks. No condition. -/
import Derived.Test.YtmbheeapegpmlaaEv9
/-! The code of the functions, as the evaluator takes it. -/
set_option linter.all false
namespace Ev
open Go

abbrev f_law40_BoundTells : Nat := 6
abbrev f_ref01_Ints : Nat := 21
abbrev f_ref13_Has : Nat := 26
abbrev f_ref13_Right : Nat := 27
abbrev f_ref01_High : Nat := 28
abbrev f_ref01_Low : Nat := 29
abbrev f_bound_Frames : Nat := 30
abbrev f_ref27_Frames : Nat := 31
abbrev f_law40_awake : Nat := 32
abbrev f_bound_Write : Nat := 33
abbrev f_bound_Mount : Nat := 34
abbrev f_bound_Ingest : Nat := 35
abbrev f_bound_Step : Nat := 36
abbrev f_bound_Bytes : Nat := 72
abbrev f_geom_Check : Nat := 73
abbrev f_bound_Step_1 : Nat := 74
abbrev f_geom_Budget : Nat := 91
abbrev f_geom_Check_1 : Nat := 92
abbrev f_geom_Logical : Nat := 98
abbrev f_geom_Good : Nat := 109
abbrev f_geom_Bad : Nat := 115
-- 21: wagtail/wagtailref01.Ints
def bl_ref01_Ints_0 : ACode := (.seq (.seq (.reg [⟨(some 11), .mv (.t 5) false, none⟩,
  ⟨(some 12), .mv (.t 0) false, none⟩,
  ⟨(some 13), .len false (.t 12), none⟩,
  ⟨(some 14), .bin .lss .int (.t 11) (.t 13), none⟩] [0, 1, 5, 14]) (.cond (.t 14)
 .skip
 (.exit 0))) (.seq (.block 1 (.seq (.regd [⟨(some 17), .mv (.t 0) false, none⟩,
  ⟨(some 18), .mv (.t 5) false, none⟩,
  ⟨(some 19), .ia (.sl 1) (.t 17) (.t 18), none⟩,
  ⟨(some 20), .load 0 (.t 19), none⟩,
  ⟨(some 21), .mv (.t 1) false, none⟩,
  ⟨(some 22), .mv (.t 5) false, none⟩,
  ⟨(some 23), .ia (.sl 1) (.t 21) (.t 22), none⟩,
  ⟨(some 24), .load 0 (.t 23), none⟩,
  ⟨(some 25), .bin .neq .int (.t 20) (.t 24), none⟩] [0, 1, 5, 25] [] []) (.cond (.t 25)
 (.seq (.reg [⟨(some 4), .mv (.c (.bool false)) false, none⟩] [4]) .ret)
 .skip))) (.reg [⟨(some 15), .mv (.t 5) true, none⟩,
  ⟨(some 16), .bin .add .int (.t 15) (.c (.int .i64 1)), none⟩,
  ⟨(some 5), .mv (.t 16) true, none⟩] [0, 1, 5])))
def l_ref01_Ints_0 : ACode := .loop [0, 1, 5] [] bl_ref01_Ints_0
theorem L_ref01_Ints_0 {T : Table} (ks : List Kt) (e : Env) (h : Heap) (Q : Ex → Env → Heap → Prop) : Xc T l_ref01_Ints_0 ks e h Q = Xc T bl_ref01_Ints_0 (.seq l_ref01_Ints_0 :: ks) (e.keep [0, 1, 5]) h Q := Xc_loop ks _ e h Q _ _
def k_ref01_Ints : ACode := (.seq (.reg [⟨(some 4), .mv (.c (.bool false)) false, none⟩] [0, 1]) (.seq (.seq (.reg [⟨(some 6), .mv (.t 0) false, none⟩,
  ⟨(some 7), .len false (.t 6), none⟩,
  ⟨(some 8), .mv (.t 1) false, none⟩,
  ⟨(some 9), .len false (.t 8), none⟩,
  ⟨(some 10), .bin .neq .int (.t 7) (.t 9), none⟩] [0, 1, 10]) (.cond (.t 10)
 (.seq (.reg [⟨(some 4), .mv (.c (.bool false)) false, none⟩] [4]) .ret)
 .skip)) (.seq (.seq (.reg [⟨(some 5), .mv (.c (.int .i64 0)) false, none⟩] [0, 1, 5]) (.block 0 l_ref01_Ints_0)) (.seq (.reg [⟨(some 4), .mv (.c (.bool true)) false, none⟩] [4]) .ret))))
def c_ref01_Ints : AFunc := ⟨k_ref01_Ints, 26, [.t 4], [], [], []⟩
-- 28: wagtail/wagtailref01.High

def k_ref01_High : ACode := (.seq (.reg [⟨(some 4), .mv (.c (.int .i64 0)) false, none⟩] [0, 1]) (.seq (.seq (.reg [⟨(some 5), .mv (.t 0) false, none⟩,
  ⟨(some 6), .mv (.t 1) false, none⟩,
  ⟨(some 7), .bin .gtr .int (.t 5) (.t 6), none⟩] [0, 1, 7]) (.cond (.t 7)
 (.seq (.reg [⟨(some 8), .mv (.t 0) true, none⟩,
  ⟨(some 4), .mv (.t 8) true, none⟩] [4]) .ret)
 .skip)) (.seq (.reg [⟨(some 9), .mv (.t 1) true, none⟩,
  ⟨(some 4), .mv (.t 9) true, none⟩] [4]) .ret)))
def c_ref01_High : AFunc := ⟨k_ref01_High, 10, [.t 4], [], [], []⟩
-- 29: wagtail/wagtailref01.Low

def k_ref01_Low : ACode := (.seq (.reg [⟨(some 4), .mv (.c (.int .i64 0)) false, none⟩] [0, 1]) (.seq (.seq (.reg [⟨(some 5), .mv (.t 0) false, none⟩,
  ⟨(some 6), .mv (.t 1) false, none⟩,
  ⟨(some 7), .bin .lss .int (.t 5) (.t 6), none⟩] [0, 1, 7]) (.cond (.t 7)
 (.seq (.reg [⟨(some 8), .mv (.t 0) true, none⟩,
  ⟨(some 4), .mv (.t 8) true, none⟩] [4]) .ret)
 .skip)) (.seq (.reg [⟨(some 9), .mv (.t 1) true, none⟩,
  ⟨(some 4), .mv (.t 9) true, none⟩] [4]) .ret)))
def c_ref01_Low : AFunc := ⟨k_ref01_Low, 10, [.t 4], [], [], []⟩
-- 26: wagtail/wagtailref13.Has
def bl_ref13_Has_0 : ACode := (.seq (.seq (.reg [⟨(some 6), .mv (.t 5) false, none⟩,
  ⟨(some 7), .mv (.t 0) false, none⟩,
  ⟨(some 8), .len false (.t 7), none⟩,
  ⟨(some 9), .bin .lss .int (.t 6) (.t 8), none⟩] [0, 1, 5, 9]) (.cond (.t 9)
 .skip
 (.exit 0))) (.seq (.block 1 (.seq (.reg [⟨(some 12), .mv (.t 0) false, none⟩,
  ⟨(some 13), .mv (.t 5) false, none⟩,
  ⟨(some 14), .ia (.sl 1) (.t 12) (.t 13), none⟩,
  ⟨(some 15), .load 0 (.t 14), none⟩,
  ⟨(some 16), .mv (.t 1) false, none⟩,
  ⟨(some 17), .bin .eql .int (.t 15) (.t 16), none⟩] [0, 1, 5, 17]) (.cond (.t 17)
 (.seq (.reg [⟨(some 4), .mv (.c (.bool true)) false, none⟩] [4]) .ret)
 .skip))) (.reg [⟨(some 10), .mv (.t 5) true, none⟩,
  ⟨(some 11), .bin .add .int (.t 10) (.c (.int .i64 1)), none⟩,
  ⟨(some 5), .mv (.t 11) true, none⟩] [0, 1, 5])))
def l_ref13_Has_0 : ACode := .loop [0, 1, 5] [] bl_ref13_Has_0
theorem L_ref13_Has_0 {T : Table} (ks : List Kt) (e : Env) (h : Heap) (Q : Ex → Env → Heap → Prop) : Xc T l_ref13_Has_0 ks e h Q = Xc T bl_ref13_Has_0 (.seq l_ref13_Has_0 :: ks) (e.keep [0, 1, 5]) h Q := Xc_loop ks _ e h Q _ _
def k_ref13_Has : ACode := (.seq (.reg [⟨(some 4), .mv (.c (.bool false)) false, none⟩] [0, 1]) (.seq (.seq (.reg [⟨(some 5), .mv (.c (.int .i64 0)) false, none⟩] [0, 1, 5]) (.block 0 l_ref13_Has_0)) (.seq (.reg [⟨(some 4), .mv (.c (.bool false)) false, none⟩] [4]) .ret)))
def c_ref13_Has : AFunc := ⟨k_ref13_Has, 18, [.t 4], [], [], []⟩
-- 27: wagtail/wagtailref13.Right

def k_ref13_Right : ACode := (.seq (.reg [⟨(some 1), .box (.t 0), none⟩,
  ⟨(some 2), .mv (.c (.bool false)) false, none⟩] [1]) (.seq (.reg [⟨(some 3), .fa 0 (.t 1), none⟩,
  ⟨(some 4), .load 0 (.t 3), none⟩,
  ⟨(some 5), .bin .geq .int (.t 4) (.c (.int .i64 8)), none⟩,
  ⟨(some 6), .mv (.t 5) true, none⟩,
  ⟨(some 7), .fa 0 (.t 1), (some (6, true))⟩,
  ⟨(some 8), .load 0 (.t 7), (some (6, true))⟩,
  ⟨(some 9), .bin .leq .int (.t 8) (.c (.int .i64 34)), (some (6, true))⟩,
  ⟨(some 10), .pick (.t 6) (.t 9) (.c (.bool false)), none⟩,
  ⟨(some 11), .mv (.t 10) true, none⟩,
  ⟨(some 12), .fa 1 (.t 1), (some (11, true))⟩,
  ⟨(some 13), .load 0 (.t 12), (some (11, true))⟩,
  ⟨(some 14), .bin .geq .int (.t 13) (.c (.int .i64 4)), (some (11, true))⟩,
  ⟨(some 15), .pick (.t 11) (.t 14) (.c (.bool false)), none⟩,
  ⟨(some 16), .mv (.t 15) true, none⟩,
  ⟨(some 17), .fa 1 (.t 1), (some (16, true))⟩,
  ⟨(some 18), .load 0 (.t 17), (some (16, true))⟩,
  ⟨(some 19), .bin .leq .int (.t 18) (.c (.int .i64 32)), (some (16, true))⟩,
  ⟨(some 20), .pick (.t 16) (.t 19) (.c (.bool false)), none⟩,
  ⟨(some 21), .mv (.t 20) true, none⟩,
  ⟨(some 22), .fa 2 (.t 1), (some (21, true))⟩,
  ⟨(some 23), .load 0 (.t 22), (some (21, true))⟩,
  ⟨(some 24), .bin .geq .int (.t 23) (.c (.int .i64 0)), (some (21, true))⟩,
  ⟨(some 25), .pick (.t 21) (.t 24) (.c (.bool false)), none⟩,
  ⟨(some 26), .mv (.t 25) true, none⟩,
  ⟨(some 27), .fa 2 (.t 1), (some (26, true))⟩,
  ⟨(some 28), .load 0 (.t 27), (some (26, true))⟩,
  ⟨(some 29), .bin .leq .int (.t 28) (.c (.int .i64 8)), (some (26, true))⟩,
  ⟨(some 30), .pick (.t 26) (.t 29) (.c (.bool false)), none⟩,
  ⟨(some 2), .mv (.t 30) true, none⟩] [2]) .ret))
def c_ref13_Right : AFunc := ⟨k_ref13_Right, 31, [.t 2], [], [], []⟩
-- 30: wagtail/bound.Frames

def k_bound_Frames : ACode := (.seq (.reg [⟨(some 2), .mv (.c (.int .i64 0)) false, none⟩] [0]) (.seq (.seq (.reg [⟨(some 3), .mv (.t 0) false, none⟩,
  ⟨(some 4), .bin .lss .int (.t 3) (.c (.int .i64 1)), none⟩] [0, 4]) (.cond (.t 4)
 (.seq (.reg [⟨(some 2), .mv (.c (.int .i64 0)) false, none⟩] [2]) .ret)
 .skip)) (.seq (.reg [⟨(some 5), .mv (.t 0) true, none⟩,
  ⟨(some 6), .bin .sub .int (.t 5) (.c (.int .i64 1)), none⟩,
  ⟨(some 7), .bin .quo .int (.t 6) (.c (.int .i64 100)), none⟩,
  ⟨(some 8), .bin .add .int (.t 7) (.c (.int .i64 1)), none⟩,
  ⟨(some 2), .mv (.t 8) true, none⟩] [2]) .ret)))
def c_bound_Frames : AFunc := ⟨k_bound_Frames, 9, [.t 2], [], [], []⟩
-- 31: wagtail/wagtailref27.Frames
def bl_ref27_Frames_0 : ACode := (.seq (.seq (.reg [⟨(some 4), .mv (.t 3) false, none⟩,
  ⟨(some 5), .bin .mul .int (.c (.int .i64 100)) (.t 4), none⟩,
  ⟨(some 6), .mv (.t 0) false, none⟩,
  ⟨(some 7), .bin .lss .int (.t 5) (.t 6), none⟩,
  ⟨(some 8), .mv (.t 7) true, none⟩,
  ⟨(some 9), .mv (.t 3) false, (some (8, true))⟩,
  ⟨(some 10), .bin .lss .int (.t 9) (.c (.int .i64 100000)), (some (8, true))⟩,
  ⟨(some 11), .pick (.t 8) (.t 10) (.c (.bool false)), none⟩] [0, 3, 11]) (.cond (.t 11)
 .skip
 (.exit 0))) (.block 1 (.reg [⟨(some 12), .mv (.t 3) true, none⟩,
  ⟨(some 13), .bin .add .int (.t 12) (.c (.int .i64 1)), none⟩,
  ⟨(some 3), .mv (.t 13) true, none⟩] [0, 3])))
def l_ref27_Frames_0 : ACode := .loop [0, 3] [] bl_ref27_Frames_0
theorem L_ref27_Frames_0 {T : Table} (ks : List Kt) (e : Env) (h : Heap) (Q : Ex → Env → Heap → Prop) : Xc T l_ref27_Frames_0 ks e h Q = Xc T bl_ref27_Frames_0 (.seq l_ref27_Frames_0 :: ks) (e.keep [0, 3]) h Q := Xc_loop ks _ e h Q _ _
def k_ref27_Frames : ACode := (.seq (.reg [⟨(some 2), .mv (.c (.int .i64 0)) false, none⟩] [0]) (.seq (.reg [⟨(some 3), .mv (.c (.int .i64 0)) false, none⟩] [0, 3]) (.seq (.block 0 l_ref27_Frames_0) (.seq (.reg [⟨(some 14), .mv (.t 3) true, none⟩,
  ⟨(some 2), .mv (.t 14) true, none⟩] [2]) .ret))))
def c_ref27_Frames : AFunc := ⟨k_ref27_Frames, 15, [.t 2], [], [], []⟩
-- 92: wagtail/geom.Check$1

def k_geom_Check_1 : ACode := (.seq (.reg [⟨(some 6), .mv (.c (.bool false)) false, none⟩] [0, 1, 2]) (.seq (.reg [⟨(some 7), .mv (.t 0) false, none⟩,
  ⟨(some 8), .mv (.t 1) true, none⟩,
  ⟨(some 9), .bin .geq .int (.t 7) (.t 8), none⟩,
  ⟨(some 10), .mv (.t 9) true, none⟩,
  ⟨(some 11), .mv (.t 0) true, (some (10, true))⟩,
  ⟨(some 12), .mv (.t 2) true, (some (10, true))⟩,
  ⟨(some 13), .bin .leq .int (.t 11) (.t 12), (some (10, true))⟩,
  ⟨(some 14), .pick (.t 10) (.t 13) (.c (.bool false)), none⟩,
  ⟨(some 6), .mv (.t 14) true, none⟩] [6]) .ret))
def c_geom_Check_1 : AFunc := ⟨k_geom_Check_1, 15, [.t 6], [], [], []⟩
-- 73: wagtail/geom.Check

def k_geom_Check : ACode := (.seq (.reg [⟨(some 1), .box (.t 0), none⟩,
  ⟨(some 2), .mv (.c (.int .i64 0)) false, none⟩] [1]) (.seq (.reg [⟨(some 3), .mv (.c (.fn f_geom_Check_1 [])) false, none⟩] [1, 3]) (.seq (.seq (.reg [⟨(some 4), .mv (.t 3) false, none⟩,
  ⟨(some 5), .fa 0 (.t 1), none⟩,
  ⟨(some 6), .load 0 (.t 5), none⟩,
  ⟨(some 7), .callv (.t 4) [(.t 6), (.c (.int .i64 8)), (.c (.int .i64 34))], none⟩,
  ⟨(some 8), .un .not (.t 7), none⟩,
  ⟨(some 9), .mv (.t 8) true, none⟩,
  ⟨(some 10), .mv (.t 3) false, (some (9, false))⟩,
  ⟨(some 11), .fa 1 (.t 1), (some (9, false))⟩,
  ⟨(some 12), .load 0 (.t 11), (some (9, false))⟩,
  ⟨(some 13), .callv (.t 10) [(.t 12), (.c (.int .i64 4)), (.c (.int .i64 32))], (some (9, false))⟩,
  ⟨(some 14), .un .not (.t 13), (some (9, false))⟩,
  ⟨(some 15), .pick (.t 9) (.c (.bool true)) (.t 14), none⟩,
  ⟨(some 16), .mv (.t 15) true, none⟩,
  ⟨(some 17), .mv (.t 3) true, (some (16, false))⟩,
  ⟨(some 18), .fa 2 (.t 1), (some (16, false))⟩,
  ⟨(some 19), .load 0 (.t 18), (some (16, false))⟩,
  ⟨(some 20), .callv (.t 17) [(.t 19), (.c (.int .i64 0)), (.c (.int .i64 8))], (some (16, false))⟩,
  ⟨(some 21), .un .not (.t 20), (some (16, false))⟩,
  ⟨(some 22), .pick (.t 16) (.c (.bool true)) (.t 21), none⟩] [22]) (.cond (.t 22)
 (.seq (.reg [⟨(some 2), .mv (.c (.int .i64 3)) false, none⟩] [2]) .ret)
 .skip)) (.seq (.reg [⟨(some 2), .mv (.c (.int .i64 0)) false, none⟩] [2]) .ret))))
def c_geom_Check : AFunc := ⟨k_geom_Check, 23, [.t 2], [], [], []⟩
-- 33: wagtail/bound.Write

def k_bound_Write : ACode := (.seq (.reg [⟨(some 1), .box (.t 0), none⟩,
  ⟨(some 2), .mv (.c (.int .i64 0)) false, none⟩] [1]) (.seq (.seq (.reg [⟨(some 3), .load 3 (.t 1), none⟩,
  ⟨(some 4), .callp f_geom_Check [(.t 3)] [], none⟩,
  ⟨(some 5), .bin .neq .int (.t 4) (.c (.int .i64 0)), none⟩] [1, 5]) (.cond (.t 5)
 (.seq (.reg [⟨(some 2), .mv (.c (.int .i64 0)) false, none⟩] [2]) .ret)
 .skip)) (.seq (.reg [⟨(some 6), .fa 1 (.t 1), none⟩,
  ⟨(some 7), .load 0 (.t 6), none⟩,
  ⟨(some 8), .bin .mul .int (.c (.int .i64 16)) (.t 7), none⟩,
  ⟨(some 9), .bin .add .int (.t 8) (.c (.int .i64 20)), none⟩,
  ⟨(some 2), .mv (.t 9) true, none⟩] [2]) .ret)))
def c_bound_Write : AFunc := ⟨k_bound_Write, 10, [.t 2], [], [], []⟩
-- 34: wagtail/bound.Mount

def k_bound_Mount : ACode := (.seq (.reg [⟨(some 1), .box (.t 0), none⟩,
  ⟨(some 2), .mv (.c (.int .i64 0)) false, none⟩] [1]) (.seq (.seq (.reg [⟨(some 3), .load 3 (.t 1), none⟩,
  ⟨(some 4), .callp f_geom_Check [(.t 3)] [], none⟩,
  ⟨(some 5), .bin .neq .int (.t 4) (.c (.int .i64 0)), none⟩] [5]) (.cond (.t 5)
 (.seq (.reg [⟨(some 2), .mv (.c (.int .i64 0)) false, none⟩] [2]) .ret)
 .skip)) (.seq (.reg [⟨(some 2), .mv (.c (.int .i64 4)) false, none⟩] [2]) .ret)))
def c_bound_Mount : AFunc := ⟨k_bound_Mount, 6, [.t 2], [], [], []⟩
-- 35: wagtail/bound.Ingest

def k_bound_Ingest : ACode := (.seq (.reg [⟨(some 2), .box (.t 0), none⟩,
  ⟨(some 4), .mv (.c (.int .i64 0)) false, none⟩] [1, 2]) (.seq (.reg [⟨(some 7), .mv (.t 1) true, none⟩,
  ⟨(some 8), .mx true [(.t 7), (.c (.int .i64 0))], none⟩,
  ⟨(some 9), .mx false [(.t 8), (.c (.int .i64 4096))], none⟩,
  ⟨(some 5), .mv (.t 9) true, none⟩] [2, 5]) (.seq (.reg [⟨(some 10), .mv (.t 5) true, none⟩,
  ⟨(some 11), .bin .add .int (.t 10) (.c (.int .i64 16)), none⟩,
  ⟨(some 12), .bin .sub .int (.t 11) (.c (.int .i64 1)), none⟩,
  ⟨(some 13), .bin .quo .int (.t 12) (.c (.int .i64 16)), none⟩,
  ⟨(some 6), .mv (.t 13) true, none⟩] [2, 6]) (.seq (.reg [⟨(some 14), .load 3 (.t 2), none⟩,
  ⟨(some 15), .callp f_bound_Write [(.t 14)] [], none⟩,
  ⟨(some 16), .mv (.t 6) true, none⟩,
  ⟨(some 17), .bin .add .int (.c (.int .i64 1)) (.t 16), none⟩,
  ⟨(some 18), .bin .mul .int (.t 15) (.t 17), none⟩,
  ⟨(some 4), .mv (.t 18) true, none⟩] [4]) .ret))))
def c_bound_Ingest : AFunc := ⟨k_bound_Ingest, 19, [.t 4], [], [], []⟩
-- 74: wagtail/bound.Step$1

def k_bound_Step_1 : ACode := (.seq (.reg [⟨(some 3), .mv (.c (.int .i64 0)) false, none⟩] [0, 1]) (.seq (.reg [⟨(some 4), .mv (.t 0) true, none⟩,
  ⟨(some 5), .load 3 (.t 1), none⟩,
  ⟨(some 6), .callv (.t 4) [(.t 5)], none⟩,
  ⟨(some 3), .mv (.t 6) true, none⟩] [3]) .ret))
def c_bound_Step_1 : AFunc := ⟨k_bound_Step_1, 7, [.t 3], [], [], []⟩
-- 36: wagtail/bound.Step

def k_bound_Step : ACode := (.seq (.reg [⟨(some 3), .box (.t 0), none⟩,
  ⟨(some 4), .box (.t 1), none⟩,
  ⟨(some 6), .mv (.c (.int .i64 0)) false, none⟩] [2, 3, 4]) (.seq (.reg [⟨(some 8), .mkfn f_bound_Step_1 [(.t 3)], none⟩,
  ⟨(some 7), .mv (.t 8) true, none⟩] [2, 3, 4, 7]) (.seq (.seq (.reg [⟨(some 9), .fa 0 (.t 4), none⟩,
  ⟨(some 10), .load 0 (.t 9), none⟩] [2, 3, 7, 10]) (.block 0 (.seq (.reg [⟨(some 12), .bin .eql .int (.t 10) (.c (.int .i64 8)), none⟩,
  ⟨(some 11), .mv (.t 12) true, none⟩] [2, 3, 7, 10, 11]) (.cond (.t 11)
 (.seq (.reg [⟨(some 13), .load 3 (.t 3), none⟩,
  ⟨(some 14), .mv (.t 2) true, none⟩,
  ⟨(some 15), .callp f_bound_Ingest [(.t 13), (.t 14)] [], none⟩,
  ⟨(some 6), .mv (.t 15) true, none⟩] [6]) .ret)
 (.seq (.seq (.reg [⟨(some 17), .bin .eql .int (.t 10) (.c (.int .i64 1)), none⟩,
  ⟨(some 16), .mv (.t 17) true, none⟩] [7, 10, 16]) (.cond (.t 16)
 .skip
 (.reg [⟨(some 18), .bin .eql .int (.t 10) (.c (.int .i64 5)), none⟩,
  ⟨(some 16), .mv (.t 18) true, none⟩] [7, 10, 16]))) (.cond (.t 16)
 (.seq (.reg [⟨(some 19), .mv (.t 7) true, none⟩,
  ⟨(some 20), .callv (.t 19) [(.c (.fn f_bound_Write []))], none⟩,
  ⟨(some 6), .mv (.t 20) true, none⟩] [6]) .ret)
 (.seq (.reg [⟨(some 22), .bin .eql .int (.t 10) (.c (.int .i64 9)), none⟩,
  ⟨(some 21), .mv (.t 22) true, none⟩] [7, 21]) (.cond (.t 21)
 (.seq (.reg [⟨(some 23), .mv (.t 7) true, none⟩,
  ⟨(some 24), .callv (.t 23) [(.c (.fn f_bound_Mount []))], none⟩,
  ⟨(some 6), .mv (.t 24) true, none⟩] [6]) .ret)
 .skip)))))))) (.seq (.reg [⟨(some 6), .mv (.c (.int .i64 0)) false, none⟩] [6]) .ret))))
def c_bound_Step : AFunc := ⟨k_bound_Step, 25, [.t 6], [], [], []⟩
-- 115: wagtail/geom.Bad
def bl_geom_Bad_0 : ACode := (.seq (.reg [⟨(some 18), .bin .lss .int (.t 17) (.t 16), none⟩] [2, 5, 6, 15, 16, 17, 18]) (.seq (.cond (.t 18)
 .skip
 (.exit 0)) (.seq (.block 1 (.seq (.reg [⟨(some 19), .ia (.sl 1) (.t 15) (.t 17), none⟩,
  ⟨(some 20), .load 0 (.t 19), none⟩,
  ⟨(some 8), .mv (.t 20) true, none⟩] [2, 5, 6, 8, 15, 16, 17]) (.seq (.reg [⟨(some 21), .mv (.t 8) false, none⟩,
  ⟨(some 22), .bin .geq .int (.t 21) (.c (.int .i64 2)), none⟩,
  ⟨(some 23), .mv (.t 22) true, none⟩,
  ⟨(some 24), .mv (.t 8) false, (some (23, true))⟩,
  ⟨(some 25), .fa 0 (.t 2), (some (23, true))⟩,
  ⟨(some 26), .load 0 (.t 25), (some (23, true))⟩,
  ⟨(some 27), .bin .lss .int (.t 24) (.t 26), (some (23, true))⟩,
  ⟨(some 28), .pick (.t 23) (.t 27) (.c (.bool false)), none⟩,
  ⟨(some 29), .mv (.t 28) true, none⟩,
  ⟨(some 30), .mv (.t 5) false, (some (29, true))⟩,
  ⟨(some 31), .mv (.t 8) false, (some (29, true))⟩,
  ⟨(some 32), .ia (.sl 1) (.t 30) (.t 31), (some (29, true))⟩,
  ⟨(some 33), .load 0 (.t 32), (some (29, true))⟩,
  ⟨(some 34), .un .not (.t 33), (some (29, true))⟩,
  ⟨(some 35), .pick (.t 29) (.t 34) (.c (.bool false)), none⟩] [2, 5, 6, 8, 15, 16, 17, 35]) (.cond (.t 35)
 (.seq (.reg [⟨(some 36), .mv (.t 5) false, none⟩,
  ⟨(some 37), .mv (.t 8) true, none⟩,
  ⟨(some 38), .ia (.sl 1) (.t 36) (.t 37), none⟩,
  ⟨none, .store 1 (.t 38) (.c (.bool true)), none⟩] [2, 5, 6, 15, 16, 17]) (.reg [⟨(some 39), .mv (.t 6) true, none⟩,
  ⟨(some 40), .bin .add .int (.t 39) (.c (.int .i64 1)), none⟩,
  ⟨(some 6), .mv (.t 40) true, none⟩] [2, 5, 6, 15, 16, 17]))
 .skip)))) (.reg [⟨(some 41), .bin .add .int (.t 17) (.c (.int .i64 1)), none⟩,
  ⟨(some 17), .mv (.t 41) true, none⟩] [2, 5, 6, 15, 16, 17]))))
def l_geom_Bad_0 : ACode := .loop [2, 5, 6, 15, 16, 17] [(5, 0)] bl_geom_Bad_0
theorem L_geom_Bad_0 {T : Table} (ks : List Kt) (e : Env) (h : Heap) (Q : Ex → Env → Heap → Prop) : Xc T l_geom_Bad_0 ks e h Q = Xc T bl_geom_Bad_0 (.seq l_geom_Bad_0 :: ks) (e.keep [2, 5, 6, 15, 16, 17]) h Q := Xc_loop ks _ e h Q _ _
def k_geom_Bad : ACode := (.seq (.reg [⟨(some 2), .box (.t 0), none⟩,
  ⟨(some 4), .mv (.c (.int .i64 0)) false, none⟩] [1, 2]) (.seq (.seq (.reg [⟨(some 9), .load 3 (.t 2), none⟩,
  ⟨(some 10), .callp f_geom_Check [(.t 9)] [], none⟩,
  ⟨(some 11), .bin .neq .int (.t 10) (.c (.int .i64 0)), none⟩] [1, 2, 11]) (.cond (.t 11)
 (.seq (.reg [⟨(some 4), .mv (.c (.int .i64 0)) false, none⟩] [4]) .ret)
 .skip)) (.seq (.reg [⟨(some 12), .fa 0 (.t 2), none⟩,
  ⟨(some 13), .load 0 (.t 12), none⟩,
  ⟨(some 14), .mksl 1 1 (.bool false) (.t 13) (.t 13) true, none⟩,
  ⟨(some 5), .mv (.t 14) true, none⟩] [1, 2, 5]) (.seq (.reg [⟨(some 6), .mv (.c (.int .i64 0)) false, none⟩] [1, 2, 5, 6]) (.seq (.seq (.reg [⟨(some 15), .mv (.t 1) true, none⟩,
  ⟨(some 16), .len false (.t 15), none⟩,
  ⟨(some 17), .mv (.c (.int .i64 0)) false, none⟩] [2, 5, 6, 15, 16, 17]) (.block 0 l_geom_Bad_0)) (.seq (.reg [⟨(some 42), .mv (.t 6) true, none⟩,
  ⟨(some 4), .mv (.t 42) true, none⟩] [4]) .ret))))))
def c_geom_Bad : AFunc := ⟨k_geom_Bad, 43, [.t 4], [], [], []⟩
-- 109: wagtail/geom.Good

def k_geom_Good : ACode := (.seq (.reg [⟨(some 2), .box (.t 0), none⟩,
  ⟨(some 4), .mv (.c (.int .i64 0)) false, none⟩] [1, 2]) (.seq (.seq (.reg [⟨(some 5), .load 3 (.t 2), none⟩,
  ⟨(some 6), .callp f_geom_Check [(.t 5)] [], none⟩,
  ⟨(some 7), .bin .neq .int (.t 6) (.c (.int .i64 0)), none⟩] [1, 2, 7]) (.cond (.t 7)
 (.seq (.reg [⟨(some 4), .mv (.c (.int .i64 0)) false, none⟩] [4]) .ret)
 .skip)) (.seq (.regd [⟨(some 8), .fa 0 (.t 2), none⟩,
  ⟨(some 9), .load 0 (.t 8), none⟩,
  ⟨(some 10), .bin .sub .int (.t 9) (.c (.int .i64 2)), none⟩,
  ⟨(some 11), .load 3 (.t 2), none⟩,
  ⟨(some 12), .mv (.t 1) false, none⟩,
  ⟨(some 13), .callp f_geom_Bad [(.t 11), (.t 12)] [(1, false)], none⟩,
  ⟨(some 14), .bin .sub .int (.t 10) (.t 13), none⟩,
  ⟨(some 4), .mv (.t 14) false, none⟩] [4] [] []) .ret)))
def c_geom_Good : AFunc := ⟨k_geom_Good, 15, [.t 4], [], [], []⟩
-- 98: wagtail/geom.Logical

def k_geom_Logical : ACode := (.seq (.reg [⟨(some 2), .box (.t 0), none⟩,
  ⟨(some 4), .mv (.c (.int .i64 0)) false, none⟩] [1, 2]) (.seq (.seq (.reg [⟨(some 5), .load 3 (.t 2), none⟩,
  ⟨(some 6), .callp f_geom_Check [(.t 5)] [], none⟩,
  ⟨(some 7), .bin .neq .int (.t 6) (.c (.int .i64 0)), none⟩] [1, 2, 7]) (.cond (.t 7)
 (.seq (.reg [⟨(some 4), .mv (.c (.int .i64 0)) false, none⟩] [4]) .ret)
 .skip)) (.seq (.regd [⟨(some 8), .load 3 (.t 2), none⟩,
  ⟨(some 9), .mv (.t 1) false, none⟩,
  ⟨(some 10), .callp f_geom_Good [(.t 8), (.t 9)] [(1, false)], none⟩,
  ⟨(some 11), .fa 2 (.t 2), none⟩,
  ⟨(some 12), .load 0 (.t 11), none⟩,
  ⟨(some 13), .bin .sub .int (.t 10) (.t 12), none⟩,
  ⟨(some 14), .bin .sub .int (.t 13) (.c (.int .i64 2)), none⟩,
  ⟨(some 15), .fa 1 (.t 2), none⟩,
  ⟨(some 16), .load 0 (.t 15), none⟩,
  ⟨(some 17), .bin .mul .int (.t 14) (.t 16), none⟩,
  ⟨(some 18), .bin .sub .int (.t 17) (.c (.int .i64 16)), none⟩,
  ⟨(some 19), .mx true [(.t 18), (.c (.int .i64 0))], none⟩,
  ⟨(some 4), .mv (.t 19) false, none⟩] [4] [] []) .ret)))
def c_geom_Logical : AFunc := ⟨k_geom_Logical, 20, [.t 4], [], [], []⟩
-- 91: wagtail/geom.Budget

def k_geom_Budget : ACode := (.seq (.reg [⟨(some 2), .box (.t 0), none⟩,
  ⟨(some 4), .mv (.c (.int .i64 0)) false, none⟩] [1, 2]) (.seq (.reg [⟨(some 5), .load 3 (.t 2), none⟩,
  ⟨(some 6), .mv (.t 1) true, none⟩,
  ⟨(some 7), .callp f_geom_Logical [(.t 5), (.t 6)] [(1, false)], none⟩,
  ⟨(some 8), .bin .sub .int (.t 7) (.c (.int .i64 1)), none⟩,
  ⟨(some 9), .mx true [(.t 8), (.c (.int .i64 0))], none⟩,
  ⟨(some 4), .mv (.t 9) true, none⟩] [4]) .ret))
def c_geom_Budget : AFunc := ⟨k_geom_Budget, 10, [.t 4], [], [], []⟩
-- 72: wagtail/bound.Bytes

def k_bound_Bytes : ACode := (.seq (.reg [⟨(some 2), .box (.t 0), none⟩,
  ⟨(some 4), .mv (.c (.int .i64 0)) false, none⟩] [1, 2]) (.seq (.reg [⟨(some 5), .load 3 (.t 2), none⟩,
  ⟨(some 6), .mv (.t 1) true, none⟩,
  ⟨(some 7), .callp f_geom_Budget [(.t 5), (.t 6)] [(1, false)], none⟩,
  ⟨(some 8), .bin .quo .int (.t 7) (.c (.int .i64 2)), none⟩,
  ⟨(some 9), .bin .mul .int (.t 8) (.c (.int .i64 228)), none⟩,
  ⟨(some 4), .mv (.t 9) true, none⟩] [4]) .ret))
def c_bound_Bytes : AFunc := ⟨k_bound_Bytes, 10, [.t 4], [], [], []⟩
-- 32: wagtail/wagtaillaw40.awake

def k_law40_awake : ACode := (.seq (.reg [⟨(some 0), .mv (.c (.bool false)) false, none⟩] []) (.seq (.reg [⟨(some 2), .build [(.int .i64 0), (.int .i64 0), (.int .i64 0)] [(0, 1, (.c (.int .i64 12))), (1, 1, (.c (.int .i64 4)))], none⟩,
  ⟨(some 1), .alloc [(.int .i64 0), (.int .i64 0), (.int .i64 0)], none⟩,
  ⟨none, .store 3 (.t 1) (.t 2), none⟩] [1]) (.seq (.reg [⟨(some 3), .load 3 (.t 1), none⟩,
  ⟨(some 4), .callp f_bound_Write [(.t 3)] [], none⟩,
  ⟨(some 5), .bin .eql .int (.t 4) (.c (.int .i64 84)), none⟩,
  ⟨(some 6), .mv (.t 5) true, none⟩,
  ⟨(some 7), .load 3 (.t 1), (some (6, true))⟩,
  ⟨(some 8), .callp f_bound_Mount [(.t 7)] [], (some (6, true))⟩,
  ⟨(some 9), .bin .eql .int (.t 8) (.c (.int .i64 4)), (some (6, true))⟩,
  ⟨(some 10), .pick (.t 6) (.t 9) (.c (.bool false)), none⟩,
  ⟨(some 11), .mv (.t 10) true, none⟩,
  ⟨(some 12), .load 3 (.t 1), (some (11, true))⟩,
  ⟨(some 13), .callp f_bound_Ingest [(.t 12), (.c (.int .i64 17))] [], (some (11, true))⟩,
  ⟨(some 14), .bin .eql .int (.t 13) (.c (.int .i64 252)), (some (11, true))⟩,
  ⟨(some 15), .pick (.t 11) (.t 14) (.c (.bool false)), none⟩,
  ⟨(some 16), .mv (.t 15) true, none⟩,
  ⟨(some 17), .load 3 (.t 1), (some (16, true))⟩,
  ⟨(some 18), .build [(.int .i64 0), (.str []), (.int .i64 0), (.int .u64 0), (.int .u64 0)] [(0, 1, (.c (.int .i64 9)))], (some (16, true))⟩,
  ⟨(some 19), .callp f_bound_Step [(.t 17), (.t 18), (.c (.int .i64 0))] [], (some (16, true))⟩,
  ⟨(some 20), .bin .eql .int (.t 19) (.c (.int .i64 4)), (some (16, true))⟩,
  ⟨(some 21), .pick (.t 16) (.t 20) (.c (.bool false)), none⟩,
  ⟨(some 22), .mv (.t 21) true, none⟩,
  ⟨(some 23), .callp f_bound_Frames [(.c (.int .i64 101))] [], (some (22, true))⟩,
  ⟨(some 24), .bin .eql .int (.t 23) (.c (.int .i64 2)), (some (22, true))⟩,
  ⟨(some 25), .pick (.t 22) (.t 24) (.c (.bool false)), none⟩,
  ⟨(some 26), .mv (.t 25) true, none⟩,
  ⟨(some 27), .load 3 (.t 1), (some (26, true))⟩,
  ⟨(some 28), .callp f_bound_Bytes [(.t 27), (.c (.ps 1 []))] [(1, false)], (some (26, true))⟩,
  ⟨(some 29), .bin .eql .int (.t 28) (.c (.int .i64 1596)), (some (26, true))⟩,
  ⟨(some 30), .pick (.t 26) (.t 29) (.c (.bool false)), none⟩,
  ⟨(some 0), .mv (.t 30) true, none⟩] [0]) .ret)))
def c_law40_awake : AFunc := ⟨k_law40_awake, 31, [.t 0], [], [], []⟩
-- 6: wagtail/wagtaillaw40.BoundTells
def bl_law40_BoundTells_0 : ACode := (.seq (.seq (.reg [⟨(some 31), .mv (.t 11) false, none⟩,
  ⟨(some 32), .mv (.t 9) false, none⟩,
  ⟨(some 33), .bin .lss .int (.t 31) (.t 32), none⟩] [3, 4, 5, 6, 7, 8, 9, 10, 11, 33]) (.cond (.t 33)
 .skip
 (.exit 0))) (.seq (.block 1 (.reg [⟨(some 36), .mv (.t 10) true, none⟩,
  ⟨(some 37), .mv (.t 7) false, none⟩,
  ⟨(some 38), .bin .add .int (.t 36) (.t 37), none⟩,
  ⟨(some 10), .mv (.t 38) true, none⟩] [3, 4, 5, 6, 7, 8, 9, 10, 11])) (.reg [⟨(some 34), .mv (.t 11) true, none⟩,
  ⟨(some 35), .bin .add .int (.t 34) (.c (.int .i64 16)), none⟩,
  ⟨(some 11), .mv (.t 35) true, none⟩] [3, 4, 5, 6, 7, 8, 9, 10, 11])))
def l_law40_BoundTells_0 : ACode := .loop [3, 4, 5, 6, 7, 8, 9, 10, 11] [] bl_law40_BoundTells_0
theorem L_law40_BoundTells_0 {T : Table} (ks : List Kt) (e : Env) (h : Heap) (Q : Ex → Env → Heap → Prop) : Xc T l_law40_BoundTells_0 ks e h Q = Xc T bl_law40_BoundTells_0 (.seq l_law40_BoundTells_0 :: ks) (e.keep [3, 4, 5, 6, 7, 8, 9, 10, 11]) h Q := Xc_loop ks _ e h Q _ _
def k_law40_BoundTells : ACode := (.seq (.reg [⟨(some 1), .box (.t 0), none⟩,
  ⟨(some 2), .mv (.c (.bool false)) false, none⟩] [1]) (.seq (.regd [⟨(some 13), .fa 0 (.t 1), none⟩,
  ⟨(some 14), .load 3 (.t 13), none⟩,
  ⟨(some 15), .fa 3 (.t 1), none⟩,
  ⟨(some 16), .load 5 (.t 15), none⟩,
  ⟨(some 17), .fa 8 (.t 1), none⟩,
  ⟨(some 18), .load 0 (.t 17), none⟩,
  ⟨(some 19), .fa 9 (.t 1), none⟩,
  ⟨(some 20), .load 0 (.t 19), none⟩,
  ⟨(some 3), .alloc [(.int .i64 0), (.int .i64 0), (.int .i64 0)], none⟩,
  ⟨(some 4), .alloc [(.int .i64 0), (.str []), (.int .i64 0), (.int .u64 0), (.int .u64 0)], none⟩,
  ⟨none, .store 3 (.t 3) (.t 14), none⟩,
  ⟨none, .store 5 (.t 4) (.t 16), none⟩,
  ⟨(some 5), .mv (.t 18) false, none⟩,
  ⟨(some 6), .mv (.t 20) false, none⟩] [3, 4, 5, 6] [] [(1, 0, 10), (3, 0, 11), (5, 0, 14), (7, 0, 14)]) (.seq (.reg [⟨(some 7), .mv (.c (.int .i64 0)) false, none⟩,
  ⟨(some 8), .mv (.c (.int .i64 0)) false, none⟩] [3, 4, 5, 6, 7, 8]) (.seq (.seq (.reg [⟨(some 21), .load 3 (.t 3), none⟩,
  ⟨(some 22), .callp f_ref13_Right [(.t 21)] [], none⟩] [3, 4, 5, 6, 7, 8, 22]) (.cond (.t 22)
 (.seq (.reg [⟨(some 23), .fa 1 (.t 3), none⟩,
  ⟨(some 24), .load 0 (.t 23), none⟩,
  ⟨(some 25), .bin .mul .int (.c (.int .i64 16)) (.t 24), none⟩,
  ⟨(some 26), .bin .add .int (.t 25) (.c (.int .i64 20)), none⟩,
  ⟨(some 7), .mv (.t 26) true, none⟩] [3, 4, 5, 6, 7]) (.reg [⟨(some 8), .mv (.c (.int .i64 4)) false, none⟩] [3, 4, 5, 6, 7, 8]))
 .skip)) (.seq (.reg [⟨(some 27), .mv (.t 5) false, none⟩,
  ⟨(some 28), .callp f_ref01_Low [(.t 27), (.c (.int .i64 4096))] [], none⟩,
  ⟨(some 29), .callp f_ref01_High [(.t 28), (.c (.int .i64 0))] [], none⟩,
  ⟨(some 9), .mv (.t 29) true, none⟩] [3, 4, 5, 6, 7, 8, 9]) (.seq (.reg [⟨(some 30), .mv (.t 7) false, none⟩,
  ⟨(some 10), .mv (.t 30) true, none⟩] [3, 4, 5, 6, 7, 8, 9, 10]) (.seq (.seq (.reg [⟨(some 11), .mv (.c (.int .i64 0)) false, none⟩] [3, 4, 5, 6, 7, 8, 9, 10, 11]) (.block 0 l_law40_BoundTells_0)) (.seq (.reg [⟨(some 12), .mv (.c (.int .i64 0)) false, none⟩] [3, 4, 5, 6, 7, 8, 10, 12]) (.seq (.seq (.reg [⟨(some 39), .fa 0 (.t 4), none⟩,
  ⟨(some 40), .load 0 (.t 39), none⟩] [3, 4, 5, 6, 7, 8, 10, 12, 40]) (.block 2 (.seq (.reg [⟨(some 42), .bin .eql .int (.t 40) (.c (.int .i64 8)), none⟩,
  ⟨(some 41), .mv (.t 42) true, none⟩] [3, 4, 5, 6, 7, 8, 10, 12, 40, 41]) (.cond (.t 41)
 (.reg [⟨(some 43), .mv (.t 10) false, none⟩,
  ⟨(some 12), .mv (.t 43) true, none⟩] [3, 4, 5, 6, 7, 8, 10, 12])
 (.seq (.seq (.reg [⟨(some 45), .bin .eql .int (.t 40) (.c (.int .i64 1)), none⟩,
  ⟨(some 44), .mv (.t 45) true, none⟩] [3, 4, 5, 6, 7, 8, 10, 12, 40, 44]) (.cond (.t 44)
 .skip
 (.reg [⟨(some 46), .bin .eql .int (.t 40) (.c (.int .i64 5)), none⟩,
  ⟨(some 44), .mv (.t 46) true, none⟩] [3, 4, 5, 6, 7, 8, 10, 12, 40, 44]))) (.cond (.t 44)
 (.reg [⟨(some 47), .mv (.t 7) false, none⟩,
  ⟨(some 12), .mv (.t 47) true, none⟩] [3, 4, 5, 6, 7, 8, 10, 12])
 (.seq (.reg [⟨(some 49), .bin .eql .int (.t 40) (.c (.int .i64 9)), none⟩,
  ⟨(some 48), .mv (.t 49) true, none⟩] [3, 4, 5, 6, 7, 8, 10, 12, 48]) (.cond (.t 48)
 (.reg [⟨(some 50), .mv (.t 8) false, none⟩,
  ⟨(some 12), .mv (.t 50) true, none⟩] [3, 4, 5, 6, 7, 8, 10, 12])
 .skip)))))))) (.seq (.seq (.reg [⟨(some 51), .mv (.t 6) false, none⟩,
  ⟨(some 52), .bin .leq .int (.t 51) (.c (.int .i64 1000000)), none⟩,
  ⟨(some 53), .mv (.t 52) true, none⟩,
  ⟨(some 54), .mv (.t 6) false, (some (53, true))⟩,
  ⟨(some 55), .callp f_bound_Frames [(.t 54)] [], (some (53, true))⟩,
  ⟨(some 56), .mv (.t 6) true, (some (53, true))⟩,
  ⟨(some 57), .callp f_ref27_Frames [(.t 56)] [], (some (53, true))⟩,
  ⟨(some 58), .bin .neq .int (.t 55) (.t 57), (some (53, true))⟩,
  ⟨(some 59), .pick (.t 53) (.t 58) (.c (.bool false)), none⟩] [3, 4, 5, 7, 8, 10, 12, 59]) (.cond (.t 59)
 (.seq (.reg [⟨(some 2), .mv (.c (.bool false)) false, none⟩] [2]) .ret)
 .skip)) (.seq (.reg [⟨(some 60), .callp f_law40_awake [] [], none⟩,
  ⟨(some 61), .mv (.t 60) true, none⟩,
  ⟨(some 62), .load 3 (.t 3), (some (61, true))⟩,
  ⟨(some 63), .callp f_bound_Write [(.t 62)] [], (some (61, true))⟩,
  ⟨(some 64), .mv (.t 7) true, (some (61, true))⟩,
  ⟨(some 65), .bin .eql .int (.t 63) (.t 64), (some (61, true))⟩,
  ⟨(some 66), .pick (.t 61) (.t 65) (.c (.bool false)), none⟩,
  ⟨(some 67), .mv (.t 66) true, none⟩,
  ⟨(some 68), .load 3 (.t 3), (some (67, true))⟩,
  ⟨(some 69), .callp f_bound_Mount [(.t 68)] [], (some (67, true))⟩,
  ⟨(some 70), .mv (.t 8) true, (some (67, true))⟩,
  ⟨(some 71), .bin .eql .int (.t 69) (.t 70), (some (67, true))⟩,
  ⟨(some 72), .pick (.t 67) (.t 71) (.c (.bool false)), none⟩,
  ⟨(some 73), .mv (.t 72) true, none⟩,
  ⟨(some 74), .load 3 (.t 3), (some (73, true))⟩,
  ⟨(some 75), .mv (.t 5) false, (some (73, true))⟩,
  ⟨(some 76), .callp f_bound_Ingest [(.t 74), (.t 75)] [], (some (73, true))⟩,
  ⟨(some 77), .mv (.t 10) true, (some (73, true))⟩,
  ⟨(some 78), .bin .eql .int (.t 76) (.t 77), (some (73, true))⟩,
  ⟨(some 79), .pick (.t 73) (.t 78) (.c (.bool false)), none⟩,
  ⟨(some 80), .mv (.t 79) true, none⟩,
  ⟨(some 81), .load 3 (.t 3), (some (80, true))⟩,
  ⟨(some 82), .load 5 (.t 4), (some (80, true))⟩,
  ⟨(some 83), .mv (.t 5) true, (some (80, true))⟩,
  ⟨(some 84), .callp f_bound_Step [(.t 81), (.t 82), (.t 83)] [], (some (80, true))⟩,
  ⟨(some 85), .mv (.t 12) true, (some (80, true))⟩,
  ⟨(some 86), .bin .eql .int (.t 84) (.t 85), (some (80, true))⟩,
  ⟨(some 87), .pick (.t 80) (.t 86) (.c (.bool false)), none⟩,
  ⟨(some 2), .mv (.t 87) true, none⟩] [2]) .ret)))))))))))
def c_law40_BoundTells : AFunc := ⟨k_law40_BoundTells, 88, [.t 2], [], [], []⟩

def tab : List (Nat × AFunc) := [(f_ref01_Ints, c_ref01_Ints),
  (f_ref01_High, c_ref01_High),
  (f_ref01_Low, c_ref01_Low),
  (f_ref13_Has, c_ref13_Has),
  (f_ref13_Right, c_ref13_Right),
  (f_bound_Frames, c_bound_Frames),
  (f_ref27_Frames, c_ref27_Frames),
  (f_geom_Check_1, c_geom_Check_1),
  (f_geom_Check, c_geom_Check),
  (f_bound_Write, c_bound_Write),
  (f_bound_Mount, c_bound_Mount),
  (f_bound_Ingest, c_bound_Ingest),
  (f_bound_Step_1, c_bound_Step_1),
  (f_bound_Step, c_bound_Step),
  (f_geom_Bad, c_geom_Bad),
  (f_geom_Good, c_geom_Good),
  (f_geom_Logical, c_geom_Logical),
  (f_geom_Budget, c_geom_Budget),
  (f_bound_Bytes, c_bound_Bytes),
  (f_law40_awake, c_law40_awake),
  (f_law40_BoundTells, c_law40_BoundTells)]
def T : Table := fun f => tab.lookup f
theorem t_ref01_Ints : T f_ref01_Ints = some c_ref01_Ints := rfl
theorem t_ref01_High : T f_ref01_High = some c_ref01_High := rfl
theorem t_ref01_Low : T f_ref01_Low = some c_ref01_Low := rfl
theorem t_ref13_Has : T f_ref13_Has = some c_ref13_Has := rfl
theorem t_ref13_Right : T f_ref13_Right = some c_ref13_Right := rfl
theorem t_bound_Frames : T f_bound_Frames = some c_bound_Frames := rfl
theorem t_ref27_Frames : T f_ref27_Frames = some c_ref27_Frames := rfl
theorem t_geom_Check_1 : T f_geom_Check_1 = some c_geom_Check_1 := rfl
theorem t_geom_Check : T f_geom_Check = some c_geom_Check := rfl
theorem t_bound_Write : T f_bound_Write = some c_bound_Write := rfl
theorem t_bound_Mount : T f_bound_Mount = some c_bound_Mount := rfl
theorem t_bound_Ingest : T f_bound_Ingest = some c_bound_Ingest := rfl
theorem t_bound_Step_1 : T f_bound_Step_1 = some c_bound_Step_1 := rfl
theorem t_bound_Step : T f_bound_Step = some c_bound_Step := rfl
theorem t_geom_Bad : T f_geom_Bad = some c_geom_Bad := rfl
theorem t_geom_Good : T f_geom_Good = some c_geom_Good := rfl
theorem t_geom_Logical : T f_geom_Logical = some c_geom_Logical := rfl
theorem t_geom_Budget : T f_geom_Budget = some c_geom_Budget := rfl
theorem t_bound_Bytes : T f_bound_Bytes = some c_bound_Bytes := rfl
theorem t_law40_awake : T f_law40_awake = some c_law40_awake := rfl
theorem t_law40_BoundTells : T f_law40_BoundTells = some c_law40_BoundTells := rfl
end Ev
