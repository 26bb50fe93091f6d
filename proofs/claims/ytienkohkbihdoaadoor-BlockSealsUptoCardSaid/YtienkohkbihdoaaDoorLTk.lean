/- Values taken as types, and their parts. Each theorem states its own conditions. -/
import Derived.Test.YtienkohkbihdoaaDoorLIt2
set_option linter.all false
namespace Ev
open Go
set_option maxRecDepth 10000
attribute [-simp] getElem?_pos getElem?_neg List.drop_one

def asN (t : T6) : Int := if t.k = 0 then t.n else 0
def asB (t : T6) : List UInt8 := if t.k = 2 then t.s else []
def asS (t : T6) : List UInt8 := if t.k = 3 then t.s else []
def asL (t : T6) : List T6 := if t.k = 4 then t.l else []
theorem any_def (t : T6) : anyV t = if t.k = 0 then .iface 22 (.int .u64 t.n) else if t.k = 1 then .iface 90 (.int .u64 t.n) else if t.k = 2 then .iface 31 (.ps 1 (bys t.s)) else if t.k = 3 then .iface 9 (.str t.s) else
    if t.k = 4 then .iface 36 (.ps 1 (anys t.l)) else if t.k = 5 then .iface 4 (.bool false) else if t.k = 6 then .iface 4 (.bool true) else .nili := by
  cases t
  rfl
theorem w_def (t : T6) : t.w = 1 + t.s.length + T6.ws t.l := by cases t; rw [T6.w]; rfl
theorem Uint_run (t : T6) (h : Heap) : Run T f_item_Uint [anyV t] h (.tup [.int .u64 (asN t), .bool (decide (t.k = 0))]) h := by
  refine Run.start t_item_Uint ?_
  unfold k_item_Uint asN
  rw [any_def]
  by_cases c0 : t.k = 0
  · simp (disch := omega) [c0]
  by_cases c1 : t.k = 1
  · simp (disch := omega) [c1]
  by_cases c2 : t.k = 2
  · simp (disch := omega) [c2]
  by_cases c3 : t.k = 3
  · simp (disch := omega) [c3]
  by_cases c4 : t.k = 4
  · simp (disch := omega) [c4]
  by_cases c5 : t.k = 5
  · simp (disch := omega) [c5]
  by_cases c6 : t.k = 6
  · simp (disch := omega) [c6]
  simp (disch := omega) [c0, c1, c2, c3, c4, c5, c6]
theorem Bytes_run (t : T6) (h : Heap) (hw : t.w ≤ 4194304) : Run T f_item_Bytes [anyV t] h (.tup [.ps 1 (bys (asB t)), .bool (decide (t.k = 2))]) h := by
  refine Run.start t_item_Bytes ?_
  unfold k_item_Bytes asB
  rw [any_def]
  rw [w_def] at hw
  by_cases c0 : t.k = 0
  · simp (disch := omega) [c0, bys_nil]
  by_cases c1 : t.k = 1
  · simp (disch := omega) [c1, bys_nil]
  by_cases c2 : t.k = 2
  · simp (disch := omega) [c2, bys_len]
  by_cases c3 : t.k = 3
  · simp (disch := omega) [c3, bys_nil]
  by_cases c4 : t.k = 4
  · simp (disch := omega) [c4, bys_nil]
  by_cases c5 : t.k = 5
  · simp (disch := omega) [c5, bys_nil]
  by_cases c6 : t.k = 6
  · simp (disch := omega) [c6, bys_nil]
  simp (disch := omega) [c0, c1, c2, c3, c4, c5, c6, bys_nil]
theorem Text_run (t : T6) (h : Heap) : Run T f_item_Text [anyV t] h (.tup [.str (asS t), .bool (decide (t.k = 3))]) h := by
  refine Run.start t_item_Text ?_
  unfold k_item_Text asS
  rw [any_def]
  by_cases c0 : t.k = 0
  · simp (disch := omega) [c0]
  by_cases c1 : t.k = 1
  · simp (disch := omega) [c1]
  by_cases c2 : t.k = 2
  · simp (disch := omega) [c2]
  by_cases c3 : t.k = 3
  · simp (disch := omega) [c3]
  by_cases c4 : t.k = 4
  · simp (disch := omega) [c4]
  by_cases c5 : t.k = 5
  · simp (disch := omega) [c5]
  by_cases c6 : t.k = 6
  · simp (disch := omega) [c6]
  simp (disch := omega) [c0, c1, c2, c3, c4, c5, c6]
theorem anys_nil : anys [] = [] := rfl
theorem List_run (t : T6) (h : Heap) (hw : t.w ≤ 4194304) : Run T f_item_List [anyV t] h (.tup [.ps 1 (anys (asL t)), .bool (decide (t.k = 4))]) h := by
  refine Run.start t_item_List ?_
  unfold k_item_List asL
  rw [any_def]
  rw [w_def] at hw
  have := T6.ws_len t.l
  by_cases c0 : t.k = 0
  · simp (disch := omega) [c0, anys_nil]
  by_cases c1 : t.k = 1
  · simp (disch := omega) [c1, anys_nil]
  by_cases c2 : t.k = 2
  · simp (disch := omega) [c2, anys_nil]
  by_cases c3 : t.k = 3
  · simp (disch := omega) [c3, anys_nil]
  by_cases c4 : t.k = 4
  · simp (disch := omega) [c4, anys_len]
  by_cases c5 : t.k = 5
  · simp (disch := omega) [c5, anys_nil]
  by_cases c6 : t.k = 6
  · simp (disch := omega) [c6, anys_nil]
  simp (disch := omega) [c0, c1, c2, c3, c4, c5, c6, anys_nil]
/-- The value at a place, if there is one. -/
def atV (t : T6) (i : Int) : V := if t.k = 4 ∧ 0 ≤ i ∧ i < t.l.length then (match t.l[i.toNat]? with | some x => anyV x | none => .nili) else .nili
theorem At_run (t : T6) (i : Int) (h : Heap) : Run T f_item_At [anyV t, .int .i64 i] h (atV t i) h := by
  refine Run.start t_item_At ?_
  unfold k_item_At atV
  rw [any_def]
  by_cases c0 : t.k = 0
  · simp (disch := omega) [c0]
  by_cases c1 : t.k = 1
  · simp (disch := omega) [c1]
  by_cases c2 : t.k = 2
  · simp (disch := omega) [c2]
  by_cases c3 : t.k = 3
  · simp (disch := omega) [c3]
  by_cases c4 : t.k = 4
  · by_cases d0 : 0 ≤ i
    · by_cases d1 : i < t.l.length
      · have g := List.getElem?_eq_getElem (l := t.l) (i := i.toNat) (by omega)
        simp (disch := omega) [c4, d0, d1, anys_len, anys_get, g, anyV_cells]
      · simp (disch := omega) [c4, d0, d1, anys_len]
    · simp (disch := omega) [c4, d0]
  by_cases c5 : t.k = 5
  · simp (disch := omega) [c5]
  by_cases c6 : t.k = 6
  · simp (disch := omega) [c6]
  simp (disch := omega) [c0, c1, c2, c3, c4, c5, c6]
theorem atV_some (t : T6) (i : Int) (x : T6) (h4 : t.k = 4) (h0 : 0 ≤ i) (hx : t.l[i.toNat]? = some x) : atV t i = anyV x := by
  have : i.toNat < t.l.length := by
    rcases Nat.lt_or_ge i.toNat t.l.length with c | c
    · exact c
    · rw [List.getElem?_eq_none c] at hx; cases hx
  unfold atV
  rw [if_pos ⟨h4, h0, by omega⟩, hx]
theorem atV_none (t : T6) (i : Int) (h : ¬ (t.k = 4 ∧ 0 ≤ i ∧ i < t.l.length)) : atV t i = .nili := by unfold atV; rw [if_neg h]
theorem atV_hf (t : T6) (i : Int) : V.hf (atV t i) = true := by
  unfold atV
  split
  · split
    · exact anyV_hf _
    · rfl
  · rfl
section
variable {ks : List Kt} {ops : List AOpr} {K : Kp} {e : Env} {h : Heap} {Q : Ex → Env → Heap → Prop} {d : Nat}
theorem Uint_p (t : T6) : Xp T f_item_Uint (some ([anyV t], false)) h (some d) ops K ks e Q = Xo T ops K ks ((d, .tup [.int .u64 (asN t), .bool (decide (t.k = 0))]) :: e) h Q :=
  Xp_run (Uint_run t []) (by simp [anyV_hf]) (by simp) (by simp)
theorem Bytes_p (t : T6) (hw : t.w ≤ 4194304) : Xp T f_item_Bytes (some ([anyV t], false)) h (some d) ops K ks e Q = Xo T ops K ks ((d, .tup [.ps 1 (bys (asB t)), .bool (decide (t.k = 2))]) :: e) h Q :=
  Xp_run (Bytes_run t [] hw) (by simp [anyV_hf]) (by simp [bys_hfs]) (by simp)
theorem Text_p (t : T6) : Xp T f_item_Text (some ([anyV t], false)) h (some d) ops K ks e Q = Xo T ops K ks ((d, .tup [.str (asS t), .bool (decide (t.k = 3))]) :: e) h Q :=
  Xp_run (Text_run t []) (by simp [anyV_hf]) (by simp) (by simp)
theorem List_p (t : T6) (hw : t.w ≤ 4194304) : Xp T f_item_List (some ([anyV t], false)) h (some d) ops K ks e Q = Xo T ops K ks ((d, .tup [.ps 1 (anys (asL t)), .bool (decide (t.k = 4))]) :: e) h Q :=
  Xp_run (List_run t [] hw) (by simp [anyV_hf]) (by simp [anys_hfs]) (by simp)
theorem At_p (t : T6) (i : Int) : Xp T f_item_At (some ([anyV t, .int .i64 i], false)) h (some d) ops K ks e Q = Xo T ops K ks ((d, atV t i) :: e) h Q :=
  Xp_run (At_run t i []) (by simp [anyV_hf]) (atV_hf t i) (by simp)
end
def mustN (t : T6) (i : Int) : Int := if t.k = 4 ∧ 0 ≤ i ∧ i < t.l.length then (match t.l[i.toNat]? with | some x => asN x | none => 0) else 0
theorem Must_run (t : T6) (i : Int) (h : Heap) : Run T f_item_Must [anyV t, .int .i64 i] h (.int .u64 (mustN t i)) h := by
  refine Run.start t_item_Must ?_
  unfold k_item_Must mustN
  by_cases c : t.k = 4 ∧ 0 ≤ i ∧ i < t.l.length
  · have g := List.getElem?_eq_getElem (l := t.l) (i := i.toNat) (by omega)
    have ha := atV_some t i _ c.1 c.2.1 g
    rw [if_pos c, g]
    simp (disch := omega) [At_p, ha, asN]
    generalize t.l[i.toNat] = x at *
    rw [any_def]
    by_cases c0 : x.k = 0
    · simp (disch := omega) [c0]
    by_cases c1 : x.k = 1
    · simp (disch := omega) [c1]
    by_cases c2 : x.k = 2
    · simp (disch := omega) [c2]
    by_cases c3 : x.k = 3
    · simp (disch := omega) [c3]
    by_cases c4 : x.k = 4
    · simp (disch := omega) [c4]
    by_cases c5 : x.k = 5
    · simp (disch := omega) [c5]
    by_cases c6 : x.k = 6
    · simp (disch := omega) [c6]
    simp (disch := omega) [c0, c1, c2, c3, c4, c5, c6]
  · rw [if_neg c]
    simp (disch := omega) [At_p, atV_none t i c]
theorem awake6 : ∃ h', Run T f_law06_awake [] [] (.bool true) h' := Run.closed (n := 100) (by kernel_rfl)
section
variable {ks : List Kt} {ops : List AOpr} {K : Kp} {e : Env} {h : Heap} {Q : Ex → Env → Heap → Prop} {d : Nat} {lent : Bool}
theorem Must_p (t : T6) (i : Int) : Xp T f_item_Must (some ([anyV t, .int .i64 i], false)) h (some d) ops K ks e Q = Xo T ops K ks ((d, .int .u64 (mustN t i)) :: e) h Q :=
  Xp_run (Must_run t i []) (by simp [anyV_hf]) rfl (by simp)
theorem awake_p : Xp T f_law06_awake (some ([], lent)) h (some d) ops K ks e Q = Xo T ops K ks ((d, .bool true) :: e) h Q := by
  obtain ⟨h', r⟩ := awake6
  exact Xp_run r (by simp) rfl (by simp [scalar])
theorem Any_p (t : T6) (hw : t.w ≤ 4194304) : Xp T f_law06_Any (some ([t.v], false)) h (some d) ops K ks e Q = Xo T ops K ks ((d, anyV t) :: e) h Q := by
  obtain ⟨h', r⟩ := Any_run _ t (Nat.le_refl _) hw
  exact Xp_run r (by simp [T6.v_hf]) (anyV_hf t) (by simp)
end
end Ev
