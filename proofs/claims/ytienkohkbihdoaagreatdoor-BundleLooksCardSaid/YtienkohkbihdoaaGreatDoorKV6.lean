/- Values as the reference has them: trees of kinds, numbers, letters and parts. Values as the document's types, and taken as types. The bytes of a value. The bytes of a value that may be too deep; values taken as types. Values taken as types, and their parts. Each theorem states its own conditions. -/
import Derived.Test.YtienkohkbihdoaaGreatDoorKCode
import Derived.Test.YtienkohkbihdoaaGreatDoorKUt2
import Derived.Test.YtienkohkbihdoaaGreatDoorKBy
import Derived.KernelRfl
set_option linter.all false
namespace Ev
open Go
set_option maxRecDepth 10000
attribute [-simp] getElem?_pos getElem?_neg List.drop_one
inductive T6 where
  | mk (k n : Int) (s : List UInt8) (l : List T6)
namespace T6
def k : T6 → Int | .mk k _ _ _ => k
def n : T6 → Int | .mk _ n _ _ => n
def s : T6 → List UInt8 | .mk _ _ s _ => s
def l : T6 → List T6 | .mk _ _ _ l => l
mutual
def v : T6 → V
  | .mk k n s l => .agg [.int .i64 k, .int .u64 n, .str s, .ps 4 (vs l)]
def vs : List T6 → List V
  | [] => []
  | x :: r => v x :: vs r
end
mutual
/-- How many values there are, and letters. -/
def w : T6 → Nat
  | .mk _ _ s l => 1 + s.length + ws l
def ws : List T6 → Nat
  | [] => 0
  | x :: r => w x + ws r
end
mutual
def ok : T6 → Prop
  | .mk k n s l => (-9223372036854775808 ≤ k ∧ k ≤ 9223372036854775807) ∧ (0 ≤ n ∧ n ≤ 18446744073709551615) ∧ s.length ≤ 140737488351232 ∧ oks l
def oks : List T6 → Prop
  | [] => True
  | x :: r => ok x ∧ oks r
end
end T6
mutual
def dp : T6 → Int
  | .mk k _ _ l => if k = 4 then dps l else 0
def dps : List T6 → Int
  | [] => 0
  | x :: r => max (dp x + 1) (dps r)
end
mutual
def cnt : T6 → Nat
  | .mk k _ _ l => if k = 4 then 1 + cnts l else 1
def cnts : List T6 → Nat
  | [] => 0
  | x :: r => cnt x + cnts r
end
mutual
theorem dp_le : ∀ t : T6, 0 ≤ dp t ∧ dp t + 1 ≤ t.w
  | .mk k n s l => by
    have := dps_le l
    unfold dp T6.w
    split <;> omega
theorem dps_le : ∀ l : List T6, 0 ≤ dps l ∧ dps l ≤ T6.ws l
  | [] => by simp [dps, T6.ws]
  | x :: r => by
    have := dp_le x
    have := dps_le r
    simp only [dps, T6.ws]
    omega
end
mutual
/-- Are its texts right, and its kinds ones that there are? -/
def rgt : T6 → Bool
  | .mk k _ s l => decide (0 ≤ k) && decide (k ≤ 7) && (decide (k ≠ 3) || valid s) && (decide (k ≠ 4) || rgts l)
def rgts : List T6 → Bool
  | [] => true
  | x :: r => rgt x && rgts r
end
@[simp] theorem ta_eq (t : Nat) (z v : V) : taV t z true (.iface t v) = some (.tup [v, .bool true]) := by simp [taV]
@[simp] theorem ta_ne (t t' : Nat) (z v : V) (h : t' ≠ t) : taV t z true (.iface t' v) = some (.tup [z, .bool false]) := by simp [taV, h]
@[simp] theorem ta_nil (t : Nat) (z : V) : taV t z true .nili = some (.tup [z, .bool false]) := by simp [taV]
@[simp] theorem ta_f (t : Nat) (z v : V) : taV t z false (.iface t v) = some v := by simp [taV]
mutual
def anyV : T6 → V
  | .mk k n s l => if k = 0 then .iface 22 (.int .u64 n) else if k = 1 then .iface 127 (.int .u64 n) else if k = 2 then .iface 36 (.ps 1 (bys s)) else if k = 3 then .iface 9 (.str s) else
    if k = 4 then .iface 84 (.ps 1 (anys l)) else if k = 5 then .iface 4 (.bool false) else if k = 6 then .iface 4 (.bool true) else .nili
def anys : List T6 → List V
  | [] => []
  | x :: r => anyV x :: anys r
end
theorem anys_map : ∀ l : List T6, anys l = l.map anyV
  | [] => rfl
  | x :: r => by rw [anys, anys_map r]; rfl
theorem anys_len (l : List T6) : (anys l).length = l.length := by rw [anys_map]; simp
theorem anys_get (l : List T6) (i : Nat) : (anys l)[i]? = (l[i]?).map anyV := by rw [anys_map]; simp
mutual
theorem anyV_hf : ∀ t : T6, V.hf (anyV t) = true
  | .mk k n s l => by unfold anyV; (repeat' split) <;> simp [bys_hfs, anys_hfs l]
theorem anys_hfs : ∀ l : List T6, V.hfs (anys l) = true
  | [] => rfl
  | x :: r => by simp [anys, anyV_hf x, anys_hfs r]
end
theorem anyV_cells (t : T6) : (anyV t).cells = [anyV t] := by
  obtain ⟨k, n, s, l⟩ := t
  unfold anyV
  (repeat' split) <;> rfl
mutual
/-- The bytes of a value. -/
def enc : T6 → List UInt8
  | .mk k n s l => if k = 0 then hdB 0 n.toNat else if k = 1 then hdB 1 n.toNat else if k = 2 then hdB 2 s.length ++ s else if k = 3 then hdB 3 s.length ++ s else
    if k = 4 then hdB 4 l.length ++ encs l else if k = 5 then hdB 7 20 else if k = 6 then hdB 7 21 else hdB 7 22
def encs : List T6 → List UInt8
  | [] => []
  | x :: r => enc x ++ encs r
end
mutual
theorem enc_len : ∀ t : T6, (enc t).length ≤ 9 * t.w
  | .mk k n s l => by
    have h1 := encs_len l
    have h2 := fun m n => hdB_len m n
    unfold enc T6.w
    (repeat' split) <;> (try simp only [List.length_append]) <;> first | (have := h2 0 n.toNat; omega) | (have := h2 1 n.toNat; omega) | (have := h2 2 s.length; omega) | (have := h2 3 s.length; omega) | (have := h2 4 l.length; omega) | (have := h2 7 20; omega) | (have := h2 7 21; omega) | (have := h2 7 22; omega)
theorem encs_len : ∀ l : List T6, (encs l).length ≤ 9 * T6.ws l
  | [] => by simp [encs, T6.ws]
  | x :: r => by
    have := enc_len x
    have := encs_len r
    simp only [encs, T6.ws, List.length_append]
    omega
end
/-- What laying a value comes to: bytes, an error, a count. -/
def LayP (h : Heap) (lo hi len : Nat) (v : V) (h' : Heap) : Prop := ∃ (b : List UInt8) (er : Int) (c : Nat), v = .tup [.ps 1 (bys b), .int .i64 er] ∧ h' = h ++ [some [.int .i64 (c : Int)]] ∧ lo ≤ c ∧ c ≤ hi ∧ b.length ≤ len
theorem LayP.nil {h : Heap} {lo hi len : Nat} (er : Int) (c : Nat) (h1 : lo ≤ c) (h2 : c ≤ hi) : LayP h lo hi len (.tup [.ps 1 [], .int .i64 er]) (h ++ [some [.int .i64 (c : Int)]]) := ⟨[], er, c, rfl, rfl, h1, h2, by simp⟩
def asN (t : T6) : Int := if t.k = 0 then t.n else 0
theorem any_def (t : T6) : anyV t = if t.k = 0 then .iface 22 (.int .u64 t.n) else if t.k = 1 then .iface 127 (.int .u64 t.n) else if t.k = 2 then .iface 36 (.ps 1 (bys t.s)) else if t.k = 3 then .iface 9 (.str t.s) else
    if t.k = 4 then .iface 84 (.ps 1 (anys t.l)) else if t.k = 5 then .iface 4 (.bool false) else if t.k = 6 then .iface 4 (.bool true) else .nili := by
  cases t
  rfl
theorem Uint_run (t : T6) (h : Heap) : Run T f_item_Uint [anyV t] h (.tup [.int .u64 (asN t), .bool (decide (t.k = 0))]) h := by
  refine Run.start t_item_Uint ?_
  unfold k_item_Uint asN
  rw [any_def]
  by_cases c0 : t.k = 0
  · simp (disch := omega) [c0]
  by_cases c1 : t.k = 1
  · simp (disch := omega) [c1]
  by_cases c2 : t.k = 2
  · simp (disch := omega) [c2]
  by_cases c3 : t.k = 3
  · simp (disch := omega) [c3]
  by_cases c4 : t.k = 4
  · simp (disch := omega) [c4]
  by_cases c5 : t.k = 5
  · simp (disch := omega) [c5]
  by_cases c6 : t.k = 6
  · simp (disch := omega) [c6]
  simp (disch := omega) [c0, c1, c2, c3, c4, c5, c6]
/-- The value at a place, if there is one. -/
def atV (t : T6) (i : Int) : V := if t.k = 4 ∧ 0 ≤ i ∧ i < t.l.length then (match t.l[i.toNat]? with | some x => anyV x | none => .nili) else .nili
theorem At_run (t : T6) (i : Int) (h : Heap) : Run T f_item_At [anyV t, .int .i64 i] h (atV t i) h := by
  refine Run.start t_item_At ?_
  unfold k_item_At atV
  rw [any_def]
  by_cases c0 : t.k = 0
  · simp (disch := omega) [c0]
  by_cases c1 : t.k = 1
  · simp (disch := omega) [c1]
  by_cases c2 : t.k = 2
  · simp (disch := omega) [c2]
  by_cases c3 : t.k = 3
  · simp (disch := omega) [c3]
  by_cases c4 : t.k = 4
  · by_cases d0 : 0 ≤ i
    · by_cases d1 : i < t.l.length
      · have g := List.getElem?_eq_getElem (l := t.l) (i := i.toNat) (by omega)
        simp (disch := omega) [c4, d0, d1, anys_len, anys_get, g, anyV_cells]
      · simp (disch := omega) [c4, d0, d1, anys_len]
    · simp (disch := omega) [c4, d0]
  by_cases c5 : t.k = 5
  · simp (disch := omega) [c5]
  by_cases c6 : t.k = 6
  · simp (disch := omega) [c6]
  simp (disch := omega) [c0, c1, c2, c3, c4, c5, c6]
theorem atV_some (t : T6) (i : Int) (x : T6) (h4 : t.k = 4) (h0 : 0 ≤ i) (hx : t.l[i.toNat]? = some x) : atV t i = anyV x := by
  have : i.toNat < t.l.length := by
    rcases Nat.lt_or_ge i.toNat t.l.length with c | c
    · exact c
    · rw [List.getElem?_eq_none c] at hx; cases hx
  unfold atV
  rw [if_pos ⟨h4, h0, by omega⟩, hx]
theorem atV_hf (t : T6) (i : Int) : V.hf (atV t i) = true := by
  unfold atV
  split
  · split
    · exact anyV_hf _
    · rfl
  · rfl
section
variable {ks : List Kt} {ops : List AOpr} {K : Kp} {e : Env} {h : Heap} {Q : Ex → Env → Heap → Prop} {d : Nat}
theorem Uint_p (t : T6) : Xp T f_item_Uint (some ([anyV t], false)) h (some d) ops K ks e Q = Xo T ops K ks ((d, .tup [.int .u64 (asN t), .bool (decide (t.k = 0))]) :: e) h Q :=
  Xp_run (Uint_run t []) (by simp [anyV_hf]) (by simp) (by simp)
theorem At_p (t : T6) (i : Int) : Xp T f_item_At (some ([anyV t, .int .i64 i], false)) h (some d) ops K ks e Q = Xo T ops K ks ((d, atV t i) :: e) h Q :=
  Xp_run (At_run t i []) (by simp [anyV_hf]) (atV_hf t i) (by simp)
end
section
variable {ks : List Kt} {ops : List AOpr} {K : Kp} {e : Env} {h : Heap} {Q : Ex → Env → Heap → Prop} {d : Nat} {lent : Bool}
end
end Ev
