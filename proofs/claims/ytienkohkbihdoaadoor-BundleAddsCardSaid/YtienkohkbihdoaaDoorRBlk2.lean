/- Blocks laid, opened and read. Blocks read. The reference's sums: by bits, the same numbers. Each theorem states its own conditions. -/
import Derived.Test.YtienkohkbihdoaaDoorRCode
import Derived.Test.YtienkohkbihdoaaDoorRCrc
import Derived.Test.YtienkohkbihdoaaDoorRV6
import Derived.Test.YtienkohkbihdoaaDoorRUt2
set_option linter.all false
namespace Ev
open Go
set_option maxRecDepth 10000
attribute [-simp] getElem?_pos getElem?_neg List.drop_one
def blkV (ty nu fl k : Int) (s : List UInt8) : V := .agg [.int .u64 ty, .int .u64 nu, .int .u64 fl, .int .i64 k, .str s]
def chkS (nu k : Int) (s : List UInt8) : Int := if nu = 0 ∨ k < 0 ∨ 2 < k then 2 else if 65536 < s.length then 4 else 0
theorem Check_run (ty nu fl k : Int) (s : List UInt8) (h : Heap) : ∃ h', Run T f_block_Check [blkV ty nu fl k s] h (.int .i64 (chkS nu k s)) h' := by
  refine Run.startE t_block_Check ?_
  unfold k_block_Check blkV chkS
  by_cases c1 : nu = 0
  · simp (disch := omega) [c1]
  · by_cases c2 : k < 0
    · simp (disch := omega) [c1, c2]
    · by_cases c3 : 2 < k
      · simp (disch := omega) [c1, c2, c3]
      · by_cases c4 : 65536 < s.length
        · have c5 : (65536 : Int) < s.length := by omega
          simp (disch := omega) [c1, c2, c3, c4, c5]
        · have c5 : ¬ ((65536 : Int) < s.length) := by omega
          simp (disch := omega) [c1, c2, c3, c4, c5]
section
variable {ks : List Kt} {ops : List AOpr} {K : Kp} {e : Env} {h : Heap} {Q : Ex → Env → Heap → Prop} {d : Nat}
end
/-- The walk over the number at a place, that a closure makes. -/
theorem Get1_run (t x : T6) (i : Int) (b : Bool) (Z : List V) (g : Heap) (h4 : t.k = 4) (h0 : 0 ≤ i) (hx : t.l[i.toNat]? = some x) : Run T f_block_Get_1 [.int .i64 i, .ptr 0 0, .ptr 2 0] (some [anyV t] :: some Z :: some [.bool b] :: g) (.int .u64 (asN x)) (some [anyV t] :: some Z :: some [.bool (b && decide (x.k = 0))] :: g) := by
  refine Run.start t_block_Get_1 ?_
  unfold k_block_Get_1
  have ha := atV_some t i x h4 h0 hx
  have r0 : ∀ v, Heap.row (some [anyV t] :: some Z :: some [v] :: g) 0 = some [anyV t] := fun v => rfl
  have r2 : ∀ v, Heap.row (some [anyV t] :: some Z :: some [v] :: g) 2 = some [v] := fun v => rfl
  cases b with
  | true => simp (disch := omega) [At_p, ha, Uint_p, r0, r2]
  | false => simp (disch := omega) [At_p, ha, Uint_p, r0, r2]
theorem g1 (t x : T6) (i : Int) (Z : List V) (g : Heap) (h4 : t.k = 4) (h0 : 0 ≤ i) (hx : t.l[i.toNat]? = some x) (hk : x.k = 0) {ks : List Kt} {ops : List AOpr} {K : Kp} {e : Env} {Q : Ex → Env → Heap → Prop} {d : Nat} : Xf T f_block_Get_1 (some [.int .i64 i, .ptr 0 0, .ptr 2 0]) (some [anyV t] :: some Z :: some [.bool true] :: g) (some d) ops K ks e Q = Xo T ops K ks ((d, .int .u64 (asN x)) :: e) (some [anyV t] :: some Z :: some [.bool true] :: g) Q := by
  have := Get1_run t x i true Z g h4 h0 hx
  rw [hk] at this
  exact Xf_run this
/-- A byte's bits, one by one. -/
def rS (p : Nat) : Nat → Nat → Nat → Nat
  | 0, s, _ => s
  | k + 1, s, c => rS p k (if (s + c) % 2 = 1 then xr (s / 2) p else s / 2) (c / 2)
attribute [-simp] bin_xor
section
variable {ks : List Kt} {ops : List AOpr} {K : Kp} {e : Env} {h : Heap} {Q : Ex → Env → Heap → Prop} {d : Nat} {lent : Bool}
end
end Ev
