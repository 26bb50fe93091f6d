/- Blocks read. Each theorem states its own conditions. -/
import Derived.Test.YtienkohkbihdoaaDoorLBlk2
set_option linter.all false
namespace Ev
open Go
set_option maxRecDepth 10000
attribute [-simp] getElem?_pos getElem?_neg List.drop_one

def blkT (ty nu fl : Int) (k : Nat) (s S : List UInt8) : T6 := node (vals ty nu fl k s ++ [byt6 S])
theorem blkT_k (ty nu fl : Int) (k : Nat) (s S : List UInt8) : (blkT ty nu fl k s S).k = 4 := rfl
theorem asN_num (n : Int) : asN (num6 n) = n := rfl
theorem k_num (n : Int) : (num6 n).k = 0 := rfl
theorem blkT_any (ty nu fl : Int) (k : Nat) (s S : List UInt8) : anyV (blkT ty nu fl k s S) = .iface 36 (.ps 1 (anys (vals ty nu fl k s ++ [byt6 S]))) := rfl
theorem g1 (t x : T6) (i : Int) (Z : List V) (g : Heap) (h4 : t.k = 4) (h0 : 0 ≤ i) (hx : t.l[i.toNat]? = some x) (hk : x.k = 0) {ks : List Kt} {ops : List AOpr} {K : Kp} {e : Env} {Q : Ex → Env → Heap → Prop} {d : Nat} : Xf T f_block_Get_1 (some [.int .i64 i, .ptr 0 0, .ptr 2 0]) (some [anyV t] :: some Z :: some [.bool true] :: g) (some d) ops K ks e Q = Xo T ops K ks ((d, .int .u64 (asN x)) :: e) (some [anyV t] :: some Z :: some [.bool true] :: g) Q := by
  have := Get1_run t x i true Z g h4 h0 hx
  rw [hk] at this
  exact Xf_run this
theorem Get_run (ty nu fl : Int) (k : Nat) (s S : List UInt8) (hl : GoodL (vals ty nu fl k s)) (hk : k = 1 ∨ k = 2) (hS : S.length = widthN k) (hc : chkS nu k s = 0) (hs : s.length ≤ 3000000) :
    ∃ h', Run T f_block_Get [anyV (blkT ty nu fl k s S)] [] (if sealB (vals ty nu fl k s) k = enc (blkT ty nu fl k s S) then .tup [blkV ty nu fl k s, .int .i64 0] else .tup [blkV 0 0 0 0 [], .int .i64 7]) h' := by
  have wl := widthN_le k
  have gd := hl.snoc S (by omega)
  obtain ⟨h5, r5⟩ := Open_run (vals ty nu fl k s) k S [] hl hk hS
  obtain ⟨h6, r6⟩ := Check_run ty nu fl k s []
  rw [hc] at r6
  have tl : (blkT ty nu fl k s S).l = [num6 ty, num6 nu, num6 fl, num6 k, byt6 s, byt6 S] := rfl
  have q0 : (blkT ty nu fl k s S).l[(0 : Int).toNat]? = some (num6 ty) := rfl
  have q1 : (blkT ty nu fl k s S).l[(1 : Int).toNat]? = some (num6 nu) := rfl
  have q2 : (blkT ty nu fl k s S).l[(2 : Int).toNat]? = some (num6 fl) := rfl
  have q3 : (blkT ty nu fl k s S).l[(3 : Int).toNat]? = some (num6 k) := rfl
  have n0 := fun {ks ops K e Q d} Z g => g1 (ks := ks) (ops := ops) (K := K) (e := e) (Q := Q) (d := d) _ _ 0 Z g (blkT_k ty nu fl k s S) (by omega) q0 rfl
  have n1 := fun {ks ops K e Q d} Z g => g1 (ks := ks) (ops := ops) (K := K) (e := e) (Q := Q) (d := d) _ _ 1 Z g (blkT_k ty nu fl k s S) (by omega) q1 rfl
  have n2 := fun {ks ops K e Q d} Z g => g1 (ks := ks) (ops := ops) (K := K) (e := e) (Q := Q) (d := d) _ _ 2 Z g (blkT_k ty nu fl k s S) (by omega) q2 rfl
  have n3 := fun {ks ops K e Q d} Z g => g1 (ks := ks) (ops := ops) (K := K) (e := e) (Q := Q) (d := d) _ _ 3 Z g (blkT_k ty nu fl k s S) (by omega) q3 rfl
  have a4 : atV (blkT ty nu fl k s S) 4 = .iface 31 (.ps 1 (bys s)) := atV_some _ 4 (byt6 s) rfl (by omega) rfl
  have pA := fun {ks ops K e h Q d} i => At_p (ks := ks) (ops := ops) (K := K) (e := e) (h := h) (Q := Q) (d := d) (blkT ty nu fl k s S) i
  have hf : T.free f_block_Get_1 = true := rfl
  have pl := fun {ks ops K e h Q d} => List_n (ks := ks) (ops := ops) (K := K) (e := e) (h := h) (Q := Q) (d := d) (vals ty nu fl k s ++ [byt6 S]) gd.w
  have any1 := anyV_one (blkT ty nu fl k s S)
  have anyc := anyV_cells (blkT ty nu fl k s S)
  rw [← blkT_any ty nu fl k s S] at pl r5
  have alen : (anys (vals ty nu fl k s ++ [byt6 S])).length = 6 := by rw [anys_len]; rfl
  have a5 : (anys (vals ty nu fl k s ++ [byt6 S]))[5]? = some (.iface 31 (.ps 1 (bys S))) := rfl
  have ahf := anyV_hf (blkT ty nu fl k s S)
  have eo : openV (vals ty nu fl k s) k S = if sealB (vals ty nu fl k s) k = enc (blkT ty nu fl k s S) then .tup [.ps 1 (anys (vals ty nu fl k s)), .int .i64 k, .int .i64 0] else .tup [.ps 1 [], .int .i64 0, .int .i64 7] := rfl
  rw [eo] at r5
  clear eo tl q0 q1 q2 q3
  have hvs := anys_hfs (vals ty nu fl k s)
  generalize anys (vals ty nu fl k s ++ [byt6 S]) = A at *
  generalize anys (vals ty nu fl k s) = A0 at *
  generalize sealB (vals ty nu fl k s) k = E2 at *
  generalize blkT ty nu fl k s S = t at *
  generalize anyV t = X at *
  generalize enc t = E1 at *
  refine Run.startE t_block_Get ?_
  unfold k_block_Get
  simp (disch := first | omega | assumption) [any1, anyc, n0, n1, n2, n3, asN_num]
  have kp : (0 : Int) < k := by omega
  have kz : ¬ ((2 : Int) < k) := by omega
  have kz2 : ¬ (2 < k) := by omega
  have kp2 : 0 < k := by omega
  simp (disch := first | omega | assumption) [pA, a4, Bytes_b, kp, kp2, pl, kz, kz2, alen, bys_back]
  apply Xc_regf
  simp (disch := first | omega | assumption) [bys_back]
  simp (disch := first | omega | assumption) [flagsIn, flagP, evOp, kp, kp2, a5, Bytes_b, hS, bys_back]
  by_cases he : E2 = E1
  · rw [if_pos he] at r5 ⊢
    rw [Xp_run r5 (by simp [ahf]) (by simp [hvs]) (by simp)]
    simp (disch := omega)
    simp only [blk_fold]
    rw [Xp_run r6 (by simp [blk_hf]) (by simp) (by simp)]
    simp (disch := omega) [blkV]
  · rw [if_neg he] at r5 ⊢
    rw [Xp_run r5 (by simp [ahf]) (by simp) (by simp)]
    simp (disch := omega) [blkV]
end Ev
