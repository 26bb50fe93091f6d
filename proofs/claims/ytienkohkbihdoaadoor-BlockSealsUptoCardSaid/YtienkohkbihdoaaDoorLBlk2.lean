/- Blocks laid, opened and read. Each theorem states its own conditions. -/
import Derived.Test.YtienkohkbihdoaaDoorLBlk
set_option linter.all false
namespace Ev
open Go
set_option maxRecDepth 10000
attribute [-simp] getElem?_pos getElem?_neg List.drop_one

def blkV (ty nu fl k : Int) (s : List UInt8) : V := .agg [.int .u64 ty, .int .u64 nu, .int .u64 fl, .int .i64 k, .str s]
def chkS (nu k : Int) (s : List UInt8) : Int := if nu = 0 ∨ k < 0 ∨ 2 < k then 2 else if 65536 < s.length then 4 else 0
theorem Check_run (ty nu fl k : Int) (s : List UInt8) (h : Heap) : ∃ h', Run T f_block_Check [blkV ty nu fl k s] h (.int .i64 (chkS nu k s)) h' := by
  refine Run.startE t_block_Check ?_
  unfold k_block_Check blkV chkS
  by_cases c1 : nu = 0
  · simp (disch := omega) [c1]
  · by_cases c2 : k < 0
    · simp (disch := omega) [c1, c2]
    · by_cases c3 : 2 < k
      · simp (disch := omega) [c1, c2, c3]
      · by_cases c4 : 65536 < s.length
        · have c5 : (65536 : Int) < s.length := by omega
          simp (disch := omega) [c1, c2, c3, c4, c5]
        · have c5 : ¬ ((65536 : Int) < s.length) := by omega
          simp (disch := omega) [c1, c2, c3, c4, c5]
def vals (ty nu fl k : Int) (s : List UInt8) : List T6 := [num6 ty, num6 nu, num6 fl, num6 k, byt6 s]
theorem anys_vals (ty nu fl k : Int) (s : List UInt8) : anys (vals ty nu fl k s) = [.iface 22 (.int .u64 ty), .iface 22 (.int .u64 nu), .iface 22 (.int .u64 fl), .iface 22 (.int .u64 k), .iface 31 (.ps 1 (bys s))] := rfl
theorem values_run (ty nu fl k : Int) (s : List UInt8) (h : Heap) (hk : 0 ≤ k) (hk2 : k ≤ 2) : ∃ h', Run T f_block_values [blkV ty nu fl k s] h (.ps 1 (anys (vals ty nu fl k s))) h' := by
  refine Run.startE t_block_values ?_
  unfold k_block_values blkV
  rw [anys_vals]
  simp (disch := omega) [sb_bys, bys_hfs]
theorem vals_good (ty nu fl k : Int) (s : List UInt8) (h1 : 0 ≤ ty) (h2 : ty ≤ 18446744073709551615) (h3 : 0 ≤ nu) (h4 : nu ≤ 18446744073709551615) (h5 : 0 ≤ fl) (h6 : fl ≤ 18446744073709551615) (h7 : 0 ≤ k) (h8 : k ≤ 2) (h9 : s.length ≤ 3000000) : GoodL (vals ty nu fl k s) where
  w := by simp [vals, T6.ws, T6.w]; omega
  ok := ⟨⟨by omega, by omega, by simp, trivial⟩, ⟨by omega, by omega, by simp, trivial⟩, ⟨by omega, by omega, by simp, trivial⟩, ⟨by omega, by omega, by simp, trivial⟩, ⟨by omega, by omega, by omega, trivial⟩, trivial⟩
  r := by simp [vals, rgts, rgt]
  d := by simp [vals, dps, dp]; omega
  c := by simp [vals, cnts, cnt]
theorem blk_cells (ty nu fl k : Int) (s : List UInt8) : (blkV ty nu fl k s).cells = [.int .u64 ty, .int .u64 nu, .int .u64 fl, .int .i64 k, .str s] := rfl
theorem blk_fold (ty nu fl k : Int) (s : List UInt8) : V.agg [.int .u64 ty, .int .u64 nu, .int .u64 fl, .int .i64 k, .str s] = blkV ty nu fl k s := rfl
theorem blk_hf (ty nu fl k : Int) (s : List UInt8) : V.hf (blkV ty nu fl k s) = true := by simp [blkV]
theorem blockPut_run (ty nu fl : Int) (k : Nat) (s : List UInt8) (h : Heap) (hl : GoodL (vals ty nu fl k s)) (hk : k = 1 ∨ k = 2) (hc : chkS nu k s = 0) : ∃ h', Run T f_block_Put [blkV ty nu fl k s] h (.tup [.ps 1 (bys (sealB (vals ty nu fl k s) k)), .int .i64 0]) h' := by
  obtain ⟨h1, r1⟩ := Check_run ty nu fl k s []
  obtain ⟨h2, r2⟩ := values_run ty nu fl k s [] (by omega) (by omega)
  obtain ⟨h3, r3⟩ := Seal_run (vals ty nu fl k s) k [] hl hk
  rw [hc] at r1
  refine Run.startE t_block_Put ?_
  unfold k_block_Put blkV
  simp (disch := omega)
  simp only [blk_fold]
  rw [Xp_run r1 (by simp [blk_hf]) (by simp) (by simp)]
  simp (disch := omega)
  simp only [blk_fold]
  rw [Xp_run r2 (by simp [blk_hf]) (by simp [anys_hfs]) (by simp)]
  simp (disch := omega)
  rw [Xp_run r3 (by simp [anys_hfs]) (by simp [bys_hfs]) (by simp)]
  simp (disch := omega)
theorem asB_byt (s : List UInt8) : asB (byt6 s) = s := by simp [asB, T6.k, T6.s]
theorem asL_node (l : List T6) : asL (node l) = l := by simp [asL, T6.k, T6.l]
section
variable {ks : List Kt} {ops : List AOpr} {K : Kp} {e : Env} {h : Heap} {Q : Ex → Env → Heap → Prop} {d : Nat}
theorem Bytes_b (s : List UInt8) (hw : s.length ≤ 3000000) : Xp T f_item_Bytes (some ([.iface 31 (.ps 1 (bys s))], false)) h (some d) ops K ks e Q = Xo T ops K ks ((d, .tup [.ps 1 (bys s), .bool true]) :: e) h Q := by
  have := Bytes_p (ks := ks) (ops := ops) (K := K) (e := e) (h := h) (Q := Q) (d := d) (byt6 s) (by simp [T6.w, T6.ws]; omega)
  rw [any_byt, asB_byt] at this
  exact this
theorem List_n (l : List T6) (hw : (node l).w ≤ 4194304) : Xp T f_item_List (some ([.iface 36 (.ps 1 (anys l))], false)) h (some d) ops K ks e Q = Xo T ops K ks ((d, .tup [.ps 1 (anys l), .bool true]) :: e) h Q := by
  have := List_p (ks := ks) (ops := ops) (K := K) (e := e) (h := h) (Q := Q) (d := d) (node l) hw
  rw [any_node, asL_node] at this
  exact this
end
theorem take_anys (l m : List T6) : (anys (l ++ m)).take l.length = anys l := by
  rw [anys_app, List.take_append_of_le_length (by rw [anys_len]; omega), List.take_of_length_le (by rw [anys_len]; omega)]
def openV (l : List T6) (k : Nat) (S : List UInt8) : V := if sealB l k = enc (node (l ++ [byt6 S])) then .tup [.ps 1 (anys l), .int .i64 k, .int .i64 0] else .tup [.ps 1 [], .int .i64 0, .int .i64 7]
theorem Open_run (l : List T6) (k : Nat) (S : List UInt8) (h : Heap) (hl : GoodL l) (hk : k = 1 ∨ k = 2) (hS : S.length = widthN k) : ∃ h', Run T f_block_Open [.iface 36 (.ps 1 (anys (l ++ [byt6 S])))] h (openV l k S) h' := by
  have wl := widthN_le k
  have g := hl.snoc S (by omega)
  obtain ⟨h3, r3⟩ := Seal_run l k [] hl hk
  have b5 := T6.ws_len l
  have b6 := hl.w
  have hg : (anys (l ++ [byt6 S]))[l.length]? = some (.iface 31 (.ps 1 (bys S))) := by
    rw [anys_get, List.getElem?_append_right (by omega), Nat.sub_self]; rfl
  have htk := take_anys l [byt6 S]
  have hlen : (anys (l ++ [byt6 S])).length = l.length + 1 := by rw [anys_len]; simp
  have pn := fun {ks ops K e h Q d} => Put_node (ks := ks) (ops := ops) (K := K) (e := e) (h := h) (Q := Q) (d := d) _ g
  refine Run.startE t_block_Open ?_
  unfold k_block_Open openV
  have ln := fun {ks ops K e h Q d} => List_n (ks := ks) (ops := ops) (K := K) (e := e) (h := h) (Q := Q) (d := d) (l ++ [byt6 S]) g.w
  have hA := anys_hfs (l ++ [byt6 S])
  generalize anys (l ++ [byt6 S]) = A at *
  generalize enc (node (l ++ [byt6 S])) = E1 at *
  generalize sealB l k = E2 at *
  have z : ¬ ((l.length : Int) + 1 = 0) := by omega
  have zA : ¬ (A = []) := by intro e; rw [e] at hlen; simp at hlen
  have e1 : ((A.length : Int) - 1).toNat = l.length := by omega
  have w1 : (1 : Int) ≤ A.length := by omega
  rcases hk with rfl | rfl
  · have hS2 : (S.length : Int) = 2 := by rw [hS]; rfl
    simp (disch := first | omega | assumption) [ln, z, hlen, hg, Bytes_b, bys_len, hS2, bwidth_1, htk]
    have r4 : Run T f_block_Seal [.ps 1 (anys l), .int .i64 1] [] (.tup [.ps 1 (bys E2), .int .i64 0]) h3 := r3
    rw [Xp_run r4 (by simp [anys_hfs]) (by simp [bys_hfs]) (by simp)]
    simp (disch := first | omega | assumption) [pn, bys_back]
    refine Xb_decn (fun c => ?_) (fun c => ?_)
    · rw [if_neg c]
      simp (disch := omega)
    · rw [if_pos c]
      simp (disch := omega) [hlen, htk]
  · have hS4 : (S.length : Int) = 4 := by rw [hS]; rfl
    simp (disch := first | omega | assumption) [ln, z, hlen, hg, Bytes_b, bys_len, hS4, bwidth_1, bwidth_2, htk]
    have r4 : Run T f_block_Seal [.ps 1 (anys l), .int .i64 2] [] (.tup [.ps 1 (bys E2), .int .i64 0]) h3 := r3
    rw [Xp_run r4 (by simp [anys_hfs]) (by simp [bys_hfs]) (by simp)]
    simp (disch := first | omega | assumption) [pn, bys_back]
    refine Xb_decn (fun c => ?_) (fun c => ?_)
    · rw [if_neg c]
      simp (disch := omega)
    · rw [if_pos c]
      simp (disch := omega) [hlen, htk]

/-- The walk over the number at a place, that a closure makes. -/
theorem Get1_run (t x : T6) (i : Int) (b : Bool) (Z : List V) (g : Heap) (h4 : t.k = 4) (h0 : 0 ≤ i) (hx : t.l[i.toNat]? = some x) : Run T f_block_Get_1 [.int .i64 i, .ptr 0 0, .ptr 2 0] (some [anyV t] :: some Z :: some [.bool b] :: g) (.int .u64 (asN x)) (some [anyV t] :: some Z :: some [.bool (b && decide (x.k = 0))] :: g) := by
  refine Run.start t_block_Get_1 ?_
  unfold k_block_Get_1
  have ha := atV_some t i x h4 h0 hx
  have r0 : ∀ v, Heap.row (some [anyV t] :: some Z :: some [v] :: g) 0 = some [anyV t] := fun v => rfl
  have r2 : ∀ v, Heap.row (some [anyV t] :: some Z :: some [v] :: g) 2 = some [v] := fun v => rfl
  cases b with
  | true => simp (disch := omega) [At_p, ha, Uint_p, r0, r2]
  | false => simp (disch := omega) [At_p, ha, Uint_p, r0, r2]
end Ev
