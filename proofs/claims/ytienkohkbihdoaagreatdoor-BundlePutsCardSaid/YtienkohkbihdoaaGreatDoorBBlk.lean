/- Lists with their sums. Blocks laid, opened and read. Blocks read. The reference's bytes of numbers and heads. Each theorem states its own conditions. -/
import Derived.Test.YtienkohkbihdoaaGreatDoorBCode
import Derived.Test.YtienkohkbihdoaaGreatDoorBCrc
import Derived.Test.YtienkohkbihdoaaGreatDoorBRd3
import Derived.Test.YtienkohkbihdoaaGreatDoorBV6
set_option linter.all false
namespace Ev
open Go
set_option maxRecDepth 10000
attribute [-simp] getElem?_pos getElem?_neg List.drop_one
abbrev node (l : List T6) : T6 := .mk 4 0 [] l
abbrev byt6 (s : List UInt8) : T6 := .mk 2 0 s []
abbrev num6 (n : Int) : T6 := .mk 0 n [] []
theorem ws_app : ∀ (a b : List T6), T6.ws (a ++ b) = T6.ws a + T6.ws b
  | [], b => by simp [T6.ws]
  | x :: r, b => by simp only [List.cons_append, T6.ws, ws_app r b]; omega
theorem cnts_app : ∀ (a b : List T6), cnts (a ++ b) = cnts a + cnts b
  | [], b => by simp [cnts]
  | x :: r, b => by simp only [List.cons_append, cnts, cnts_app r b]; omega
theorem dps_app : ∀ (a b : List T6), dps (a ++ b) = max (dps a) (dps b)
  | [], b => by have := (dps_le b).1; simp [dps]; omega
  | x :: r, b => by simp only [List.cons_append, dps, dps_app r b]; omega
theorem oks_app : ∀ (a b : List T6), T6.oks (a ++ b) ↔ T6.oks a ∧ T6.oks b
  | [], b => by simp [T6.oks]
  | x :: r, b => by simp only [List.cons_append, T6.oks, oks_app r b, and_assoc]
theorem rgts_app : ∀ (a b : List T6), rgts (a ++ b) = (rgts a && rgts b)
  | [], b => by simp [rgts]
  | x :: r, b => by simp only [List.cons_append, rgts, rgts_app r b, Bool.and_assoc]
/-- A value that can be laid. -/
structure Good (t : T6) : Prop where
  w : t.w ≤ 4194304
  ok : t.ok
  r : rgt t = true
  d : dp t ≤ 16
  c : cnt t ≤ 4096
structure GoodL (l : List T6) : Prop where
  w : T6.ws l ≤ 4000000
  ok : T6.oks l
  r : rgts l = true
  d : dps l ≤ 15
  c : cnts l ≤ 4000
theorem GoodL.node {l : List T6} (h : GoodL l) : Good (node l) where
  w := by have := h.w; simp only [Ev.node, T6.w, List.length_nil]; omega
  ok := ⟨by omega, by omega, by simp, h.ok⟩
  r := by simp [rgt, h.r]
  d := by have := h.d; simp only [Ev.node, dp, if_true]; omega
  c := by have := h.c; simp only [Ev.node, cnt, if_true]; omega
theorem GoodL.snoc {l : List T6} (h : GoodL l) (s : List UInt8) (hs : s.length ≤ 1000) : Good (Ev.node (l ++ [byt6 s])) where
  w := by have := h.w; simp only [Ev.node, T6.w, ws_app, T6.ws, List.length_nil]; omega
  ok := ⟨by omega, by omega, by simp, (oks_app _ _).2 ⟨h.ok, ⟨by omega, by omega, by omega, trivial⟩, trivial⟩⟩
  r := by simp [rgt, rgts_app, h.r, rgts]
  d := by have := h.d; simp only [Ev.node, dp, if_true, dps_app, dps]; simp; omega
  c := by have := h.c; simp only [Ev.node, cnt, if_true, cnts_app, cnts]; simp; omega
theorem any_node (l : List T6) : anyV (node l) = .iface 84 (.ps 1 (anys l)) := rfl
theorem any_byt (s : List UInt8) : anyV (byt6 s) = .iface 36 (.ps 1 (bys s)) := rfl
theorem enc_node (l : List T6) : enc (node l) = hdB 4 l.length ++ encs l := rfl
section
variable {ks : List Kt} {ops : List AOpr} {K : Kp} {e : Env} {h : Heap} {Q : Ex → Env → Heap → Prop} {d : Nat}
theorem Put_g (t : T6) (g : Good t) : Xp T f_item_Put (some ([anyV t], false)) h (some d) ops K ks e Q = Xo T ops K ks ((d, .tup [.ps 1 (bys (enc t)), .int .i64 0]) :: e) h Q := itemPut_p t g.w g.ok g.r g.d g.c
theorem Put_snoc (l : List T6) (s : List UInt8) (g : Good (node (l ++ [byt6 s]))) : Xp T f_item_Put (some ([.iface 84 (.ps 1 (anys l ++ [.iface 36 (.ps 1 (bys s))]))], false)) h (some d) ops K ks e Q = Xo T ops K ks ((d, .tup [.ps 1 (bys (enc (node (l ++ [byt6 s])))), .int .i64 0]) :: e) h Q := by
  have := Put_g (ks := ks) (ops := ops) (K := K) (e := e) (h := h) (Q := Q) (d := d) _ g
  rw [any_node, anys_app] at this
  exact this
theorem Put_node (l : List T6) (g : Good (node l)) : Xp T f_item_Put (some ([.iface 84 (.ps 1 (anys l))], false)) h (some d) ops K ks e Q = Xo T ops K ks ((d, .tup [.ps 1 (bys (enc (node l))), .int .i64 0]) :: e) h Q := Put_g _ g
end
theorem Seal1_run (l : List T6) (s : List UInt8) (h : Heap) (hl : GoodL l) (hs : s.length ≤ 1000) : Run T f_block_Seal_1 [.ps 1 (bys s), .ptr h.length 0] (h ++ [some [.ps 1 (anys l)]]) (.tup [.ps 1 (bys (enc (node (l ++ [byt6 s])))), .int .i64 0]) (h ++ [some [.ps 1 (anys l)]]) := by
  refine Run.start t_block_Seal_1 ?_
  unfold k_block_Seal_1
  have g := hl.snoc s hs
  have := T6.ws_len l
  have := hl.w
  simp (disch := first | omega | assumption) [anys_len, Put_snoc]
def sealB (l : List T6) (kind : Nat) : List UInt8 := enc (node (l ++ [byt6 (sumB kind (enc (node (l ++ [byt6 (List.replicate (widthN kind) 0)]))))]))
theorem Seal_run (l : List T6) (kind : Nat) (h : Heap) (hl : GoodL l) (hk : kind = 1 ∨ kind = 2) : ∃ h', Run T f_block_Seal [.ps 1 (anys l), .int .i64 kind] h (.tup [.ps 1 (bys (sealB l kind)), .int .i64 0]) h' := by
  refine Run.startE t_block_Seal ?_
  unfold k_block_Seal
  have wl := widthN_le kind
  have k1 : ¬ ((kind : Int) < 0) := by omega
  have k2 : ¬ ((2 : Int) < kind) := by omega
  have k3 : ¬ ((kind : Int) = 0) := by omega
  have z : (List.replicate (widthN kind) (V.int .u8 0)) = bys (List.replicate (widthN kind) 0) := bys_rep _
  have r1 := Seal1_run l (List.replicate (widthN kind) 0) h hl (by simp; omega)
  have el := enc_len (node (l ++ [byt6 (List.replicate (widthN kind) 0)]))
  have ew := (hl.snoc (List.replicate (widthN kind) 0) (by simp; omega)).w
  have r2 := bsum_run kind (enc (node (l ++ [byt6 (List.replicate (widthN kind) 0)]))) [] (by omega)
  have r3 := Seal1_run l (sumB kind (enc (node (l ++ [byt6 (List.replicate (widthN kind) 0)])))) h hl (by rw [sumB_len]; omega)
  have hf : T.free f_block_Seal_1 = true := rfl
  have e0 : enc (node (l ++ [byt6 (sumB kind (enc (node (l ++ [byt6 (List.replicate (widthN kind) 0)]))))])) = sealB l kind := rfl
  rw [e0] at r3
  generalize enc (node (l ++ [byt6 (List.replicate (widthN kind) 0)])) = E0 at *
  generalize sealB l kind = E1 at *
  generalize hS : sumB kind E0 = S at *
  have kz : ¬ kind = 0 := by omega
  simp (disch := first | omega | assumption) [k1, k2, k3, kz, bwidth_p, z]
  rw [Xf_run r1]
  simp (disch := first | omega | assumption)
  rw [Xp_run r2 (by simp [bys_hfs]) (by simp [bys_hfs]) (by simp)]
  simp (disch := first | omega | assumption)
  rw [Xf_run r3]
  simp (disch := omega)
def blkV (ty nu fl k : Int) (s : List UInt8) : V := .agg [.int .u64 ty, .int .u64 nu, .int .u64 fl, .int .i64 k, .str s]
def chkS (nu k : Int) (s : List UInt8) : Int := if nu = 0 ∨ k < 0 ∨ 2 < k then 2 else if 65536 < s.length then 4 else 0
theorem Check_run (ty nu fl k : Int) (s : List UInt8) (h : Heap) : ∃ h', Run T f_block_Check [blkV ty nu fl k s] h (.int .i64 (chkS nu k s)) h' := by
  refine Run.startE t_block_Check ?_
  unfold k_block_Check blkV chkS
  by_cases c1 : nu = 0
  · simp (disch := omega) [c1]
  · by_cases c2 : k < 0
    · simp (disch := omega) [c1, c2]
    · by_cases c3 : 2 < k
      · simp (disch := omega) [c1, c2, c3]
      · by_cases c4 : 65536 < s.length
        · have c5 : (65536 : Int) < s.length := by omega
          simp (disch := omega) [c1, c2, c3, c4, c5]
        · have c5 : ¬ ((65536 : Int) < s.length) := by omega
          simp (disch := omega) [c1, c2, c3, c4, c5]
def vals (ty nu fl k : Int) (s : List UInt8) : List T6 := [num6 ty, num6 nu, num6 fl, num6 k, byt6 s]
theorem anys_vals (ty nu fl k : Int) (s : List UInt8) : anys (vals ty nu fl k s) = [.iface 22 (.int .u64 ty), .iface 22 (.int .u64 nu), .iface 22 (.int .u64 fl), .iface 22 (.int .u64 k), .iface 36 (.ps 1 (bys s))] := rfl
theorem values_run (ty nu fl k : Int) (s : List UInt8) (h : Heap) (hk : 0 ≤ k) (hk2 : k ≤ 2) : ∃ h', Run T f_block_values [blkV ty nu fl k s] h (.ps 1 (anys (vals ty nu fl k s))) h' := by
  refine Run.startE t_block_values ?_
  unfold k_block_values blkV
  rw [anys_vals]
  simp (disch := omega) [sb_bys, bys_hfs]
theorem vals_good (ty nu fl k : Int) (s : List UInt8) (h1 : 0 ≤ ty) (h2 : ty ≤ 18446744073709551615) (h3 : 0 ≤ nu) (h4 : nu ≤ 18446744073709551615) (h5 : 0 ≤ fl) (h6 : fl ≤ 18446744073709551615) (h7 : 0 ≤ k) (h8 : k ≤ 2) (h9 : s.length ≤ 3000000) : GoodL (vals ty nu fl k s) where
  w := by simp [vals, T6.ws, T6.w]; omega
  ok := ⟨⟨by omega, by omega, by simp, trivial⟩, ⟨by omega, by omega, by simp, trivial⟩, ⟨by omega, by omega, by simp, trivial⟩, ⟨by omega, by omega, by simp, trivial⟩, ⟨by omega, by omega, by omega, trivial⟩, trivial⟩
  r := by simp [vals, rgts, rgt]
  d := by simp [vals, dps, dp]; omega
  c := by simp [vals, cnts, cnt]
theorem blk_fold (ty nu fl k : Int) (s : List UInt8) : V.agg [.int .u64 ty, .int .u64 nu, .int .u64 fl, .int .i64 k, .str s] = blkV ty nu fl k s := rfl
theorem blk_hf (ty nu fl k : Int) (s : List UInt8) : V.hf (blkV ty nu fl k s) = true := by simp [blkV]
theorem blockPut_run (ty nu fl : Int) (k : Nat) (s : List UInt8) (h : Heap) (hl : GoodL (vals ty nu fl k s)) (hk : k = 1 ∨ k = 2) (hc : chkS nu k s = 0) : ∃ h', Run T f_block_Put [blkV ty nu fl k s] h (.tup [.ps 1 (bys (sealB (vals ty nu fl k s) k)), .int .i64 0]) h' := by
  obtain ⟨h1, r1⟩ := Check_run ty nu fl k s []
  obtain ⟨h2, r2⟩ := values_run ty nu fl k s [] (by omega) (by omega)
  obtain ⟨h3, r3⟩ := Seal_run (vals ty nu fl k s) k [] hl hk
  rw [hc] at r1
  refine Run.startE t_block_Put ?_
  unfold k_block_Put blkV
  simp (disch := omega)
  simp only [blk_fold]
  rw [Xp_run r1 (by simp [blk_hf]) (by simp) (by simp)]
  simp (disch := omega)
  simp only [blk_fold]
  rw [Xp_run r2 (by simp [blk_hf]) (by simp [anys_hfs]) (by simp)]
  simp (disch := omega)
  rw [Xp_run r3 (by simp [anys_hfs]) (by simp [bys_hfs]) (by simp)]
  simp (disch := omega)
theorem asB_byt (s : List UInt8) : asB (byt6 s) = s := by simp [asB, T6.k, T6.s]
theorem asL_node (l : List T6) : asL (node l) = l := by simp [asL, T6.k, T6.l]
section
variable {ks : List Kt} {ops : List AOpr} {K : Kp} {e : Env} {h : Heap} {Q : Ex → Env → Heap → Prop} {d : Nat}
theorem Bytes_b (s : List UInt8) (hw : s.length ≤ 3000000) : Xp T f_item_Bytes (some ([.iface 36 (.ps 1 (bys s))], false)) h (some d) ops K ks e Q = Xo T ops K ks ((d, .tup [.ps 1 (bys s), .bool true]) :: e) h Q := by
  have := Bytes_p (ks := ks) (ops := ops) (K := K) (e := e) (h := h) (Q := Q) (d := d) (byt6 s) (by simp [T6.w, T6.ws]; omega)
  rw [any_byt, asB_byt] at this
  exact this
theorem List_n (l : List T6) (hw : (node l).w ≤ 4194304) : Xp T f_item_List (some ([.iface 84 (.ps 1 (anys l))], false)) h (some d) ops K ks e Q = Xo T ops K ks ((d, .tup [.ps 1 (anys l), .bool true]) :: e) h Q := by
  have := List_p (ks := ks) (ops := ops) (K := K) (e := e) (h := h) (Q := Q) (d := d) (node l) hw
  rw [any_node, asL_node] at this
  exact this
end
theorem take_anys (l m : List T6) : (anys (l ++ m)).take l.length = anys l := by
  rw [anys_app, List.take_append_of_le_length (by rw [anys_len]; omega), List.take_of_length_le (by rw [anys_len]; omega)]
def openV (l : List T6) (k : Nat) (S : List UInt8) : V := if sealB l k = enc (node (l ++ [byt6 S])) then .tup [.ps 1 (anys l), .int .i64 k, .int .i64 0] else .tup [.ps 1 [], .int .i64 0, .int .i64 7]
theorem Open_run (l : List T6) (k : Nat) (S : List UInt8) (h : Heap) (hl : GoodL l) (hk : k = 1 ∨ k = 2) (hS : S.length = widthN k) : ∃ h', Run T f_block_Open [.iface 84 (.ps 1 (anys (l ++ [byt6 S])))] h (openV l k S) h' := by
  have wl := widthN_le k
  have g := hl.snoc S (by omega)
  obtain ⟨h3, r3⟩ := Seal_run l k [] hl hk
  have b5 := T6.ws_len l
  have b6 := hl.w
  have hg : (anys (l ++ [byt6 S]))[l.length]? = some (.iface 36 (.ps 1 (bys S))) := by
    rw [anys_get, List.getElem?_append_right (by omega), Nat.sub_self]; rfl
  have htk := take_anys l [byt6 S]
  have hlen : (anys (l ++ [byt6 S])).length = l.length + 1 := by rw [anys_len]; simp
  have pn := fun {ks ops K e h Q d} => Put_node (ks := ks) (ops := ops) (K := K) (e := e) (h := h) (Q := Q) (d := d) _ g
  refine Run.startE t_block_Open ?_
  unfold k_block_Open openV
  have ln := fun {ks ops K e h Q d} => List_n (ks := ks) (ops := ops) (K := K) (e := e) (h := h) (Q := Q) (d := d) (l ++ [byt6 S]) g.w
  have hA := anys_hfs (l ++ [byt6 S])
  generalize anys (l ++ [byt6 S]) = A at *
  generalize enc (node (l ++ [byt6 S])) = E1 at *
  generalize sealB l k = E2 at *
  have z : ¬ ((l.length : Int) + 1 = 0) := by omega
  have zA : ¬ (A = []) := by intro e; rw [e] at hlen; simp at hlen
  have e1 : ((A.length : Int) - 1).toNat = l.length := by omega
  have w1 : (1 : Int) ≤ A.length := by omega
  rcases hk with rfl | rfl
  · have hS2 : (S.length : Int) = 2 := by rw [hS]; rfl
    simp (disch := first | omega | assumption) [ln, z, hlen, hg, Bytes_b, bys_len, hS2, bwidth_1, htk]
    have r4 : Run T f_block_Seal [.ps 1 (anys l), .int .i64 1] [] (.tup [.ps 1 (bys E2), .int .i64 0]) h3 := r3
    rw [Xp_run r4 (by simp [anys_hfs]) (by simp [bys_hfs]) (by simp)]
    simp (disch := first | omega | assumption) [pn, bys_back]
    refine Xb_decn (fun c => ?_) (fun c => ?_)
    · rw [if_neg c]
      simp (disch := omega)
    · rw [if_pos c]
      simp (disch := omega) [hlen, htk]
  · have hS4 : (S.length : Int) = 4 := by rw [hS]; rfl
    simp (disch := first | omega | assumption) [ln, z, hlen, hg, Bytes_b, bys_len, hS4, bwidth_1, bwidth_2, htk]
    have r4 : Run T f_block_Seal [.ps 1 (anys l), .int .i64 2] [] (.tup [.ps 1 (bys E2), .int .i64 0]) h3 := r3
    rw [Xp_run r4 (by simp [anys_hfs]) (by simp [bys_hfs]) (by simp)]
    simp (disch := first | omega | assumption) [pn, bys_back]
    refine Xb_decn (fun c => ?_) (fun c => ?_)
    · rw [if_neg c]
      simp (disch := omega)
    · rw [if_pos c]
      simp (disch := omega) [hlen, htk]
/-- The walk over the number at a place, that a closure makes. -/
theorem Get1_run (t x : T6) (i : Int) (b : Bool) (Z : List V) (g : Heap) (h4 : t.k = 4) (h0 : 0 ≤ i) (hx : t.l[i.toNat]? = some x) : Run T f_block_Get_1 [.int .i64 i, .ptr 0 0, .ptr 2 0] (some [anyV t] :: some Z :: some [.bool b] :: g) (.int .u64 (asN x)) (some [anyV t] :: some Z :: some [.bool (b && decide (x.k = 0))] :: g) := by
  refine Run.start t_block_Get_1 ?_
  unfold k_block_Get_1
  have ha := atV_some t i x h4 h0 hx
  have r0 : ∀ v, Heap.row (some [anyV t] :: some Z :: some [v] :: g) 0 = some [anyV t] := fun v => rfl
  have r2 : ∀ v, Heap.row (some [anyV t] :: some Z :: some [v] :: g) 2 = some [v] := fun v => rfl
  cases b with
  | true => simp (disch := omega) [At_p, ha, Uint_p, r0, r2]
  | false => simp (disch := omega) [At_p, ha, Uint_p, r0, r2]
def blkT (ty nu fl : Int) (k : Nat) (s S : List UInt8) : T6 := node (vals ty nu fl k s ++ [byt6 S])
theorem blkT_k (ty nu fl : Int) (k : Nat) (s S : List UInt8) : (blkT ty nu fl k s S).k = 4 := rfl
theorem asN_num (n : Int) : asN (num6 n) = n := rfl
theorem blkT_any (ty nu fl : Int) (k : Nat) (s S : List UInt8) : anyV (blkT ty nu fl k s S) = .iface 84 (.ps 1 (anys (vals ty nu fl k s ++ [byt6 S]))) := rfl
theorem g1 (t x : T6) (i : Int) (Z : List V) (g : Heap) (h4 : t.k = 4) (h0 : 0 ≤ i) (hx : t.l[i.toNat]? = some x) (hk : x.k = 0) {ks : List Kt} {ops : List AOpr} {K : Kp} {e : Env} {Q : Ex → Env → Heap → Prop} {d : Nat} : Xf T f_block_Get_1 (some [.int .i64 i, .ptr 0 0, .ptr 2 0]) (some [anyV t] :: some Z :: some [.bool true] :: g) (some d) ops K ks e Q = Xo T ops K ks ((d, .int .u64 (asN x)) :: e) (some [anyV t] :: some Z :: some [.bool true] :: g) Q := by
  have := Get1_run t x i true Z g h4 h0 hx
  rw [hk] at this
  exact Xf_run this
theorem Get_run (ty nu fl : Int) (k : Nat) (s S : List UInt8) (hl : GoodL (vals ty nu fl k s)) (hk : k = 1 ∨ k = 2) (hS : S.length = widthN k) (hc : chkS nu k s = 0) (hs : s.length ≤ 3000000) :
    ∃ h', Run T f_block_Get [anyV (blkT ty nu fl k s S)] [] (if sealB (vals ty nu fl k s) k = enc (blkT ty nu fl k s S) then .tup [blkV ty nu fl k s, .int .i64 0] else .tup [blkV 0 0 0 0 [], .int .i64 7]) h' := by
  have wl := widthN_le k
  have gd := hl.snoc S (by omega)
  obtain ⟨h5, r5⟩ := Open_run (vals ty nu fl k s) k S [] hl hk hS
  obtain ⟨h6, r6⟩ := Check_run ty nu fl k s []
  rw [hc] at r6
  have tl : (blkT ty nu fl k s S).l = [num6 ty, num6 nu, num6 fl, num6 k, byt6 s, byt6 S] := rfl
  have q0 : (blkT ty nu fl k s S).l[(0 : Int).toNat]? = some (num6 ty) := rfl
  have q1 : (blkT ty nu fl k s S).l[(1 : Int).toNat]? = some (num6 nu) := rfl
  have q2 : (blkT ty nu fl k s S).l[(2 : Int).toNat]? = some (num6 fl) := rfl
  have q3 : (blkT ty nu fl k s S).l[(3 : Int).toNat]? = some (num6 k) := rfl
  have n0 := fun {ks ops K e Q d} Z g => g1 (ks := ks) (ops := ops) (K := K) (e := e) (Q := Q) (d := d) _ _ 0 Z g (blkT_k ty nu fl k s S) (by omega) q0 rfl
  have n1 := fun {ks ops K e Q d} Z g => g1 (ks := ks) (ops := ops) (K := K) (e := e) (Q := Q) (d := d) _ _ 1 Z g (blkT_k ty nu fl k s S) (by omega) q1 rfl
  have n2 := fun {ks ops K e Q d} Z g => g1 (ks := ks) (ops := ops) (K := K) (e := e) (Q := Q) (d := d) _ _ 2 Z g (blkT_k ty nu fl k s S) (by omega) q2 rfl
  have n3 := fun {ks ops K e Q d} Z g => g1 (ks := ks) (ops := ops) (K := K) (e := e) (Q := Q) (d := d) _ _ 3 Z g (blkT_k ty nu fl k s S) (by omega) q3 rfl
  have a4 : atV (blkT ty nu fl k s S) 4 = .iface 36 (.ps 1 (bys s)) := atV_some _ 4 (byt6 s) rfl (by omega) rfl
  have pA := fun {ks ops K e h Q d} i => At_p (ks := ks) (ops := ops) (K := K) (e := e) (h := h) (Q := Q) (d := d) (blkT ty nu fl k s S) i
  have hf : T.free f_block_Get_1 = true := rfl
  have pl := fun {ks ops K e h Q d} => List_n (ks := ks) (ops := ops) (K := K) (e := e) (h := h) (Q := Q) (d := d) (vals ty nu fl k s ++ [byt6 S]) gd.w
  have any1 := anyV_one (blkT ty nu fl k s S)
  have anyc := anyV_cells (blkT ty nu fl k s S)
  rw [← blkT_any ty nu fl k s S] at pl r5
  have alen : (anys (vals ty nu fl k s ++ [byt6 S])).length = 6 := by rw [anys_len]; rfl
  have a5 : (anys (vals ty nu fl k s ++ [byt6 S]))[5]? = some (.iface 36 (.ps 1 (bys S))) := rfl
  have ahf := anyV_hf (blkT ty nu fl k s S)
  have eo : openV (vals ty nu fl k s) k S = if sealB (vals ty nu fl k s) k = enc (blkT ty nu fl k s S) then .tup [.ps 1 (anys (vals ty nu fl k s)), .int .i64 k, .int .i64 0] else .tup [.ps 1 [], .int .i64 0, .int .i64 7] := rfl
  rw [eo] at r5
  clear eo tl q0 q1 q2 q3
  have hvs := anys_hfs (vals ty nu fl k s)
  generalize anys (vals ty nu fl k s ++ [byt6 S]) = A at *
  generalize anys (vals ty nu fl k s) = A0 at *
  generalize sealB (vals ty nu fl k s) k = E2 at *
  generalize blkT ty nu fl k s S = t at *
  generalize anyV t = X at *
  generalize enc t = E1 at *
  refine Run.startE t_block_Get ?_
  unfold k_block_Get
  simp (disch := first | omega | assumption) [any1, anyc, n0, n1, n2, n3, asN_num]
  have kp : (0 : Int) < k := by omega
  have kz : ¬ ((2 : Int) < k) := by omega
  have kz2 : ¬ (2 < k) := by omega
  have kp2 : 0 < k := by omega
  simp (disch := first | omega | assumption) [pA, a4, Bytes_b, kp, kp2, pl, kz, kz2, alen, bys_back]
  apply Xc_regf
  simp (disch := first | omega | assumption) [bys_back]
  simp (disch := first | omega | assumption) [flagsIn, flagP, evOp, kp, kp2, a5, Bytes_b, hS, bys_back]
  by_cases he : E2 = E1
  · rw [if_pos he] at r5 ⊢
    rw [Xp_run r5 (by simp [ahf]) (by simp [hvs]) (by simp)]
    simp (disch := omega)
    simp only [blk_fold]
    rw [Xp_run r6 (by simp [blk_hf]) (by simp) (by simp)]
    simp (disch := omega) [blkV]
  · rw [if_neg he] at r5 ⊢
    rw [Xp_run r5 (by simp [ahf]) (by simp) (by simp)]
    simp (disch := omega) [blkV]
theorem byte_rem (m : Nat) : V.int .u8 (IntKind.u8.wrap ((m : Int).tmod 256)) = byteV (UInt8.ofNat m) := by
  have h1 : (UInt8.ofNat m).toNat = m % 256 := UInt8.toNat_ofNat'
  rw [byteV_def, h1, wrap_u8_def, Int.tmod_eq_emod_of_nonneg (by omega)]
  congr 1
  omega
theorem Bytes_loop (w n : Nat) (hw : w ≤ 8) (hn : n < 18446744073709551616) (h : Heap) : ∀ (m i : Nat), i + m = w → ∀ ks Q (e : Env),
    (∀ e, Xk T ks (.x 0) ([(0, .int .i64 w), (1, .int .u64 (n / 2 ^ (8 * w) : Nat)), (5, .ps 1 (bys (beB w n)))] ++ e) h Q) →
    Xc T l_ref01_Bytes_0 ks ([(0, .int .i64 w), (1, .int .u64 ((n / 2 ^ (8 * i) : Nat) : Int)), (5, .ps 1 (bys (beB i n))), (6, .int .i64 i)] ++ e) h Q := by
  intro m
  induction m with
  | zero =>
    intro i hi ks Q e hQ
    rw [L_ref01_Bytes_0]; unfold bl_ref01_Bytes_0
    have e0 : i = w := by omega
    subst e0
    generalize n / 2 ^ (8 * i) = q at *
    simp (disch := omega)
    exact hQ _
  | succ m ih =>
    intro i hi ks Q e hQ
    rw [L_ref01_Bytes_0]; unfold bl_ref01_Bytes_0
    have e1 : (i : Int) < w := by omega
    have e2 : (i : Int) < 8 := by omega
    have ed : n / 2 ^ (8 * (i + 1)) = n / 2 ^ (8 * i) / 256 := by rw [Nat.mul_add, Nat.pow_add, ← Nat.div_div_eq_div_mul]
    have hb : beB (i + 1) n = UInt8.ofNat (n / 2 ^ (8 * i)) :: beB i n := rfl
    have hl := beB_len i n
    have := ih (i + 1) (by omega) ks Q [] hQ
    rw [ed, hb] at this
    have hq : n / 2 ^ (8 * i) ≤ n := Nat.div_le_self ..
    generalize n / 2 ^ (8 * i) = q at *
    generalize beB i n = B at *
    have et : (q : Int).tdiv 256 = ((q / 256 : Nat) : Int) := by rw [Int.tdiv_eq_ediv_of_nonneg (by omega)]; omega
    simp (disch := omega) [e1, e2, byte_rem, bys_len, hl, et]
    simpa [bys] using this
theorem R1Bytes_run (w n : Nat) (hw : w ≤ 8) (hn : n < 18446744073709551616) (h : Heap) : Run T f_ref01_Bytes [.int .i64 w, .int .u64 n] h (.ps 1 (bys (beB w n))) h := by
  refine Run.start t_ref01_Bytes ?_
  unfold k_ref01_Bytes
  simp (disch := omega)
  have := Bytes_loop w n hw hn h w 0 (by omega)
  simp [beB] at this
  refine this _ _ [] (fun e => ?_)
  simp (disch := omega)
section
variable {ks : List Kt} {ops : List AOpr} {K : Kp} {e : Env} {h : Heap} {Q : Ex → Env → Heap → Prop} {d : Nat}
theorem R1Bytes_p (w n : Nat) (hw : w ≤ 8) (hn : n < 18446744073709551616) : Xp T f_ref01_Bytes (some ([.int .i64 w, .int .u64 n], false)) h (some d) ops K ks e Q = Xo T ops K ks ((d, .ps 1 (bys (beB w n))) :: e) h Q :=
  Xp_run (R1Bytes_run w n hw hn []) (by simp) (by simp [bys_hfs]) (by simp)
theorem R1Bytes_i (w : Int) (n : Nat) (h0 : 0 ≤ w) (hw : w ≤ 8) (hn : n < 18446744073709551616) : Xp T f_ref01_Bytes (some ([.int .i64 w, .int .u64 n], false)) h (some d) ops K ks e Q = Xo T ops K ks ((d, .ps 1 (bys (beB w.toNat n))) :: e) h Q := by
  obtain ⟨w, rfl⟩ := Int.eq_ofNat_of_zero_le h0
  exact R1Bytes_p w n (by omega) hn
end
attribute [-simp] wrap_u8 UInt8.ofNat_add UInt8.ofNat_mul
theorem byte_hd (m n : Nat) : V.int .u8 (IntKind.u8.wrap (32 * (m : Int) + (n : Int))) = byteV (UInt8.ofNat (32 * m + n)) := by
  rw [← byte_wrap]; push_cast; rfl
theorem byte_24 (m : Nat) : V.int .u8 (IntKind.u8.wrap (32 * (m : Int) + 24)) = byteV (UInt8.ofNat (32 * m + 24)) := byte_hd m 24
theorem byte_25 (m : Nat) : V.int .u8 (IntKind.u8.wrap (32 * (m : Int) + 25)) = byteV (UInt8.ofNat (32 * m + 25)) := byte_hd m 25
theorem byte_26 (m : Nat) : V.int .u8 (IntKind.u8.wrap (32 * (m : Int) + 26)) = byteV (UInt8.ofNat (32 * m + 26)) := byte_hd m 26
theorem byte_27 (m : Nat) : V.int .u8 (IntKind.u8.wrap (32 * (m : Int) + 27)) = byteV (UInt8.ofNat (32 * m + 27)) := byte_hd m 27
theorem R5Put_run (m n : Nat) (h : Heap) (hm : m ≤ 7) (hn : n < 18446744073709551616) : Run T f_ref05_Put [.int .i64 m, .int .u64 n] h (.ps 1 (bys (hdB m n))) h := by
  refine Run.start t_ref05_Put ?_
  unfold k_ref05_Put hdB wideS
  simp (disch := omega)
  refine Xb_dec (fun c1 => ?_) (fun c1 => ?_)
  · have c1' : n < 24 := by omega
    simp (disch := omega) [c1', byte_hd, bys]
  · have c1' : ¬ n < 24 := by omega
    rw [if_neg c1', if_neg c1']
    simp (disch := omega)
    refine Xb_dec (fun c2 => ?_) (fun c2 => ?_)
    · have c2' : n < 256 := by omega
      rw [if_pos c2']
      have hl := beB_len 1 n
      simp (disch := omega) [byte_24, R1Bytes_i, bys_len, hl]
      simp [infoS, bys]
    · have c2' : ¬ n < 256 := by omega
      rw [if_neg c2']
      simp (disch := omega)
      refine Xb_dec (fun c3 => ?_) (fun c3 => ?_)
      · have c3' : n < 65536 := by omega
        rw [if_pos c3']
        have hl := beB_len 2 n
        simp (disch := omega) [byte_25, R1Bytes_i, bys_len, hl]
        simp [infoS, bys]
      · have c3' : ¬ n < 65536 := by omega
        rw [if_neg c3']
        simp (disch := omega)
        refine Xb_dec (fun c4 => ?_) (fun c4 => ?_)
        · have c4' : n < 4294967296 := by omega
          rw [if_pos c4']
          have hl := beB_len 4 n
          simp (disch := omega) [byte_26, R1Bytes_i, bys_len, hl]
          simp [infoS, bys]
        · have c4' : ¬ n < 4294967296 := by omega
          rw [if_neg c4']
          have hl := beB_len 8 n
          simp (disch := omega) [byte_27, R1Bytes_i, bys_len, hl]
          simp [infoS, bys]
end Ev
