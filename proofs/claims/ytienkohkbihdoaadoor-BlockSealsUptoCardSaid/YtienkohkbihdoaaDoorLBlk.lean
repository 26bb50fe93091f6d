/- Lists with their sums. Each theorem states its own conditions. -/
import Derived.Test.YtienkohkbihdoaaDoorLCrc2
import Derived.Test.YtienkohkbihdoaaDoorLRd3
import Derived.Test.YtienkohkbihdoaaDoorLTk
set_option linter.all false
namespace Ev
open Go
set_option maxRecDepth 10000
attribute [-simp] getElem?_pos getElem?_neg List.drop_one

abbrev node (l : List T6) : T6 := .mk 4 0 [] l
abbrev byt6 (s : List UInt8) : T6 := .mk 2 0 s []
abbrev num6 (n : Int) : T6 := .mk 0 n [] []
theorem ws_app : ∀ (a b : List T6), T6.ws (a ++ b) = T6.ws a + T6.ws b
  | [], b => by simp [T6.ws]
  | x :: r, b => by simp only [List.cons_append, T6.ws, ws_app r b]; omega
theorem cnts_app : ∀ (a b : List T6), cnts (a ++ b) = cnts a + cnts b
  | [], b => by simp [cnts]
  | x :: r, b => by simp only [List.cons_append, cnts, cnts_app r b]; omega
theorem dps_app : ∀ (a b : List T6), dps (a ++ b) = max (dps a) (dps b)
  | [], b => by have := (dps_le b).1; simp [dps]; omega
  | x :: r, b => by simp only [List.cons_append, dps, dps_app r b]; omega
theorem oks_app : ∀ (a b : List T6), T6.oks (a ++ b) ↔ T6.oks a ∧ T6.oks b
  | [], b => by simp [T6.oks]
  | x :: r, b => by simp only [List.cons_append, T6.oks, oks_app r b, and_assoc]
theorem rgts_app : ∀ (a b : List T6), rgts (a ++ b) = (rgts a && rgts b)
  | [], b => by simp [rgts]
  | x :: r, b => by simp only [List.cons_append, rgts, rgts_app r b, Bool.and_assoc]
/-- A value that can be laid. -/
structure Good (t : T6) : Prop where
  w : t.w ≤ 4194304
  ok : t.ok
  r : rgt t = true
  d : dp t ≤ 16
  c : cnt t ≤ 4096
structure GoodL (l : List T6) : Prop where
  w : T6.ws l ≤ 4000000
  ok : T6.oks l
  r : rgts l = true
  d : dps l ≤ 15
  c : cnts l ≤ 4000
theorem GoodL.node {l : List T6} (h : GoodL l) : Good (node l) where
  w := by have := h.w; simp only [Ev.node, T6.w, List.length_nil]; omega
  ok := ⟨by omega, by omega, by simp, h.ok⟩
  r := by simp [rgt, h.r]
  d := by have := h.d; simp only [Ev.node, dp, if_true]; omega
  c := by have := h.c; simp only [Ev.node, cnt, if_true]; omega
theorem GoodL.snoc {l : List T6} (h : GoodL l) (s : List UInt8) (hs : s.length ≤ 1000) : Good (Ev.node (l ++ [byt6 s])) where
  w := by have := h.w; simp only [Ev.node, T6.w, ws_app, T6.ws, List.length_nil]; omega
  ok := ⟨by omega, by omega, by simp, (oks_app _ _).2 ⟨h.ok, ⟨by omega, by omega, by omega, trivial⟩, trivial⟩⟩
  r := by simp [rgt, rgts_app, h.r, rgts]
  d := by have := h.d; simp only [Ev.node, dp, if_true, dps_app, dps]; simp; omega
  c := by have := h.c; simp only [Ev.node, cnt, if_true, cnts_app, cnts]; simp; omega
theorem any_node (l : List T6) : anyV (node l) = .iface 36 (.ps 1 (anys l)) := rfl
theorem any_byt (s : List UInt8) : anyV (byt6 s) = .iface 31 (.ps 1 (bys s)) := rfl
theorem any_num (n : Int) : anyV (num6 n) = .iface 22 (.int .u64 n) := rfl
theorem enc_node (l : List T6) : enc (node l) = hdB 4 l.length ++ encs l := rfl
theorem enc_byt (s : List UInt8) : enc (byt6 s) = hdB 2 s.length ++ s := rfl
section
variable {ks : List Kt} {ops : List AOpr} {K : Kp} {e : Env} {h : Heap} {Q : Ex → Env → Heap → Prop} {d : Nat}
theorem Put_g (t : T6) (g : Good t) : Xp T f_item_Put (some ([anyV t], false)) h (some d) ops K ks e Q = Xo T ops K ks ((d, .tup [.ps 1 (bys (enc t)), .int .i64 0]) :: e) h Q := itemPut_p t g.w g.ok g.r g.d g.c
theorem Put_snoc (l : List T6) (s : List UInt8) (g : Good (node (l ++ [byt6 s]))) : Xp T f_item_Put (some ([.iface 36 (.ps 1 (anys l ++ [.iface 31 (.ps 1 (bys s))]))], false)) h (some d) ops K ks e Q = Xo T ops K ks ((d, .tup [.ps 1 (bys (enc (node (l ++ [byt6 s])))), .int .i64 0]) :: e) h Q := by
  have := Put_g (ks := ks) (ops := ops) (K := K) (e := e) (h := h) (Q := Q) (d := d) _ g
  rw [any_node, anys_app] at this
  exact this
theorem Put_node (l : List T6) (g : Good (node l)) : Xp T f_item_Put (some ([.iface 36 (.ps 1 (anys l))], false)) h (some d) ops K ks e Q = Xo T ops K ks ((d, .tup [.ps 1 (bys (enc (node l))), .int .i64 0]) :: e) h Q := Put_g _ g
end
theorem Seal1_run (l : List T6) (s : List UInt8) (h : Heap) (hl : GoodL l) (hs : s.length ≤ 1000) : Run T f_block_Seal_1 [.ps 1 (bys s), .ptr h.length 0] (h ++ [some [.ps 1 (anys l)]]) (.tup [.ps 1 (bys (enc (node (l ++ [byt6 s])))), .int .i64 0]) (h ++ [some [.ps 1 (anys l)]]) := by
  refine Run.start t_block_Seal_1 ?_
  unfold k_block_Seal_1
  have g := hl.snoc s hs
  have := T6.ws_len l
  have := hl.w
  simp (disch := first | omega | assumption) [anys_len, Put_snoc]
def sealB (l : List T6) (kind : Nat) : List UInt8 := enc (node (l ++ [byt6 (sumB kind (enc (node (l ++ [byt6 (List.replicate (widthN kind) 0)]))))]))
theorem Seal_run (l : List T6) (kind : Nat) (h : Heap) (hl : GoodL l) (hk : kind = 1 ∨ kind = 2) : ∃ h', Run T f_block_Seal [.ps 1 (anys l), .int .i64 kind] h (.tup [.ps 1 (bys (sealB l kind)), .int .i64 0]) h' := by
  refine Run.startE t_block_Seal ?_
  unfold k_block_Seal
  have wl := widthN_le kind
  have k1 : ¬ ((kind : Int) < 0) := by omega
  have k2 : ¬ ((2 : Int) < kind) := by omega
  have k3 : ¬ ((kind : Int) = 0) := by omega
  have z : (List.replicate (widthN kind) (V.int .u8 0)) = bys (List.replicate (widthN kind) 0) := bys_rep _
  have r1 := Seal1_run l (List.replicate (widthN kind) 0) h hl (by simp; omega)
  have el := enc_len (node (l ++ [byt6 (List.replicate (widthN kind) 0)]))
  have ew := (hl.snoc (List.replicate (widthN kind) 0) (by simp; omega)).w
  have r2 := bsum_run kind (enc (node (l ++ [byt6 (List.replicate (widthN kind) 0)]))) [] (by omega)
  have r3 := Seal1_run l (sumB kind (enc (node (l ++ [byt6 (List.replicate (widthN kind) 0)])))) h hl (by rw [sumB_len]; omega)
  have hf : T.free f_block_Seal_1 = true := rfl
  have e0 : enc (node (l ++ [byt6 (sumB kind (enc (node (l ++ [byt6 (List.replicate (widthN kind) 0)]))))])) = sealB l kind := rfl
  rw [e0] at r3
  generalize enc (node (l ++ [byt6 (List.replicate (widthN kind) 0)])) = E0 at *
  generalize sealB l kind = E1 at *
  generalize hS : sumB kind E0 = S at *
  have kz : ¬ kind = 0 := by omega
  simp (disch := first | omega | assumption) [k1, k2, k3, kz, bwidth_p, z]
  rw [Xf_run r1]
  simp (disch := first | omega | assumption)
  rw [Xp_run r2 (by simp [bys_hfs]) (by simp [bys_hfs]) (by simp)]
  simp (disch := first | omega | assumption)
  rw [Xf_run r3]
  simp (disch := omega)
end Ev
