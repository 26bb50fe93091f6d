/- The reference's blocks: what is wrong, and lists with their sums. Blocks without a sum. The law BlockPuts: the bytes of any block, or what is wrong. Blocks of any value. Blocks of any value: what the sum says; the reference's answer. The law BlockGets: the block of any value, or what is wrong. Endpoint names: which are right. Endpoint names as values, and back. Values as endpoint names. Each theorem states its own conditions. -/
import Derived.Test.YtienkohkbihdoaaDoorQR6
import Derived.Test.YtienkohkbihdoaaDoorQBlk
set_option linter.all false
namespace Ev
open Go
set_option maxRecDepth 10000
attribute [-simp] getElem?_pos getElem?_neg List.drop_one
theorem R9Check_run (ty nu fl k : Int) (s : List UInt8) (h : Heap) : ∃ h', Run T f_ref09_Check [blkV ty nu fl k s] h (.int .i64 (chkS nu k s)) h' := by
  refine Run.startE t_ref09_Check ?_
  unfold k_ref09_Check blkV chkS
  by_cases c1 : nu = 0
  · simp (disch := omega) [c1]
  · by_cases c2 : k < 0
    · simp (disch := omega) [c1, c2]
    · by_cases c3 : 2 < k
      · simp (disch := omega) [c1, c2, c3]
      · by_cases c4 : 65536 < s.length
        · have c5 : (65536 : Int) < s.length := by omega
          simp (disch := omega) [c1, c2, c3, c4, c5]
        · have c5 : ¬ ((65536 : Int) < s.length) := by omega
          simp (disch := omega) [c1, c2, c3, c4, c5]
theorem zero_loop (L kd p4 p5 : V) (w : Nat) (hw : w ≤ 4) (h : Heap) : ∀ (m i : Nat), i + m = w → ∀ ks Q (e : Env),
    (∀ e, Xk T ks (.x 0) ([(0, L), (1, kd), (4, p4), (5, p5), (6, .int .i64 w), (7, .str (List.replicate w 0))] ++ e) h Q) →
    Xc T l_ref09_Seal_0 ks ([(0, L), (1, kd), (4, p4), (5, p5), (6, .int .i64 w), (7, .str (List.replicate i 0)), (8, .int .i64 i)] ++ e) h Q := by
  intro m
  induction m with
  | zero =>
    intro i hi ks Q e hQ
    rw [L_ref09_Seal_0]; unfold bl_ref09_Seal_0
    have e0 : i = w := by omega
    subst e0
    simp (disch := omega)
    exact hQ _
  | succ m ih =>
    intro i hi ks Q e hQ
    rw [L_ref09_Seal_0]; unfold bl_ref09_Seal_0
    have e1 : (i : Int) < w := by omega
    have := ih (i + 1) (by omega) ks Q [] hQ
    rw [List.replicate_succ'] at this
    have hl : (List.replicate i (0 : UInt8)).length = i := List.length_replicate
    generalize List.replicate i (0 : UInt8) = Z at *
    simp (disch := (first | omega | (simp; omega))) [e1]
    simpa using this
theorem vs_app (a b : List T6) : T6.vs (a ++ b) = T6.vs a ++ T6.vs b := by simp [T6.vs_map]
theorem vs_agg (l : List T6) : (T6.vs l).all (fun v => v.cells.length == 4) = true := by
  rw [T6.vs_map, List.all_map, List.all_eq_true]
  intro x _
  simp [T6.cells_len]
theorem flat_vs_len : ∀ l : List T6, (flat (T6.vs l)).length = l.length * 4
  | [] => rfl
  | x :: r => by
    have := flat_vs_len r
    have h : flat (T6.vs (x :: r)) = x.v.cells ++ flat (T6.vs r) := rfl
    rw [h, List.length_append, T6.cells_len, this, List.length_cons]
    omega
theorem flat_vs_app (a b : List T6) : flat (T6.vs (a ++ b)) = flat (T6.vs a) ++ flat (T6.vs b) := by
  rw [vs_app]; unfold flat; rw [List.flatMap_append]
theorem chunk_vs : ∀ l : List T6, chunk 4 true l.length (flat (T6.vs l)) = T6.vs l
  | [] => rfl
  | x :: r => by
    have h : flat (T6.vs (x :: r)) = x.v.cells ++ flat (T6.vs r) := rfl
    have hc := T6.cells_len x
    have ht : (x.v.cells ++ flat (T6.vs r)).take 4 = x.v.cells.take 4 := by rw [List.take_append_of_le_length (by omega)]
    have hd : (x.v.cells ++ flat (T6.vs r)).drop 4 = flat (T6.vs r) := by rw [← hc, List.drop_left]
    rw [h, List.length_cons, chunk, if_pos rfl, ht, hd, T6.agg_v, chunk_vs r]
    rfl
theorem frz_vs {H : Heap} {b : Nat} {l : List T6} (hr : H.row b = some (flat (T6.vs l))) (ag : Bool) : freeze1 (ag || decide (1 < 4)) (.hs 4 b 0 l.length) H = some (.ps 4 (T6.vs l), H.set b none) := by
  have hl := flat_vs_len l
  have hc := hs_cells (s := 4) (off := 0) (len := l.length) hr (by omega)
  rw [List.drop_zero, List.take_of_length_le (by omega)] at hc
  have e : (ag || decide (1 < 4)) = true := by cases ag <;> rfl
  rw [e]
  simp only [freeze1, hc, Option.bind_some, chunkOk, Bool.true_or, if_true, chunk_vs]
theorem R9Seal_run (l : List T6) (k : Nat) (h : Heap) (hl : GoodL l) (hk : k = 1 ∨ k = 2) : ∃ h', Run T f_ref09_Seal [.ps 4 (T6.vs l), .int .i64 k] h ((node (l ++ [byt6 (sumB k (enc (node (l ++ [byt6 (List.replicate (widthN k) 0)]))))])).v) h' := by
  refine Run.startE t_ref09_Seal ?_
  unfold k_ref09_Seal
  have wk : widthN k = 2 * k := by rcases hk with rfl | rfl <;> rfl
  have b5 := T6.ws_len l
  have b6 := hl.w
  have kz : ¬ ((k : Int) = 0) := by omega
  have kz' : ¬ (k = 0) := by omega
  by_cases hz : l = []
  · subst hz
    have f0 : flat (T6.vs []) = [] := rfl
    have v00 : T6.vs [] = [] := rfl
    have Z0 := zero_loop (.ps 4 []) (.int .i64 k) (.ptr h.length 0) (.ptr (h.length + 1) 0) (2 * k) (by omega)
    simp (disch := omega) [T6.vs_len, kz, kz', f0, v00]
    rw [wk]
    have g0 := hl.snoc (List.replicate (2 * k) 0) (by simp; omega)
    obtain ⟨h6, r6⟩ := R6Put_run _ _ (Nat.le_refl _) g0.w g0.ok g0.r
    have v0 : (node ([] ++ [byt6 (List.replicate (2 * k) 0)])).v = .agg [.int .i64 4, .int .u64 0, .str [], .ps 4 [.agg [.int .i64 2, .int .u64 0, .str (List.replicate (2 * k) 0), .ps 4 []]]] := rfl
    have el := enc_len (node ([] ++ [byt6 (List.replicate (2 * k) 0)]))
    have hw := g0.w
    rw [v0] at r6
    simp only [List.nil_append] at r6 el hw ⊢
    generalize enc (node [byt6 (List.replicate (2 * k) 0)]) = E0 at *
    refine Z0 _ (2 * k) 0 (by omega) _ _ [] (fun e => ?_)
    have v1 : ∀ S : List UInt8, (node [byt6 S]).v = .agg [.int .i64 4, .int .u64 0, .str [], .ps 4 [.agg [.int .i64 2, .int .u64 0, .str S, .ps 4 []]]] := fun S => rfl
    have rO := R3Of_run k E0 [] (by omega)
    have hcl := crcN_lt k E0
    have hcl2 : crcN k E0 < 18446744073709551616 := Nat.lt_of_lt_of_le hcl (by rw [wk]; rcases hk with rfl | rfl <;> decide)
    have rB := R1Bytes_run (2 * k) (crcN k E0) (by omega) hcl2 []
    have eS : sumB k E0 = beB (2 * k) (crcN k E0) := by unfold sumB; rw [wk]
    rw [eS, v1]
    generalize beB (2 * k) (crcN k E0) = S at *
    generalize List.replicate (2 * k) (0 : UInt8) = Z at *
    simp (disch := omega)
    rw [Xp_run r6 (by simp) (by simp [bys_hfs]) (by simp)]
    simp (disch := omega)
    rw [Xp_run rO (by simp [bys_hfs]) rfl (by simp [scalar])]
    simp (disch := omega)
    have rB2 : Run T f_ref01_Bytes [.int .i64 (2 * (k : Int)), .int .u64 (crcN k E0 : Nat)] [] (.ps 1 (bys S)) [] := by simpa using rB
    rw [Xp_run rB2 (by simp) (by simp [bys_hfs]) (by simp)]
    simp (disch := omega) [bys_back]
    have hr : ∀ (a b c : List V), Heap.row (h ++ [some a, some b, some c, some [.int .i64 2, .int .u64 0, .str S, .ps 4 []]]) (h.length + 3) = some (flat (T6.vs [byt6 S])) := fun a b c => by
      simp [Heap.row, List.getElem?_append_right]; rfl
    have fz4 := fun a b c => frz_vs (hr a b c) true
    have hvv : T6.vs [byt6 S] = [V.agg [.int .i64 2, .int .u64 0, .str S, .ps 4 []]] := rfl
    rw [hvv] at fz4
    simp only [List.length_singleton] at fz4
    simp only [freezeC, fz4, Option.bind_some]
    simp (disch := omega)
  have hl0 : 0 < l.length := List.length_pos_iff.2 hz
  have fl := flat_vs_len l
  have fz : ¬ (flat (T6.vs l) = []) := by intro e; rw [e] at fl; simp at fl; omega
  have fd : l.length * 4 / 4 = l.length := by omega
  have Z0 := zero_loop (.ps 4 (T6.vs l)) (.int .i64 k) (.ptr h.length 0) (.ptr (h.length + 2) 0) (2 * k) (by omega)
  simp (disch := omega) [T6.vs_len, kz, kz', fz, fl, fd]
  rw [wk]
  have g0 := hl.snoc (List.replicate (2 * k) 0) (by simp; omega)
  obtain ⟨h6, r6⟩ := R6Put_run _ _ (Nat.le_refl _) g0.w g0.ok g0.r
  have v0 : (node (l ++ [byt6 (List.replicate (2 * k) 0)])).v = .agg [.int .i64 4, .int .u64 0, .str [], .ps 4 (T6.vs l ++ [.agg [.int .i64 2, .int .u64 0, .str (List.replicate (2 * k) 0), .ps 4 []]])] := by
    simp only [T6.v, vs_app]; rfl
  have el := enc_len (node (l ++ [byt6 (List.replicate (2 * k) 0)]))
  have hw := g0.w
  generalize enc (node (l ++ [byt6 (List.replicate (2 * k) 0)])) = E0 at *
  refine Z0 _ (2 * k) 0 (by omega) _ _ [] (fun e => ?_)
  rw [v0] at r6
  have hvs := T6.vs_hfs l
  have vl := T6.vs_len l
  have v1 : ∀ S : List UInt8, (node (l ++ [byt6 S])).v = .agg [.int .i64 4, .int .u64 0, .str [], .ps 4 (T6.vs l ++ [.agg [.int .i64 2, .int .u64 0, .str S, .ps 4 []]])] := fun S => by
    simp only [T6.v, vs_app]; rfl
  have rO := R3Of_run k E0 [] (by omega)
  have hcl := crcN_lt k E0
  have hcl2 : crcN k E0 < 18446744073709551616 := Nat.lt_of_lt_of_le hcl (by rw [wk]; rcases hk with rfl | rfl <;> decide)
  have rB := R1Bytes_run (2 * k) (crcN k E0) (by omega) hcl2 []
  have eS : sumB k E0 = beB (2 * k) (crcN k E0) := by unfold sumB; rw [wk]
  rw [eS, v1]
  generalize beB (2 * k) (crcN k E0) = S at *
  generalize List.replicate (2 * k) (0 : UInt8) = Z at *
  simp (disch := omega) [vl, T6.cells_len]
  rw [Xp_run r6 (by simp [hvs]) (by simp [bys_hfs]) (by simp)]
  simp (disch := omega)
  rw [Xp_run rO (by simp [bys_hfs]) rfl (by simp [scalar])]
  simp (disch := omega)
  have rB2 : Run T f_ref01_Bytes [.int .i64 (2 * (k : Int)), .int .u64 (crcN k E0 : Nat)] [] (.ps 1 (bys S)) [] := by simpa using rB
  rw [Xp_run rB2 (by simp) (by simp [bys_hfs]) (by simp)]
  simp (disch := omega) [bys_back]
  have hF : flat (T6.vs l) ++ [V.int .i64 2, .int .u64 0, .str S, .ps 4 []] = flat (T6.vs (l ++ [byt6 S])) := by rw [flat_vs_app]; rfl
  rw [hF]
  have hr : ∀ (a b c : List V), Heap.row (h ++ [some a, none, some b, some c, some (flat (T6.vs (l ++ [byt6 S])))]) (h.length + 4) = some (flat (T6.vs (l ++ [byt6 S]))) := fun a b c => by
    simp [Heap.row, List.getElem?_append_right]
  have hl1 : l.length + 1 = (l ++ [byt6 S]).length := by simp
  have hvv : T6.vs l ++ [V.agg [.int .i64 2, .int .u64 0, .str S, .ps 4 []]] = T6.vs (l ++ [byt6 S]) := by rw [vs_app]; rfl
  rw [hl1, hvv]
  have fz4 := fun a b c => frz_vs (hr a b c) true
  simp only [freezeC, fz4, Option.bind_some]
  simp (disch := omega)
theorem R9Seal0_run (l : List T6) (h : Heap) (hl : GoodL l) : ∃ h', Run T f_ref09_Seal [.ps 4 (T6.vs l), .int .i64 0] h ((node l).v) h' := by
  refine Run.startE t_ref09_Seal ?_
  unfold k_ref09_Seal
  have b5 := T6.ws_len l
  have b6 := hl.w
  by_cases hz : l = []
  · subst hz
    have f0 : flat (T6.vs []) = [] := rfl
    have v00 : T6.vs [] = [] := rfl
    have v1 : (node []).v = .agg [.int .i64 4, .int .u64 0, .str [], .ps 4 []] := rfl
    rw [v1]
    simp (disch := omega) [T6.vs_len, f0, v00, freezeC]
  have hl0 : 0 < l.length := List.length_pos_iff.2 hz
  have fl := flat_vs_len l
  have fz : ¬ (flat (T6.vs l) = []) := by intro e; rw [e] at fl; simp at fl; omega
  have fd : l.length * 4 / 4 = l.length := by omega
  have v1 : (node l).v = .agg [.int .i64 4, .int .u64 0, .str [], .ps 4 (T6.vs l)] := by simp only [T6.v]
  rw [v1]
  have hr : ∀ (a b : List V), Heap.row (h ++ [some a, some (flat (T6.vs l)), some b]) (h.length + 1) = some (flat (T6.vs l)) := fun a b => by
    simp [Heap.row, List.getElem?_append_right]
  have fz4 := fun a b => frz_vs (hr a b) true
  simp (disch := omega) [T6.vs_len, fz, fl, fd, freezeC]
  have fz5 := fun a b => fz4 a b
  simp only [Bool.true_or] at fz5
  rw [fz5]
  simp (disch := omega)
/-- A block's value, as the reference has it. -/
def refT (ty nu fl : Int) (k : Nat) (s : List UInt8) : T6 := if k = 0 then node (vals ty nu fl k s) else blkT ty nu fl k s (sumB k (enc (blkT ty nu fl k s (List.replicate (widthN k) 0))))
theorem R9Seal_any (ty nu fl : Int) (k : Nat) (s : List UInt8) (hl : GoodL (vals ty nu fl k s)) (hk : k ≤ 2) : ∃ h', Run T f_ref09_Seal [.ps 4 (T6.vs (vals ty nu fl k s)), .int .i64 k] [] ((refT ty nu fl k s).v) h' := by
  unfold refT
  by_cases c : k = 0
  · subst c; rw [if_pos rfl]; exact R9Seal0_run _ [] hl
  · rw [if_neg c]; exact R9Seal_run _ k [] hl (by omega)
theorem R9Value_run (ty nu fl : Int) (k : Nat) (s : List UInt8) (hl : GoodL (vals ty nu fl k s)) (hk : k ≤ 2) : ∃ h', Run T f_ref09_Value [blkV ty nu fl k s] [] ((refT ty nu fl k s).v) h' := by
  obtain ⟨h1, r1⟩ := R9Seal_any ty nu fl k s hl hk
  have e1 : T6.vs (vals ty nu fl k s) = [.agg [.int .i64 0, .int .u64 ty, .str [], .ps 4 []], .agg [.int .i64 0, .int .u64 nu, .str [], .ps 4 []], .agg [.int .i64 0, .int .u64 fl, .str [], .ps 4 []], .agg [.int .i64 0, .int .u64 k, .str [], .ps 4 []], .agg [.int .i64 2, .int .u64 0, .str s, .ps 4 []]] := rfl
  have hv := T6.v_hf (refT ty nu fl k s)
  have hvs := T6.vs_hfs (vals ty nu fl k s)
  rw [e1] at r1 hvs
  have hc := T6.cells_len (refT ty nu fl k s)
  have hag := T6.agg_v (refT ty nu fl k s)
  have vv := v_eq (refT ty nu fl k s)
  refine Run.startE t_ref09_Value ?_
  unfold k_ref09_Value blkV
  simp (disch := omega)
  rw [Xp_run r1 (by simpa using hvs) hv (by simp)]
  rw [vv]
  simp (disch := omega)
theorem Seal0_run (l : List T6) (h : Heap) (hl : GoodL l) : ∃ h', Run T f_block_Seal [.ps 1 (anys l), .int .i64 0] h (.tup [.ps 1 (bys (enc (node l))), .int .i64 0]) h' := by
  refine Run.startE t_block_Seal ?_
  unfold k_block_Seal
  have g := hl.node
  have := T6.ws_len l
  have := hl.w
  have pn := fun {ks ops K e h Q d} => Put_node (ks := ks) (ops := ops) (K := K) (e := e) (h := h) (Q := Q) (d := d) _ g
  simp (disch := first | omega | assumption) [anys_len, pn]
theorem blockPut0_run (ty nu fl : Int) (s : List UInt8) (h : Heap) (hl : GoodL (vals ty nu fl 0 s)) (hc : chkS nu 0 s = 0) : ∃ h', Run T f_block_Put [blkV ty nu fl 0 s] h (.tup [.ps 1 (bys (enc (node (vals ty nu fl 0 s)))), .int .i64 0]) h' := by
  obtain ⟨h1, r1⟩ := Check_run ty nu fl 0 s []
  obtain ⟨h2, r2⟩ := values_run ty nu fl 0 s [] (by omega) (by omega)
  obtain ⟨h3, r3⟩ := Seal0_run (vals ty nu fl 0 s) [] hl
  rw [hc] at r1
  refine Run.startE t_block_Put ?_
  unfold k_block_Put blkV
  simp (disch := omega)
  simp only [blk_fold]
  rw [Xp_run r1 (by simp [blk_hf]) (by simp) (by simp)]
  simp (disch := omega)
  simp only [blk_fold]
  rw [Xp_run r2 (by simp [blk_hf]) (by simp [anys_hfs]) (by simp)]
  simp (disch := omega)
  rw [Xp_run r3 (by simp [anys_hfs]) (by simp [bys_hfs]) (by simp)]
  simp (disch := omega)
theorem blockPutE_run (ty nu fl k : Int) (s : List UInt8) (h : Heap) (hc : chkS nu k s ≠ 0) : ∃ h', Run T f_block_Put [blkV ty nu fl k s] h (.tup [.ps 1 [], .int .i64 (chkS nu k s)]) h' := by
  obtain ⟨h1, r1⟩ := Check_run ty nu fl k s []
  refine Run.startE t_block_Put ?_
  unfold k_block_Put blkV
  simp (disch := omega)
  simp only [blk_fold]
  rw [Xp_run r1 (by simp [blk_hf]) (by simp) (by simp)]
  generalize chkS nu k s = z at *
  simp (disch := omega) [hc]
theorem node_any (l : List T6) : anyV (node l) = .iface 36 (.ps 1 (anys l)) := rfl
theorem Get0_run (ty nu fl : Int) (s : List UInt8) (hl : GoodL (vals ty nu fl 0 s)) (hc : chkS nu 0 s = 0) (hs : s.length ≤ 3000000) :
    ∃ h', Run T f_block_Get [anyV (node (vals ty nu fl 0 s))] [] (.tup [blkV ty nu fl 0 s, .int .i64 0]) h' := by
  have gd := hl.node
  obtain ⟨h6, r6⟩ := Check_run ty nu fl 0 s []
  rw [hc] at r6
  have q0 : (node (vals ty nu fl 0 s)).l[(0 : Int).toNat]? = some (num6 ty) := rfl
  have q1 : (node (vals ty nu fl 0 s)).l[(1 : Int).toNat]? = some (num6 nu) := rfl
  have q2 : (node (vals ty nu fl 0 s)).l[(2 : Int).toNat]? = some (num6 fl) := rfl
  have q3 : (node (vals ty nu fl 0 s)).l[(3 : Int).toNat]? = some (num6 0) := rfl
  have n0 := fun {ks ops K e Q d} Z g => g1 (ks := ks) (ops := ops) (K := K) (e := e) (Q := Q) (d := d) _ _ 0 Z g (show (node (vals ty nu fl 0 s)).k = 4 from rfl) (by omega) q0 rfl
  have n1 := fun {ks ops K e Q d} Z g => g1 (ks := ks) (ops := ops) (K := K) (e := e) (Q := Q) (d := d) _ _ 1 Z g (show (node (vals ty nu fl 0 s)).k = 4 from rfl) (by omega) q1 rfl
  have n2 := fun {ks ops K e Q d} Z g => g1 (ks := ks) (ops := ops) (K := K) (e := e) (Q := Q) (d := d) _ _ 2 Z g (show (node (vals ty nu fl 0 s)).k = 4 from rfl) (by omega) q2 rfl
  have n3 := fun {ks ops K e Q d} Z g => g1 (ks := ks) (ops := ops) (K := K) (e := e) (Q := Q) (d := d) _ _ 3 Z g (show (node (vals ty nu fl 0 s)).k = 4 from rfl) (by omega) q3 rfl
  have a4 : atV (node (vals ty nu fl 0 s)) 4 = .iface 31 (.ps 1 (bys s)) := atV_some _ 4 (byt6 s) rfl (by omega) rfl
  have pA := fun {ks ops K e h Q d} i => At_p (ks := ks) (ops := ops) (K := K) (e := e) (h := h) (Q := Q) (d := d) (node (vals ty nu fl 0 s)) i
  have hf : T.free f_block_Get_1 = true := rfl
  have pl := fun {ks ops K e h Q d} => List_n (ks := ks) (ops := ops) (K := K) (e := e) (h := h) (Q := Q) (d := d) (vals ty nu fl 0 s) gd.w
  have any1 := anyV_one (node (vals ty nu fl 0 s))
  have anyc := anyV_cells (node (vals ty nu fl 0 s))
  rw [← node_any (vals ty nu fl 0 s)] at pl
  have alen : (anys (vals ty nu fl 0 s)).length = 5 := by rw [anys_len]; rfl
  have ahf := anyV_hf (node (vals ty nu fl 0 s))
  clear q0 q1 q2 q3
  have hvs := anys_hfs (vals ty nu fl 0 s)
  generalize anys (vals ty nu fl 0 s) = A at *
  generalize node (vals ty nu fl 0 s) = t at *
  generalize anyV t = X at *
  refine Run.startE t_block_Get ?_
  unfold k_block_Get
  simp (disch := first | omega | assumption) [any1, anyc, n0, n1, n2, n3, asN_num, pA, a4, Bytes_b, pl, alen, bys_back]
  apply Xc_regf
  simp (disch := first | omega | assumption) [bys_back]
  simp (disch := first | omega | assumption) [flagsIn, flagP, evOp, bys_back]
  simp only [blk_fold]
  rw [Xp_run r6 (by simp [blk_hf]) (by simp) (by simp)]
  simp (disch := omega) [blkV]
/-- The bytes of a block that may be are those of its value. -/
theorem encRef (ty nu fl : Int) (k : Nat) (s : List UInt8) (hk : k ≠ 0) : sealB (vals ty nu fl k s) k = enc (refT ty nu fl k s) := by
  unfold refT; rw [if_neg hk]; rfl
theorem blockPutA_run (ty nu fl : Int) (k : Nat) (s : List UInt8) (h : Heap) (hl : GoodL (vals ty nu fl k s)) (hk : k ≤ 2) (hc : chkS nu k s = 0) : ∃ h', Run T f_block_Put [blkV ty nu fl k s] h (.tup [.ps 1 (bys (enc (refT ty nu fl k s))), .int .i64 0]) h' := by
  by_cases c : k = 0
  · subst c
    exact blockPut0_run ty nu fl s h hl hc
  · rw [← encRef ty nu fl k s c]
    exact blockPut_run ty nu fl k s h hl (by omega) hc
theorem refT_good (ty nu fl : Int) (k : Nat) (s : List UInt8) (hl : GoodL (vals ty nu fl k s)) (hk : k ≤ 2) : Good (refT ty nu fl k s) := by
  unfold refT
  by_cases c : k = 0
  · rw [if_pos c]; exact hl.node
  · rw [if_neg c]
    have := widthN_le k
    exact hl.snoc _ (by rw [sumB_len]; omega)
theorem GetA_run (ty nu fl : Int) (k : Nat) (s : List UInt8) (hl : GoodL (vals ty nu fl k s)) (hk : k ≤ 2) (hc : chkS nu k s = 0) (hs : s.length ≤ 3000000) :
    ∃ h', Run T f_block_Get [anyV (refT ty nu fl k s)] [] (.tup [blkV ty nu fl k s, .int .i64 0]) h' := by
  by_cases c : k = 0
  · subst c
    exact Get0_run ty nu fl s hl hc hs
  · have e := encRef ty nu fl k s c
    unfold refT at e ⊢
    rw [if_neg c] at e ⊢
    have := Get_run ty nu fl k s (sumB k (enc (blkT ty nu fl k s (List.replicate (widthN k) 0)))) hl (by omega) (sumB_len k _) hc hs
    rw [if_pos e] at this
    exact this
theorem SizeA_run (ty nu fl : Int) (k : Nat) (s : List UInt8) (h : Heap) (hl : GoodL (vals ty nu fl k s)) (hk : k ≤ 2) (hc : chkS nu k s = 0) : ∃ h', Run T f_block_Size [blkV ty nu fl k s] h (.int .i64 (enc (refT ty nu fl k s)).length) h' := by
  obtain ⟨h1, r1⟩ := blockPutA_run ty nu fl k s [] hl hk hc
  have g := refT_good ty nu fl k s hl hk
  have el := enc_len (refT ty nu fl k s)
  have gw := g.w
  generalize enc (refT ty nu fl k s) = E at *
  refine Run.startE t_block_Size ?_
  unfold k_block_Size blkV
  simp (disch := omega)
  simp only [blk_fold]
  rw [Xp_run r1 (by simp [blk_hf]) (by simp [bys_hfs]) (by simp)]
  simp (disch := omega) [bys_len]
theorem SizeE_run (ty nu fl k : Int) (s : List UInt8) (h : Heap) (hc : chkS nu k s ≠ 0) : ∃ h', Run T f_block_Size [blkV ty nu fl k s] h (.int .i64 0) h' := by
  obtain ⟨h1, r1⟩ := blockPutE_run ty nu fl k s [] hc
  refine Run.startE t_block_Size ?_
  unfold k_block_Size blkV
  simp (disch := omega)
  simp only [blk_fold]
  rw [Xp_run r1 (by simp [blk_hf]) (by simp) (by simp)]
  simp (disch := omega)
theorem Puts_run (ty nu fl kk : Int) (s : List UInt8) (h1 : 0 ≤ ty) (h2 : ty ≤ 18446744073709551615) (h3 : 0 ≤ nu) (h4 : nu ≤ 18446744073709551615) (h5 : 0 ≤ fl) (h6 : fl ≤ 18446744073709551615) (hs : s.length ≤ 140737488351232) :
    ∃ h', Run T f_law09_BlockPuts [blkV ty nu fl kk s] [] (.bool true) h' := by
  refine Run.startE t_law09_BlockPuts ?_
  unfold k_law09_BlockPuts blkV
  by_cases g1 : 300 < s.length ∧ s.length ≤ 65536
  · have g1' : (300 : Int) < s.length := by omega
    have g2' : (s.length : Int) ≤ 65536 := by omega
    simp (disch := omega) [g1, g1', g2', awake9_p]
  by_cases g2 : 70000 < s.length
  · have g1' : (300 : Int) < s.length := by omega
    have g2' : ¬ (s.length : Int) ≤ 65536 := by omega
    have g3' : (70000 : Int) < s.length := by omega
    have g4' : ¬ s.length ≤ 65536 := by omega
    have g5' : 300 < s.length := by omega
    simp (disch := omega) [g2, g1', g2', g3', g4', g5', awake9_p]
  by_cases hc : chkS nu kk s ≠ 0
  · obtain ⟨_, rp⟩ := blockPutE_run ty nu fl kk s [] hc
    obtain ⟨_, rc⟩ := R9Check_run ty nu fl kk s []
    obtain ⟨_, rd⟩ := Check_run ty nu fl kk s []
    obtain ⟨_, rz⟩ := SizeE_run ty nu fl kk s [] hc
    generalize chkS nu kk s = z at *
    by_cases c3 : 300 < s.length
    · have g1' : (300 : Int) < s.length := by omega
      have g2' : ¬ (s.length : Int) ≤ 65536 := by omega
      have g3' : ¬ (70000 : Int) < s.length := by omega
      have g4' : ¬ s.length ≤ 65536 := by omega
      have g5' : ¬ 70000 < s.length := by omega
      simp (disch := omega) [g1', g2', g3', g4', g5', c3]
      simp only [blk_fold]
      rw [Xp_run rp (by simp [blk_hf]) (by simp) (by simp)]
      simp (disch := omega)
      simp only [blk_fold]
      rw [Xp_run rc (by simp [blk_hf]) (by simp) (by simp)]
      simp (disch := omega)
      simp only [blk_fold]
      rw [Xp_run rd (by simp [blk_hf]) (by simp) (by simp)]
      simp (disch := omega) [hc]
      rw [awake9_p]
      simp (disch := omega) [hc]
      simp only [blk_fold]
      rw [Xp_run rz (by simp [blk_hf]) (by simp) (by simp)]
      simp (disch := omega) [hc]
    · have g1' : ¬ (300 : Int) < s.length := by omega
      have g3' : ¬ (70000 : Int) < s.length := by omega
      have g5' : ¬ 70000 < s.length := by omega
      simp (disch := omega) [g1', g3', g5', c3]
      simp only [blk_fold]
      rw [Xp_run rp (by simp [blk_hf]) (by simp) (by simp)]
      simp (disch := omega)
      simp only [blk_fold]
      rw [Xp_run rc (by simp [blk_hf]) (by simp) (by simp)]
      simp (disch := omega)
      simp only [blk_fold]
      rw [Xp_run rd (by simp [blk_hf]) (by simp) (by simp)]
      simp (disch := omega) [hc]
      rw [awake9_p]
      simp (disch := omega) [hc]
      simp only [blk_fold]
      rw [Xp_run rz (by simp [blk_hf]) (by simp) (by simp)]
      simp (disch := omega) [hc]
  have hc : chkS nu kk s = 0 := by omega
  have hk : 0 ≤ kk ∧ kk ≤ 2 ∧ s.length ≤ 65536 := by
    unfold chkS at hc
    split at hc
    · omega
    · split at hc
      · omega
      · omega
  obtain ⟨k, rfl⟩ := Int.eq_ofNat_of_zero_le hk.1
  have c3 : ¬ 300 < s.length := by omega
  have g1' : ¬ (300 : Int) < s.length := by omega
  have g3' : ¬ (70000 : Int) < s.length := by omega
  have g5' : ¬ 70000 < s.length := by omega
  have hgl := vals_good ty nu fl k s h1 h2 h3 h4 h5 h6 (by omega) (by omega) (by omega)
  obtain ⟨_, rp⟩ := blockPutA_run ty nu fl k s [] hgl (by omega) hc
  obtain ⟨_, rc⟩ := R9Check_run ty nu fl k s []
  obtain ⟨_, rd⟩ := Check_run ty nu fl k s []
  obtain ⟨_, rz⟩ := SizeA_run ty nu fl k s [] hgl (by omega) hc
  obtain ⟨_, rg⟩ := GetA_run ty nu fl k s hgl (by omega) hc (by omega)
  obtain ⟨_, rv⟩ := R9Value_run ty nu fl k s hgl (by omega)
  have gt := refT_good ty nu fl k s hgl (by omega)
  obtain ⟨_, rw'⟩ := Whole_run (refT ty nu fl k s) gt.w gt.ok gt.r gt.d gt.c
  obtain ⟨_, r6⟩ := R6Put_run _ (refT ty nu fl k s) (Nat.le_refl _) gt.w gt.ok gt.r
  rw [hc] at rc rd
  have ahf := anyV_hf (refT ty nu fl k s)
  have vhf := T6.v_hf (refT ty nu fl k s)
  have el := enc_len (refT ty nu fl k s)
  have gw := gt.w
  generalize refT ty nu fl k s = t at *
  generalize hE : enc t = E at *
  simp (disch := omega) [g1', g3', g5', c3]
  simp only [blk_fold]
  rw [Xp_run rp (by simp [blk_hf]) (by simp [bys_hfs]) (by simp)]
  simp (disch := omega)
  simp only [blk_fold]
  rw [Xp_run rc (by simp [blk_hf]) (by simp) (by simp)]
  simp (disch := omega)
  simp only [blk_fold]
  rw [Xp_run rd (by simp [blk_hf]) (by simp) (by simp)]
  simp (disch := omega)
  rw [Xp_run rw' (by simp [bys_hfs]) (by simp [ahf]) (by simp)]
  simp (disch := omega)
  rw [Xp_run rg (by simp [ahf]) (by simp [blkV]) (by simp)]
  simp (disch := omega) [awake9_p, blkV, bys_back]
  simp only [blk_fold]
  rw [Xp_run rv (by simp [blk_hf]) vhf (by simp)]
  simp (disch := omega)
  rw [Xp_run r6 (by simp [vhf]) (by simp [bys_hfs]) (by simp)]
  simp (disch := omega) [bys_back]
  simp only [blk_fold]
  rw [Xp_run rz (by simp [blk_hf]) (by simp) (by simp)]
  simp (disch := omega) [bys_len]
theorem law_BlockPuts (x : V) (hx : ∃ vs, x = .agg vs ∧ Row [(.i .u64), (.i .u64), (.i .u64), (.i .i64), .s] vs) : ∃ h', Run T f_law09_BlockPuts [x] [] (.bool true) h' := by
  obtain ⟨vs, rfl, hr⟩ := hx
  obtain ⟨v0, r0, rfl, t0, hr⟩ := hr.cons
  obtain ⟨v1, r1, rfl, t1, hr⟩ := hr.cons
  obtain ⟨v2, r2, rfl, t2, hr⟩ := hr.cons
  obtain ⟨v3, r3, rfl, t3, hr⟩ := hr.cons
  obtain ⟨v4, r4, rfl, t4, hr⟩ := hr.cons
  obtain rfl := hr.none
  obtain ⟨ty, rfl, a1, a2⟩ := t0.int
  obtain ⟨nu, rfl, b1, b2⟩ := t1.int
  obtain ⟨fl, rfl, c1, c2⟩ := t2.int
  obtain ⟨k, rfl, _, _⟩ := t3.int
  obtain ⟨s, rfl, hs⟩ := t4.str
  exact Puts_run ty nu fl k s a1 a2 b1 b2 c1 c2 hs
abbrev nil6 : T6 := .mk 7 0 [] []
/-- The value at a place, nil where there is none. -/
def el (t : T6) (i : Nat) : T6 := if t.k = 4 then (t.l[i]?).getD nil6 else nil6
theorem nil_any : anyV nil6 = .nili := rfl
theorem at_el (t : T6) (i : Nat) : atV t i = anyV (el t i) := by
  unfold el
  by_cases c : t.k = 4
  · rw [if_pos c]
    cases g : t.l[i]? with
    | some x => exact atV_some t i x c (by omega) (by simpa using g)
    | none =>
      have : t.l.length ≤ i := by
        rcases Nat.lt_or_ge i t.l.length with h | h
        · rw [List.getElem?_eq_getElem h] at g; cases g
        · exact h
      rw [atV_none t i (by omega)]; rfl
  · rw [if_neg c, atV_none t i (by omega)]; rfl
theorem el_mem (t : T6) (i : Nat) : el t i = nil6 ∨ el t i ∈ t.l := by
  unfold el
  split
  · cases g : t.l[i]? with
    | some x => exact .inr (List.mem_of_getElem? g)
    | none => exact .inl rfl
  · exact .inl rfl
theorem GetG1_run (t : T6) (i : Nat) (b : Bool) (Z : List V) (g : Heap) : Run T f_block_Get_1 [.int .i64 i, .ptr 0 0, .ptr 2 0] (some [anyV t] :: some Z :: some [.bool b] :: g) (.int .u64 (asN (el t i))) (some [anyV t] :: some Z :: some [.bool (b && decide ((el t i).k = 0))] :: g) := by
  refine Run.start t_block_Get_1 ?_
  unfold k_block_Get_1
  have ha := at_el t i
  have r0 : ∀ v, Heap.row (some [anyV t] :: some Z :: some [v] :: g) 0 = some [anyV t] := fun v => rfl
  have r2 : ∀ v, Heap.row (some [anyV t] :: some Z :: some [v] :: g) 2 = some [v] := fun v => rfl
  cases b with
  | true => simp (disch := omega) [At_p, ha, Uint_p, r0, r2]
  | false => simp (disch := omega) [At_p, ha, Uint_p, r0, r2]
theorem gG1 (t : T6) (z : Int) (i : Nat) (hz : z = i) (b : Bool) (Z : List V) (g : Heap) {ks : List Kt} {ops : List AOpr} {K : Kp} {e : Env} {Q : Ex → Env → Heap → Prop} {d : Nat} : Xf T f_block_Get_1 (some [.int .i64 z, .ptr 0 0, .ptr 2 0]) (some [anyV t] :: some Z :: some [.bool b] :: g) (some d) ops K ks e Q = Xo T ops K ks ((d, .int .u64 (asN (el t i))) :: e) (some [anyV t] :: some Z :: some [.bool (b && decide ((el t i).k = 0))] :: g) Q :=
  hz ▸ Xf_run (GetG1_run t i b Z g)
/-- Has a value a block's shape? -/
def manyN (t : T6) : Int := if 0 < asN (el t 3) then 6 else 5
def shp1 (t : T6) : Prop := (((((el t 0).k = 0 ∧ (el t 1).k = 0) ∧ (el t 2).k = 0) ∧ (el t 3).k = 0) ∧ (el t 4).k = 2) ∧ asN (el t 3) ≤ 2 ∧ ((asL t).length : Int) = manyN t
def zblk : V := blkV 0 0 0 0 []
theorem zblk_eq : zblk = .agg [.int .u64 0, .int .u64 0, .int .u64 0, .int .i64 0, .str []] := rfl
theorem el_w (t : T6) (i : Nat) (hw : t.w ≤ 4194304) : (el t i).w ≤ 4194304 := by
  rcases el_mem t i with h | h
  · rw [h]; decide
  · have := T6.ws_mem h
    have := T6.lt_ws t
    omega
theorem el_n (t : T6) (i : Nat) (ok : t.ok) : 0 ≤ asN (el t i) ∧ asN (el t i) ≤ 18446744073709551615 := by
  rcases el_mem t i with h | h
  · rw [h]; decide
  · have : T6.oks t.l := by cases t; exact ok.2.2.2
    have o := T6.oks_mem this h
    generalize el t i = x at *
    obtain ⟨k, n, s, l⟩ := x
    have := o.2.1
    unfold asN
    split
    · exact ⟨this.1, this.2⟩
    · omega
def chkV (t : T6) : V := if chkS (asN (el t 1)) (asN (el t 3)) (asB (el t 4)) = 0 then .tup [blkV (asN (el t 0)) (asN (el t 1)) (asN (el t 2)) (asN (el t 3)) (asB (el t 4)), .int .i64 0]
  else .tup [zblk, .int .i64 (chkS (asN (el t 1)) (asN (el t 3)) (asB (el t 4)))]
/-- What block.Get answers, if block.Open answers j and e. -/
noncomputable def getV (t : T6) (j e : Int) : V := open Classical in if shp1 t then (if 0 < asN (el t 3) then (if (el t 5).k = 2 then (if e = 0 ∧ j = asN (el t 3) then chkV t else .tup [zblk, .int .i64 7]) else .tup [zblk, .int .i64 18]) else chkV t) else .tup [zblk, .int .i64 18]
theorem zblk_hf : V.hf zblk = true := by simp [zblk, blkV]
theorem chkV_hf (t : T6) : V.hf (chkV t) = true := by
  unfold chkV
  split <;> simp [blk_hf, zblk_hf]
theorem getV_hf (t : T6) (j e : Int) : V.hf (getV t j e) = true := by
  unfold getV
  (repeat' split) <;> first | exact chkV_hf t | simp [zblk_hf]
theorem GetG_run (t : T6) (hw : t.w ≤ 4194304) (ok : t.ok) (L : List V) (j eO : Int) (hO : Heap) (hL : V.hfs L = true) (rO : shp1 t → 0 < asN (el t 3) → (el t 5).k = 2 → Run T f_block_Open [anyV t] [] (.tup [.ps 1 L, .int .i64 j, .int .i64 eO]) hO) : ∃ h', Run T f_block_Get [anyV t] [] (getV t j eO) h' := by
  have n0 := fun {ks ops K e Q d} b Z g => gG1 (ks := ks) (ops := ops) (K := K) (e := e) (Q := Q) (d := d) t 0 0 rfl b Z g
  have n1 := fun {ks ops K e Q d} b Z g => gG1 (ks := ks) (ops := ops) (K := K) (e := e) (Q := Q) (d := d) t 1 1 rfl b Z g
  have n2 := fun {ks ops K e Q d} b Z g => gG1 (ks := ks) (ops := ops) (K := K) (e := e) (Q := Q) (d := d) t 2 2 rfl b Z g
  have n3 := fun {ks ops K e Q d} b Z g => gG1 (ks := ks) (ops := ops) (K := K) (e := e) (Q := Q) (d := d) t 3 3 rfl b Z g
  have pA := fun {ks ops K e h Q d} i => At_p (ks := ks) (ops := ops) (K := K) (e := e) (h := h) (Q := Q) (d := d) t i
  have pl := fun {ks ops K e h Q d} => List_p (ks := ks) (ops := ops) (K := K) (e := e) (h := h) (Q := Q) (d := d) t hw
  have pB := fun {ks ops K e h Q d} => Bytes_p (ks := ks) (ops := ops) (K := K) (e := e) (h := h) (Q := Q) (d := d) (el t 4) (el_w t 4 hw)
  have pB5 := fun {ks ops K e h Q d} => Bytes_p (ks := ks) (ops := ops) (K := K) (e := e) (h := h) (Q := Q) (d := d) (el t 5) (el_w t 5 hw)
  have a4 : atV t 4 = anyV (el t 4) := at_el t 4
  have hf : T.free f_block_Get_1 = true := rfl
  have any1 := anyV_one t
  have anyc := anyV_cells t
  have anyh := anyV_hf t
  have any5 := anyV_one (el t 5)
  have anyc5 := anyV_cells (el t 5)
  obtain ⟨x0, x1⟩ := el_n t 3 ok
  have alen : (anys (asL t)).length = (asL t).length := anys_len _
  have a5 : shp1 t → 0 < asN (el t 3) → (anys (asL t))[5]? = some (anyV (el t 5)) := fun hs hp => by
    have hl := hs.2.2
    unfold manyN at hl
    rw [if_pos hp] at hl
    have h4 : t.k = 4 := by
      rcases Decidable.em (t.k = 4) with c | c
      · exact c
      · simp [asL, c] at hl
    have e5 : asL t = t.l := by simp [asL, h4]
    rw [e5] at hl ⊢
    have g := List.getElem?_eq_getElem (l := t.l) (i := 5) (by omega)
    rw [anys_get, el, if_pos h4, g]
    rfl
  obtain ⟨hC, rC⟩ := Check_run (asN (el t 0)) (asN (el t 1)) (asN (el t 2)) (asN (el t 3)) (asB (el t 4)) []
  unfold getV chkV
  have hs1 : shp1 t ↔ ((((decide ((el t 0).k = 0) && decide ((el t 1).k = 0)) && decide ((el t 2).k = 0)) && decide ((el t 3).k = 0)) = true ∧ decide ((el t 4).k = 2) = true) ∧ asN (el t 3) ≤ 2 ∧ ((asL t).length : Int) = if 0 < asN (el t 3) then 6 else 5 := by
    unfold shp1 manyN; simp
  generalize anys (asL t) = A at *
  generalize anyV t = X at *
  generalize anyV (el t 4) = Y at *
  generalize anyV (el t 5) = Y5 at *
  generalize asN (el t 0) = N0 at *
  generalize asN (el t 1) = N1 at *
  generalize asN (el t 2) = N2 at *
  generalize asN (el t 3) = N3 at *
  generalize asB (el t 4) = B at *
  generalize (asL t).length = AL at *
  generalize decide ((el t 0).k = 0) = D0 at *
  generalize decide ((el t 1).k = 0) = D1 at *
  generalize decide ((el t 2).k = 0) = D2 at *
  generalize decide ((el t 3).k = 0) = D3 at *
  generalize decide ((el t 4).k = 2) = D4 at *
  generalize chkS N1 N3 B = CH at *
  refine Run.startE t_block_Get ?_
  unfold k_block_Get
  simp (disch := first | omega | assumption) [any1, anyc, n0, n1, n2, n3, pA, a4, pB]
  generalize (D0 && D1 && D2 && D3) = R at *
  by_cases hs : shp1 t
  · rw [if_pos hs]
    obtain ⟨⟨rfl, rfl⟩, hk2, hln⟩ := hs1.1 hs
    by_cases c : 0 < N3
    · rw [if_pos c] at hln ⊢
      have hA : (A.length : Int) = 6 := by omega
      have hA' : A.length = 6 := by omega
      have k2 : ¬ (2 < N3) := by omega
      have a5' := a5 hs c
      simp (disch := first | omega | assumption) [c, pl, hA, hA', k2, bys_back]
      apply Xc_regf
      simp (disch := first | omega | assumption) [bys_back]
      simp (disch := first | omega | assumption) [flagsIn, flagP, evOp, bys_back, c, a5', anyc5, any5, pB5]
      by_cases k5 : (el t 5).k = 2
      · rw [if_pos k5]
        simp (disch := first | omega | assumption) [k5]
        rw [Xp_run (rO hs c k5) (by simp [anyh]) (by simp [hL]) (by simp)]
        by_cases he : eO = 0
        · by_cases hj : j = N3
          · rw [if_pos ⟨he, hj⟩]
            simp (disch := first | omega | assumption) [he, hj]
            simp only [blk_fold]
            rw [Xp_run rC (by simp [blk_hf]) (by simp) (by simp)]
            by_cases hc : CH = 0
            · simp (disch := first | omega | assumption) [hc, blkV]
            · simp (disch := first | omega | assumption) [hc, blkV, zblk]
          · rw [if_neg (fun k => hj k.2)]
            simp (disch := first | omega | assumption) [he, hj, zblk, blkV]
        · rw [if_neg (fun k => he k.1)]
          simp (disch := first | omega | assumption) [he, zblk, blkV]
      · rw [if_neg k5]
        simp (disch := first | omega | assumption) [k5, zblk, blkV]
    · rw [if_neg c] at hln ⊢
      have hA : (A.length : Int) = 5 := by omega
      have hA' : A.length = 5 := by omega
      have k2 : ¬ (2 < N3) := by omega
      simp (disch := first | omega | assumption) [c, pl, hA, hA', k2, bys_back]
      apply Xc_regf
      simp (disch := first | omega | assumption) [bys_back]
      simp (disch := first | omega | assumption) [flagsIn, flagP, evOp, bys_back, c]
      simp only [blk_fold]
      rw [Xp_run rC (by simp [blk_hf]) (by simp) (by simp)]
      by_cases hc : CH = 0
      · simp (disch := first | omega | assumption) [hc, blkV]
      · simp (disch := first | omega | assumption) [hc, blkV, zblk]
  · rw [if_neg hs]
    rw [hs1] at hs
    by_cases c : 0 < N3
    · rw [if_pos c] at hs
      simp (disch := first | omega | assumption) [c, pl]
      cases R with
      | false => simp (disch := first | omega | assumption) [zblk, blkV]
      | true =>
        cases D4 with
        | false => simp (disch := first | omega | assumption) [zblk, blkV]
        | true =>
          by_cases k2 : 2 < N3
          · simp (disch := first | omega | assumption) [k2, zblk, blkV]
          · have hA : ¬ ((A.length : Int) = 6) := fun k => hs ⟨⟨rfl, rfl⟩, by omega, by omega⟩
            have hA' : ¬ (A.length = 6) := by omega
            simp (disch := first | omega | assumption) [k2, hA, hA', zblk, blkV]
    · rw [if_neg c] at hs
      simp (disch := first | omega | assumption) [c, pl]
      cases R with
      | false => simp (disch := first | omega | assumption) [zblk, blkV]
      | true =>
        cases D4 with
        | false => simp (disch := first | omega | assumption) [zblk, blkV]
        | true =>
          by_cases k2 : 2 < N3
          · simp (disch := first | omega | assumption) [k2, zblk, blkV]
          · have hA : ¬ ((A.length : Int) = 5) := fun k => hs ⟨⟨rfl, rfl⟩, by omega, by omega⟩
            have hA' : ¬ (A.length = 5) := by omega
            simp (disch := first | omega | assumption) [k2, hA, hA', zblk, blkV]
theorem hdB_small (m n : Nat) (h : n < 24) : (hdB m n).length = 1 := by unfold hdB; rw [if_pos h]; rfl
theorem hdB_pos (m n : Nat) : 1 ≤ (hdB m n).length := by unfold hdB; split <;> simp
theorem enc_snoc (l : List T6) (S : List UInt8) : enc (node (l ++ [byt6 S])) = (hdB 4 (l.length + 1) ++ encs l) ++ (hdB 2 S.length ++ S) := by
  rw [enc_node, encs_app]
  simp [encs, enc]
theorem snoc_len (l : List T6) (S S' : List UInt8) (hS : S.length < 24) (h : enc (node (l ++ [byt6 S])) = enc (node (l ++ [byt6 S']))) : S'.length = S.length := by
  rw [enc_snoc, enc_snoc, List.append_cancel_left_eq] at h
  have h := congrArg List.length h
  rw [List.length_append, List.length_append, hdB_small 2 _ hS] at h
  rcases Nat.lt_or_ge S'.length 24 with c | c
  · rw [hdB_small 2 _ c] at h; omega
  · have := hdB_pos 2 S'.length; omega
theorem sealB_len (l : List T6) (k : Nat) (S : List UInt8) (hk : k = 1 ∨ k = 2) (h : sealB l k = enc (node (l ++ [byt6 S]))) : S.length = widthN k := by
  unfold sealB at h
  have w := sumB_len k (enc (node (l ++ [byt6 (List.replicate (widthN k) 0)])))
  have wl := widthN_le k
  have := snoc_len l _ S (by omega) h
  omega
theorem OpenN_run (l : List T6) (S : List UInt8) (h : Heap) (hw : (node (l ++ [byt6 S])).w ≤ 4194304) (hS : S.length ≤ 3000000) (h2 : S.length ≠ 2) (h4 : S.length ≠ 4) : ∃ h', Run T f_block_Open [.iface 36 (.ps 1 (anys (l ++ [byt6 S])))] h (.tup [.ps 1 (anys (l ++ [byt6 S])), .int .i64 0, .int .i64 0]) h' := by
  have hg : (anys (l ++ [byt6 S]))[l.length]? = some (.iface 31 (.ps 1 (bys S))) := by
    rw [anys_get, List.getElem?_append_right (by omega), Nat.sub_self]; rfl
  have hlen : (anys (l ++ [byt6 S])).length = l.length + 1 := by rw [anys_len]; simp
  refine Run.startE t_block_Open ?_
  unfold k_block_Open
  have ln := fun {ks ops K e h Q d} => List_n (ks := ks) (ops := ops) (K := K) (e := e) (h := h) (Q := Q) (d := d) (l ++ [byt6 S]) hw
  have b5 : l.length ≤ 4194304 := by
    have h1 := T6.ws_len (l ++ [byt6 S])
    have h2 := T6.lt_ws (node (l ++ [byt6 S]))
    simp at h1
    have : (node (l ++ [byt6 S])).l = l ++ [byt6 S] := rfl
    rw [this] at h2
    omega
  have hA := anys_hfs (l ++ [byt6 S])
  generalize anys (l ++ [byt6 S]) = A at *
  have z : ¬ ((l.length : Int) + 1 = 0) := by omega
  have zA : ¬ (A = []) := by intro e; rw [e] at hlen; simp at hlen
  have e1 : ((A.length : Int) - 1).toNat = l.length := by omega
  have w1 : (1 : Int) ≤ A.length := by omega
  have n2 : ¬ ((S.length : Int) = 2) := by omega
  have n4 : ¬ ((S.length : Int) = 4) := by omega
  simp (disch := first | omega | assumption) [ln, z, hlen, hg, Bytes_b, bys_len, n2, n4, h2, h4, bwidth_1, bwidth_2]
/-- What block.Open answers, and what it says of the sum. -/
theorem OpenG_run (l : List T6) (S : List UInt8) (h : Heap) (hl : GoodL l) (hw : (node (l ++ [byt6 S])).w ≤ 4194304) (hS : S.length ≤ 3000000) (k : Nat) (hk : k = 1 ∨ k = 2) : ∃ L j e h', Run T f_block_Open [.iface 36 (.ps 1 (anys (l ++ [byt6 S])))] h (.tup [.ps 1 L, .int .i64 j, .int .i64 e]) h' ∧ V.hfs L = true ∧ ((e = 0 ∧ j = k) ↔ sealB l k = enc (node (l ++ [byt6 S]))) := by
  have gen : ∀ q : Nat, (q = 1 ∨ q = 2) → S.length = widthN q → ∃ L j e h', Run T f_block_Open [.iface 36 (.ps 1 (anys (l ++ [byt6 S])))] h (.tup [.ps 1 L, .int .i64 j, .int .i64 e]) h' ∧ V.hfs L = true ∧ ((e = 0 ∧ j = q) ↔ sealB l q = enc (node (l ++ [byt6 S]))) ∧ (e = 0 → j = q) := fun q hq hSq => by
    obtain ⟨h', r⟩ := Open_run l q S h hl hq hSq
    unfold openV at r
    by_cases c : sealB l q = enc (node (l ++ [byt6 S]))
    · rw [if_pos c] at r
      exact ⟨_, _, _, h', r, anys_hfs l, ⟨fun _ => c, fun _ => ⟨rfl, rfl⟩⟩, fun _ => rfl⟩
    · rw [if_neg c] at r
      exact ⟨_, _, _, h', r, rfl, ⟨fun k => absurd k.1 (by decide), fun k => absurd k c⟩, fun k => absurd k (by decide)⟩
  by_cases e1 : S.length = widthN k
  · obtain ⟨L, j, e, h', r, r1, r2, _⟩ := gen k hk e1
    exact ⟨L, j, e, h', r, r1, r2⟩
  · have ne : ¬ sealB l k = enc (node (l ++ [byt6 S])) := fun c => e1 (sealB_len l k S hk c)
    have w1 : widthN 1 = 2 := rfl
    have w2 : widthN 2 = 4 := rfl
    by_cases c2 : S.length = 2
    · obtain ⟨L, j, e, h', r, r1, r2, r3⟩ := gen 1 (.inl rfl) c2
      refine ⟨L, j, e, h', r, r1, ⟨fun q => ?_, fun q => absurd q ne⟩⟩
      have := r3 q.1
      rcases hk with rfl | rfl
      · exact absurd c2 e1
      · omega
    · by_cases c4 : S.length = 4
      · obtain ⟨L, j, e, h', r, r1, r2, r3⟩ := gen 2 (.inr rfl) c4
        refine ⟨L, j, e, h', r, r1, ⟨fun q => ?_, fun q => absurd q ne⟩⟩
        have := r3 q.1
        rcases hk with rfl | rfl
        · omega
        · exact absurd c4 e1
      · obtain ⟨h', r⟩ := OpenN_run l S h hw hS c2 c4
        refine ⟨_, _, _, h', r, anys_hfs _, ⟨fun q => ?_, fun q => absurd q ne⟩⟩
        have := q.2
        rcases hk with rfl | rfl <;> omega
/-- A value's fourth, as a number. -/
def kindN (t : T6) : Nat := (asN (el t 3)).toNat
def refV (t : T6) : T6 := refT (asN (el t 0)) (asN (el t 1)) (asN (el t 2)) (kindN t) (asB (el t 4))
def shp2 (t : T6) : Prop := shp1 t ∧ (0 < asN (el t 3) → (el t 5).k = 2)
/-- What is answered at any value. -/
noncomputable def getS (t : T6) : V := open Classical in if shp2 t then (if enc t = enc (refV t) then chkV t else .tup [zblk, .int .i64 7]) else .tup [zblk, .int .i64 18]
theorem getS_hf (t : T6) : V.hf (getS t) = true := by
  unfold getS
  (repeat' split) <;> first | exact chkV_hf t | simp [zblk_hf]
theorem any_eq (t : T6) (h : t.k = 0) : anyV t = anyV (num6 (asN t)) ∧ enc t = enc (num6 (asN t)) := by
  obtain ⟨k, n, s, l⟩ := t
  have : k = 0 := h
  subst this
  exact ⟨rfl, by simp [asN, T6.k, T6.n, enc]⟩
theorem any_eqb (t : T6) (h : t.k = 2) : anyV t = anyV (byt6 (asB t)) ∧ enc t = enc (byt6 (asB t)) := by
  obtain ⟨k, n, s, l⟩ := t
  have : k = 2 := h
  subst this
  exact ⟨rfl, by simp [asB, T6.k, T6.s, enc]⟩
theorem any_eql (t : T6) (h : t.k = 4) : anyV t = anyV (node t.l) ∧ enc t = enc (node t.l) := by
  obtain ⟨k, n, s, l⟩ := t
  have : k = 4 := h
  subst this
  exact ⟨rfl, by simp [T6.l, enc]⟩
theorem list_el5 (t : T6) (h : t.k = 4) (hl : t.l.length = 5) : t.l = [el t 0, el t 1, el t 2, el t 3, el t 4] := by
  obtain ⟨k, n, s, l⟩ := t
  simp only [el, if_pos h]
  change l.length = 5 at hl
  match l, hl with
  | [a, b, c, d, e], _ => rfl
theorem list_el6 (t : T6) (h : t.k = 4) (hl : t.l.length = 6) : t.l = [el t 0, el t 1, el t 2, el t 3, el t 4, el t 5] := by
  obtain ⟨k, n, s, l⟩ := t
  simp only [el, if_pos h]
  change l.length = 6 at hl
  match l, hl with
  | [a, b, c, d, e, f], _ => rfl
theorem shp_k4 {t : T6} (h : shp1 t) : t.k = 4 := by
  rcases Decidable.em (t.k = 4) with c | c
  · exact c
  · have := h.2.2
    simp [asL, c, manyN] at this
    split at this <;> omega
theorem shp_0 {t : T6} (h : shp1 t) (c : ¬ 0 < asN (el t 3)) (h0 : 0 ≤ asN (el t 3)) : anyV t = anyV (node (vals (asN (el t 0)) (asN (el t 1)) (asN (el t 2)) 0 (asB (el t 4)))) ∧ enc t = enc (node (vals (asN (el t 0)) (asN (el t 1)) (asN (el t 2)) 0 (asB (el t 4)))) := by
  have k4 := shp_k4 h
  obtain ⟨⟨⟨⟨⟨d0, d1⟩, d2⟩, d3⟩, d4⟩, _, hl⟩ := h
  have eL : asL t = t.l := by simp [asL, k4]
  rw [eL, manyN, if_neg c] at hl
  have el5 := list_el5 t k4 (by omega)
  have e3 : asN (el t 3) = 0 := by omega
  have q0 := any_eq _ d0
  have q1 := any_eq _ d1
  have q2 := any_eq _ d2
  have q3 := any_eq _ d3
  have q4 := any_eqb _ d4
  rw [e3] at q3
  have q := any_eql t k4
  rw [q.1, q.2, el5]
  constructor
  · rw [any_node, any_node]
    simp only [vals, anys, q0.1, q1.1, q2.1, q3.1, q4.1]
  · rw [enc_node, enc_node]
    simp only [vals, encs, q0.2, q1.2, q2.2, q3.2, q4.2, List.length_cons, List.length_nil]
theorem shp_1 {t : T6} (h : shp1 t) (c : 0 < asN (el t 3)) (h5 : (el t 5).k = 2) : anyV t = anyV (blkT (asN (el t 0)) (asN (el t 1)) (asN (el t 2)) (kindN t) (asB (el t 4)) (asB (el t 5))) ∧ enc t = enc (blkT (asN (el t 0)) (asN (el t 1)) (asN (el t 2)) (kindN t) (asB (el t 4)) (asB (el t 5))) := by
  have k4 := shp_k4 h
  obtain ⟨⟨⟨⟨⟨d0, d1⟩, d2⟩, d3⟩, d4⟩, _, hl⟩ := h
  have eL : asL t = t.l := by simp [asL, k4]
  rw [eL, manyN, if_pos c] at hl
  have el5 := list_el6 t k4 (by omega)
  have e3 : ((kindN t : Nat) : Int) = asN (el t 3) := by unfold kindN; omega
  have q0 := any_eq _ d0
  have q1 := any_eq _ d1
  have q2 := any_eq _ d2
  have q3 := any_eq _ d3
  have q4 := any_eqb _ d4
  have q5 := any_eqb _ h5
  rw [← e3] at q3
  have q := any_eql t k4
  rw [q.1, q.2, el5]
  constructor
  · rw [any_node, blkT_any]
    simp only [vals, anys, anys_app, q0.1, q1.1, q2.1, q3.1, q4.1, q5.1]
    rfl
  · rw [enc_node, blkT, enc_node]
    simp only [vals, encs, encs_app, q0.2, q1.2, q2.2, q3.2, q4.2, q5.2]
    simp
theorem asB_le (t : T6) : (asB t).length ≤ t.w := by
  obtain ⟨k, n, s, l⟩ := t
  unfold asB
  split
  · rw [T6.w]; show s.length ≤ _; omega
  · simp
theorem el_le (t : T6) (i : Nat) : (el t i).w ≤ t.w := by
  rcases el_mem t i with h | h
  · rw [h]; have := T6.w_pos t; simp [T6.w, T6.ws]; omega
  · have := T6.ws_mem h
    have := T6.lt_ws t
    omega
theorem shp_good {t : T6} (hw : t.w ≤ 1048576) (ok : t.ok) (h : shp1 t) : GoodL (vals (asN (el t 0)) (asN (el t 1)) (asN (el t 2)) (kindN t) (asB (el t 4))) ∧ kindN t ≤ 2 := by
  have n0 := el_n t 0 ok
  have n1 := el_n t 1 ok
  have n2 := el_n t 2 ok
  have n3 := el_n t 3 ok
  have b := asB_le (el t 4)
  have := el_le t 4
  have k2 : kindN t ≤ 2 := by have := h.2.1; unfold kindN; omega
  exact ⟨vals_good _ _ _ _ _ n0.1 n0.2 n1.1 n1.2 n2.1 n2.2 (by omega) (by omega) (by omega), k2⟩
/-- block.Get at any value. -/
theorem GetS_run (t : T6) (hw : t.w ≤ 1048576) (ok : t.ok) : ∃ h', Run T f_block_Get [anyV t] [] (getS t) h' := by
  have n3 := el_n t 3 ok
  by_cases c : shp1 t ∧ 0 < asN (el t 3) ∧ (el t 5).k = 2
  · obtain ⟨hs, hp, h5⟩ := c
    obtain ⟨gl, k2⟩ := shp_good hw ok hs
    obtain ⟨ea, ee⟩ := shp_1 hs hp h5
    have kp : 0 < kindN t := by unfold kindN; omega
    have b5 := asB_le (el t 5)
    have := el_le t 5
    obtain ⟨L, j, e, h', r, r1, r2⟩ := OpenG_run _ (asB (el t 5)) [] gl (by
      have := asB_le (el t 4)
      have := el_le t 4
      simp only [vals, T6.w, ws_app, T6.ws, List.length_nil]
      omega) (by omega) (kindN t) (by omega)
    rw [← blkT_any, ← ea] at r
    obtain ⟨hG, rG⟩ := GetG_run t (by omega) ok L j e h' r1 (fun _ _ _ => r)
    refine ⟨hG, ?_⟩
    have eq : getS t = getV t j e := by
      unfold getS getV
      rw [if_pos (show shp2 t from ⟨hs, fun _ => h5⟩), if_pos hs, if_pos hp, if_pos h5]
      have ek : ((kindN t : Nat) : Int) = asN (el t 3) := by unfold kindN; omega
      have er := encRef (asN (el t 0)) (asN (el t 1)) (asN (el t 2)) (kindN t) (asB (el t 4)) (by omega)
      rw [er] at r2
      rw [ee]
      rw [ek] at r2
      have : (e = 0 ∧ j = asN (el t 3)) ↔ enc (blkT (asN (el t 0)) (asN (el t 1)) (asN (el t 2)) (kindN t) (asB (el t 4)) (asB (el t 5))) = enc (refV t) := r2.trans ⟨fun h => h.symm, fun h => h.symm⟩
      by_cases q : e = 0 ∧ j = asN (el t 3)
      · rw [if_pos q, if_pos (this.1 q)]
      · rw [if_neg q, if_neg (fun k => q (this.2 k))]
    rw [eq]
    exact rG
  · obtain ⟨hG, rG⟩ := GetG_run t (by omega) ok [] 0 0 [] rfl (fun h1 h2 h3 => absurd ⟨h1, h2, h3⟩ c)
    refine ⟨hG, ?_⟩
    have eq : getS t = getV t 0 0 := by
      unfold getS getV
      by_cases hs : shp1 t
      · rw [if_pos hs]
        by_cases hp : 0 < asN (el t 3)
        · rw [if_pos hp, if_neg (fun k => c ⟨hs, hp, k⟩), if_neg (fun k : shp2 t => c ⟨hs, hp, k.2 hp⟩)]
        · rw [if_neg hp, if_pos (show shp2 t from ⟨hs, fun k => absurd k hp⟩)]
          have k0 : kindN t = 0 := by unfold kindN; omega
          have e0 := (shp_0 hs hp n3.1).2
          rw [if_pos (by rw [e0]; unfold refV refT; rw [if_pos k0, k0]; rfl)]
      · rw [if_neg hs, if_neg (fun k : shp2 t => hs k.1)]
    rw [eq]
    exact rG
theorem refV_good {t : T6} (hw : t.w ≤ 1048576) (ok : t.ok) (h : shp1 t) : Good (refV t) := refT_good _ _ _ _ _ (shp_good hw ok h).1 (shp_good hw ok h).2
theorem el_at (t : T6) (i : Nat) (h : t.k = 4) (hi : i < t.l.length) : (T6.vs t.l)[i]? = some (el t i).v := by
  rw [T6.vs_get, el, if_pos h, List.getElem?_eq_getElem hi]; rfl
theorem R9Get_run (t : T6) (hw : t.w ≤ 1048576) (ok : t.ok) (hr : rgt t = true) : ∃ h', Run T f_ref09_Get [t.v] [] (getS t) h' := by
  have h6 := R6Put_run _ t (Nat.le_refl _) (by omega) ok hr
  have ve := v_eq t
  have vl := T6.vs_len t.l
  have vh := T6.v_hf t
  have b5 := T6.ws_len t.l
  have b6 := T6.lt_ws t
  have tc : t.v.cells = [.int .i64 t.k, .int .u64 t.n, .str t.s, .ps 4 (T6.vs t.l)] := by rw [ve]; rfl
  refine Run.startE t_ref09_Get ?_
  unfold k_ref09_Get
  by_cases k4' : t.k ≠ 4
  · have : ¬ shp2 t := fun h => k4' (shp_k4 h.1)
    unfold getS
    rw [if_neg this]
    simp (disch := first | omega | assumption) [tc, k4', zblk, blkV]
  have k4 : t.k = 4 := by omega
  obtain ⟨_, h6⟩ := h6
  rw [ve, k4] at h6
  have eL : asL t = t.l := by simp [asL, k4]
  by_cases l5 : t.l.length < 5
  · have : ¬ shp2 t := fun h => by
      have := h.1.2.2
      rw [eL] at this
      unfold manyN at this
      split at this <;> omega
    unfold getS
    rw [if_neg this]
    have l5' : (t.l.length : Int) < 5 := by omega
    simp (disch := first | omega | assumption) [tc, k4, vl, l5, l5', zblk, blkV]
  by_cases l6 : 6 < t.l.length
  · have : ¬ shp2 t := fun h => by
      have := h.1.2.2
      rw [eL] at this
      unfold manyN at this
      split at this <;> omega
    unfold getS
    rw [if_neg this]
    have l5' : ¬ (t.l.length : Int) < 5 := by omega
    have l6' : (6 : Int) < t.l.length := by omega
    simp (disch := first | omega | assumption) [tc, k4, vl, l5, l5', l6, l6', zblk, blkV]
  have l5' : ¬ (t.l.length : Int) < 5 := by omega
  have l6' : ¬ (6 : Int) < t.l.length := by omega
  have e0 := el_at t 0 k4 (by omega)
  have e1 := el_at t 1 k4 (by omega)
  have e2 := el_at t 2 k4 (by omega)
  have e3 := el_at t 3 k4 (by omega)
  have e4 := el_at t 4 k4 (by omega)
  have c0 : ∀ i, (el t i).v.cells[0]? = some (.int .i64 (el t i).k) := fun i => by rw [v_eq]; rfl
  have c1 : ∀ i, (el t i).v.cells[1]? = some (.int .u64 (el t i).n) := fun i => by rw [v_eq]; rfl
  have c2 : ∀ i, (el t i).v.cells[2]? = some (.str (el t i).s) := fun i => by rw [v_eq]; rfl
  have cl : ∀ i, (el t i).v.cells.length = 4 := fun i => T6.cells_len _
  simp (disch := first | omega | assumption) [tc, k4, vl, l5, l5', l6, l6']
  rw [L_ref09_Get_0]; unfold bl_ref09_Get_0
  simp (disch := first | omega | assumption) [vl, e0, c0, cl]
  by_cases d0' : (el t 0).k ≠ 0
  · have : ¬ shp2 t := fun h => d0' (by have := h.1.1; simp only [this])
    unfold getS
    rw [if_neg this]
    simp (disch := first | omega | assumption) [d0', zblk, blkV]
  have d0 : (el t 0).k = 0 := by omega
  simp (disch := first | omega | assumption) [d0]
  rw [L_ref09_Get_0]; unfold bl_ref09_Get_0
  simp (disch := first | omega | assumption) [vl, e1, c0, cl]
  by_cases d1' : (el t 1).k ≠ 0
  · have : ¬ shp2 t := fun h => d1' (by have := h.1.1; simp only [this])
    unfold getS
    rw [if_neg this]
    simp (disch := first | omega | assumption) [d1', zblk, blkV]
  have d1 : (el t 1).k = 0 := by omega
  simp (disch := first | omega | assumption) [d1]
  rw [L_ref09_Get_0]; unfold bl_ref09_Get_0
  simp (disch := first | omega | assumption) [vl, e2, c0, cl]
  by_cases d2' : (el t 2).k ≠ 0
  · have : ¬ shp2 t := fun h => d2' (by have := h.1.1; simp only [this])
    unfold getS
    rw [if_neg this]
    simp (disch := first | omega | assumption) [d2', zblk, blkV]
  have d2 : (el t 2).k = 0 := by omega
  simp (disch := first | omega | assumption) [d2]
  rw [L_ref09_Get_0]; unfold bl_ref09_Get_0
  simp (disch := first | omega | assumption) [vl, e3, c0, cl]
  by_cases d3' : (el t 3).k ≠ 0
  · have : ¬ shp2 t := fun h => d3' (by have := h.1.1; simp only [this])
    unfold getS
    rw [if_neg this]
    simp (disch := first | omega | assumption) [d3', zblk, blkV]
  have d3 : (el t 3).k = 0 := by omega
  simp (disch := first | omega | assumption) [d3]
  rw [L_ref09_Get_0]; unfold bl_ref09_Get_0
  simp (disch := first | omega | assumption) [vl, e3, e4, c0, c1, cl]
  have an : asN (el t 3) = (el t 3).n := by unfold asN; rw [if_pos d3]
  have n3 := el_n t 3 ok
  rw [an] at n3
  by_cases d4' : (el t 4).k ≠ 2
  · have : ¬ shp2 t := fun h => d4' h.1.1.2
    unfold getS
    rw [if_neg this]
    simp (disch := first | omega | assumption) [d4', zblk, blkV]
  have d4 : (el t 4).k = 2 := by omega
  by_cases kb : 2 < (el t 3).n
  · have : ¬ shp2 t := fun h => by have := h.1.2.1; omega
    unfold getS
    rw [if_neg this]
    simp (disch := first | omega | assumption) [d4, kb, zblk, blkV]
  have an0 : asN (el t 0) = (el t 0).n := by unfold asN; rw [if_pos d0]
  have an1 : asN (el t 1) = (el t 1).n := by unfold asN; rw [if_pos d1]
  have an2 : asN (el t 2) = (el t 2).n := by unfold asN; rw [if_pos d2]
  have bn : asB (el t 4) = (el t 4).s := by unfold asB; rw [if_pos d4]
  by_cases kz : (el t 3).n = 0
  · by_cases lb : t.l.length ≠ 5
    · have : ¬ shp2 t := fun h => by
        have := h.1.2.2
        rw [eL, manyN, an, if_neg (by omega)] at this
        omega
      unfold getS
      rw [if_neg this]
      have lb' : ¬ ((t.l.length : Int) = 5) := by omega
      simp (disch := first | omega | assumption) [d4, kb, kz, lb, lb', vl, zblk, blkV]
    have lb2 : t.l.length = 5 := by omega
    have lb' : ((t.l.length : Int) = 5) := by omega
    have hs : shp2 t := ⟨⟨⟨⟨⟨⟨d0, d1⟩, d2⟩, d3⟩, d4⟩, by rw [an]; omega, by rw [eL, manyN, an, if_neg (by omega)]; omega⟩, fun h => by rw [an] at h; omega⟩
    unfold getS
    rw [if_pos hs]
    obtain ⟨gl, k2⟩ := shp_good hw ok hs.1
    have gr := refV_good hw ok hs.1
    obtain ⟨_, rV⟩ := R9Value_run _ _ _ _ _ gl k2
    have fV : refT (asN (el t 0)) (asN (el t 1)) (asN (el t 2)) (kindN t) (asB (el t 4)) = refV t := rfl
    rw [fV] at rV
    obtain ⟨_, r6⟩ := R6Put_run _ (refV t) (Nat.le_refl _) gr.w gr.ok gr.r
    obtain ⟨_, rC⟩ := R9Check_run (asN (el t 0)) (asN (el t 1)) (asN (el t 2)) (asN (el t 3)) (asB (el t 4)) []
    have hkn : ((kindN t : Nat) : Int) = asN (el t 3) := by unfold kindN; rw [an]; omega
    rw [hkn] at rV
    unfold chkV
    rw [an, an0, an1, an2, bn] at *
    rw [kz] at rV rC
    have vhf := T6.v_hf (refV t)
    simp (disch := first | omega | assumption) [d4, kb, kz, lb2, vl,  zblk, blkV]
    apply Xc_regf
    simp (disch := first | omega | assumption) [vl, e0, e1, e2, e3, e4, c0, c1, c2, cl]
    simp (disch := first | omega | assumption) [flagsIn, flagP, evOp, vl, e0, e1, e2, e3, e4, c0, c1, c2, cl]
    simp only [blk_fold]
    rw [Xp_run rV (by simp [blk_hf]) vhf (by simp)]
    simp (disch := omega)
    rw [Xp_run r6 (by simp [vhf]) (by simp [bys_hfs]) (by simp)]
    simp (disch := omega) [bys_back]
    rw [Xp_run h6 (by simp [T6.vs_hfs]) (by simp [bys_hfs]) (by simp)]
    simp (disch := omega) [bys_back]
    generalize enc (refV t) = E1 at *
    generalize enc t = E2 at *
    by_cases q : E2 = E1
    · rw [if_pos q]
      subst q
      simp (disch := omega)
      simp only [blk_fold]
      rw [Xp_run rC (by simp [blk_hf]) (by simp) (by simp)]
      generalize chkS _ _ _ = CH at *
      by_cases hc : CH = 0
      · simp (disch := first | omega | assumption) [hc, blkV]
      · simp (disch := first | omega | assumption) [hc, blkV]
    · rw [if_neg q]
      have q' : ¬ E1 = E2 := fun k => q k.symm
      simp (disch := omega) [q', blkV]
  · have kp : 0 < (el t 3).n := by omega
    by_cases lb : t.l.length ≠ 6
    · have : ¬ shp2 t := fun h => by
        have := h.1.2.2
        rw [eL, manyN, an, if_pos (by omega)] at this
        omega
      unfold getS
      rw [if_neg this]
      have lb' : ¬ ((t.l.length : Int) = 6) := by omega
      simp (disch := first | omega | assumption) [d4, kb, kz, kp, lb, lb', vl, zblk, blkV]
    have lb2 : t.l.length = 6 := by omega
    have lb' : ((t.l.length : Int) = 6) := by omega
    have e5 := el_at t 5 k4 (by omega)
    by_cases d5' : (el t 5).k ≠ 2
    · have : ¬ shp2 t := fun h => d5' (h.2 (by rw [an]; omega))
      unfold getS
      rw [if_neg this]
      simp (disch := first | omega | assumption) [d4, kb, kz, kp, lb2, vl, e5, c0, cl, d5', zblk, blkV]
    have d5 : (el t 5).k = 2 := by omega
    have hs : shp2 t := ⟨⟨⟨⟨⟨⟨d0, d1⟩, d2⟩, d3⟩, d4⟩, by rw [an]; omega, by rw [eL, manyN, an, if_pos (by omega)]; omega⟩, fun _ => d5⟩
    unfold getS
    rw [if_pos hs]
    obtain ⟨gl, k2⟩ := shp_good hw ok hs.1
    have gr := refV_good hw ok hs.1
    obtain ⟨_, rV⟩ := R9Value_run _ _ _ _ _ gl k2
    have fV : refT (asN (el t 0)) (asN (el t 1)) (asN (el t 2)) (kindN t) (asB (el t 4)) = refV t := rfl
    rw [fV] at rV
    obtain ⟨_, r6⟩ := R6Put_run _ (refV t) (Nat.le_refl _) gr.w gr.ok gr.r
    obtain ⟨_, rC⟩ := R9Check_run (asN (el t 0)) (asN (el t 1)) (asN (el t 2)) (asN (el t 3)) (asB (el t 4)) []
    have hkn : ((kindN t : Nat) : Int) = asN (el t 3) := by unfold kindN; rw [an]; omega
    rw [hkn] at rV
    unfold chkV
    rw [an, an0, an1, an2, bn] at *
    have vhf := T6.v_hf (refV t)
    simp (disch := first | omega | assumption) [d4, kb, kz, kp, lb2, vl, e5, c0, cl, d5, zblk, blkV]
    apply Xc_regf
    simp (disch := first | omega | assumption) [vl, e0, e1, e2, e3, e4, c0, c1, c2, cl]
    simp (disch := first | omega | assumption) [flagsIn, flagP, evOp, vl, e0, e1, e2, e3, e4, c0, c1, c2, cl]
    simp only [blk_fold]
    rw [Xp_run rV (by simp [blk_hf]) vhf (by simp)]
    simp (disch := omega)
    rw [Xp_run r6 (by simp [vhf]) (by simp [bys_hfs]) (by simp)]
    simp (disch := omega) [bys_back]
    rw [Xp_run h6 (by simp [T6.vs_hfs]) (by simp [bys_hfs]) (by simp)]
    simp (disch := omega) [bys_back]
    generalize enc (refV t) = E1 at *
    generalize enc t = E2 at *
    by_cases q : E2 = E1
    · rw [if_pos q]
      subst q
      simp (disch := omega)
      simp only [blk_fold]
      rw [Xp_run rC (by simp [blk_hf]) (by simp) (by simp)]
      generalize chkS _ _ _ = CH at *
      by_cases hc : CH = 0
      · simp (disch := first | omega | assumption) [hc, blkV]
      · simp (disch := first | omega | assumption) [hc, blkV]
    · rw [if_neg q]
      have q' : ¬ E1 = E2 := fun k => q k.symm
      simp (disch := omega) [q', blkV]
theorem getS_shape (t : T6) : ∃ a b c k s e, getS t = .tup [blkV a b c k s, .int .i64 e] := by
  unfold getS chkV zblk
  (repeat' split) <;> exact ⟨_, _, _, _, _, _, rfl⟩
theorem Gets_run (t : T6) (hw : t.w ≤ 1048576) (ok : t.ok) : ∃ h', Run T f_law09_BlockGets [t.v] [] (.bool true) h' := by
  have ve := v_eq t
  have vh := T6.v_hf t
  have vc : t.v.cells.length = 4 := T6.cells_len t
  have ag : V.agg t.v.cells = t.v := by rw [ve]; rfl
  refine Run.startE t_law09_BlockGets ?_
  unfold k_law09_BlockGets
  have fz := T6.agg_v t
  have vone : ∀ x ∈ t.v.cells, x.one = true := by rw [ve]; simp
  have sz := fun {ks ops K e h Q d} => Sz_p t (by omega) (ks := ks) (ops := ops) (K := K) (e := e) (h := h) (Q := Q) (d := d)
  simp (disch := first | omega | assumption) [vc, fz, sz, vone]
  by_cases c1 : 10 < dp t
  · simp (disch := first | omega | assumption) [c1, awake9_p]
  simp (disch := first | omega | assumption) [c1]
  by_cases c2 : 100 < cnt t
  · have c2' : (100 : Int) < cnt t := by omega
    simp (disch := first | omega | assumption) [c2, c2', awake9_p]
  have c2' : ¬ (100 : Int) < cnt t := by omega
  have rt := fun {ks ops K e h Q d} => Rt_p t (by omega) (ks := ks) (ops := ops) (K := K) (e := e) (h := h) (Q := Q) (d := d) (lent := false) rfl
  simp (disch := first | omega | assumption) [c2, c2', vc, fz, rt]
  cases hr : rgt t with
  | false => simp (disch := first | omega | assumption) [awake9_p]
  | true =>
    obtain ⟨_, r1⟩ := GetS_run t hw ok
    obtain ⟨_, r2⟩ := R9Get_run t hw ok hr
    have gh := getS_hf t
    obtain ⟨a, b, c, k, s, e, eg⟩ := getS_shape t
    rw [eg] at r1 r2 gh
    simp (disch := first | omega | assumption) [vc, fz, Any_p]
    rw [Xp_run r1 (by simp [anyV_hf]) gh (by simp)]
    simp (disch := first | omega | assumption) [vc, fz, blkV]
    rw [Xp_run r2 (by simp [vh]) gh (by simp)]
    simp (disch := first | omega | assumption) [vc, fz, blkV, awake9_p]
theorem law_BlockGets (x : V) (hx : ∃ vs, x = .agg vs ∧ Row sh6 vs) (hb : V.bulk x ≤ 1048576) : ∃ h', Run T f_law09_BlockGets [x] [] (.bool true) h' := by
  obtain ⟨vs, rfl, hr⟩ := hx
  simp only [V.bulk] at hb
  obtain ⟨t, e, h1, h2⟩ := read6 _ vs (Nat.le_refl _) hr
  rw [e]
  exact Gets_run t (by omega) h1
/-! ### runes -/
theorem nxt_at (h : Heap) (b : Nat) (s : List UInt8) (p : Nat) (hr : h.row b = some [.str s, .int .i64 p]) :
    nxtV h (.itr b) = if p < s.length then some (.tup [.bool true, .int .i64 p, .int .i32 (Utf8.decode ⟨s.toArray⟩ p).1], h.set b (some [.str s, .int .i64 ((p + (Utf8.decode ⟨s.toArray⟩ p).2 : Nat) : Int)])) else some (.tup [.bool false], h) := by
  have e0 : ((p : Int)).toNat = p := by omega
  have e1 : ¬ ((p : Int) < 0) := by omega
  unfold nxtV
  simp only [hr, Option.bind_some, if_neg e1, e0]
theorem get_b (s : List UInt8) (p : Nat) (h : p < s.length) : ((⟨s.toArray⟩ : ByteArray).get! p) = s[p] := by
  simp [ByteArray.get!, h]
theorem dec_ascii (s : List UInt8) (p : Nat) (h : p < s.length) (hb : s[p].toNat < 128) : Utf8.decode ⟨s.toArray⟩ p = (s[p].toNat, 1) := by
  unfold Utf8.decode
  simp only [Nat.add_zero, get_b s p h]
  rw [if_pos hb]
theorem dec_big (s : List UInt8) (p : Nat) (h : p < s.length) (hb : 128 ≤ s[p].toNat) : 128 ≤ (Utf8.decode ⟨s.toArray⟩ p).1 := by
  unfold Utf8.decode
  simp only [Nat.add_zero, get_b s p h, Utf8.runeError]
  rw [if_neg (by omega)]
  (repeat' split) <;> simp_all <;> omega
def plainB (b : UInt8) : Bool := decide (33 ≤ b.toNat) && decide (b.toNat ≤ 126)
def plainS (s : List UInt8) : Bool := s.all plainB
theorem runesplain_run (c : Int) (h : Heap) : Run T f_runes_plain [.int .i32 c] h (.bool (decide (32 < c) && decide (c ≤ 126))) h := by
  refine Run.start t_runes_plain ?_
  unfold k_runes_plain
  by_cases c1 : 32 < c
  · by_cases c2 : c ≤ 126
    · simp (disch := omega) [c1, c2]
    · simp (disch := omega) [c1, c2]
  · simp (disch := omega) [c1]
section
variable {ks : List Kt} {ops : List AOpr} {K : Kp} {e : Env} {h : Heap} {Q : Ex → Env → Heap → Prop} {d : Nat}
theorem runesplain_p (c : Int) : Xp T f_runes_plain (some ([.int .i32 c], false)) h (some d) ops K ks e Q = Xo T ops K ks ((d, .bool (decide (32 < c) && decide (c ≤ 126))) :: e) h Q :=
  Xp_run (runesplain_run c []) (by simp) rfl (by simp)
end
theorem row_last (h : Heap) (x : List V) : Heap.row (h ++ [some x]) h.length = some x := by
  simp [Heap.row, List.getElem?_append_right]
theorem set_last (h : Heap) (x y : Option (List V)) : (h ++ [x]).set h.length y = h ++ [y] := by simp
theorem Plain_loop (s : List UInt8) (hs : s.length ≤ 140737488351232) (h0 : Heap) : ∀ (m p : Nat), p + m = s.length → ∀ ks Q (e : Env),
    ((s.drop p).all plainB = true → ∀ e h, Xk T ks (.x 0) ([(0, .str s)] ++ e) h Q) →
    ((s.drop p).all plainB = false → ∀ e h, Xk T ks .r ([(2, .bool false)] ++ e) h Q) →
    Xc T l_runes_Plain_0 ks ([(0, .str s), (6, .itr h0.length)] ++ e) (h0 ++ [some [.str s, .int .i64 p]]) Q := by
  intro m
  induction m with
  | zero =>
    intro p hp ks Q e hQ hR
    rw [L_runes_Plain_0]; unfold bl_runes_Plain_0
    have n1 := nxt_at (h0 ++ [some [.str s, .int .i64 p]]) h0.length s p (row_last _ _)
    rw [if_neg (by omega)] at n1
    simp (disch := omega) [n1]
    exact hQ (by rw [List.drop_eq_nil_of_le (by omega)]; rfl) _ _
  | succ m ih =>
    intro p hp ks Q e hQ hR
    rw [L_runes_Plain_0]; unfold bl_runes_Plain_0
    have n1 := nxt_at (h0 ++ [some [.str s, .int .i64 p]]) h0.length s p (row_last _ _)
    have hlt : p < s.length := by omega
    rw [if_pos hlt, set_last] at n1
    have hd : s.drop p = s[p] :: s.drop (p + 1) := List.drop_eq_getElem_cons hlt
    rw [hd] at hQ hR
    simp only [List.all_cons, Bool.and_eq_true, Bool.and_eq_false_iff] at hQ hR
    by_cases hb : plainB s[p] = true
    · have hb2 := hb
      simp only [plainB, Bool.and_eq_true, decide_eq_true_eq] at hb2
      have da := dec_ascii s p hlt (by omega)
      rw [da] at n1
      have c1 : (32 : Int) < (s[p].toNat : Int) := by omega
      have c2 : (s[p].toNat : Int) ≤ 126 := by omega
      have := ih (p + 1) (by omega) ks Q [(12, .bool false)] (fun h => hQ ⟨hb, h⟩) (fun h => hR (.inr h))
      simp only at n1
      generalize s[p].toNat = B at *
      simp (disch := omega) [n1, runesplain_p, c1, c2]
      simpa using this
    · have hb1 : plainB s[p] = false := by simpa using hb
      have hr := hR (.inl hb1)
      have hc : ¬ (32 < ((Utf8.decode ⟨s.toArray⟩ p).1 : Int) ∧ ((Utf8.decode ⟨s.toArray⟩ p).1 : Int) ≤ 126) := by
        rcases Nat.lt_or_ge s[p].toNat 128 with k | k
        · have da := dec_ascii s p hlt k
          rw [da]
          simp only [plainB, Bool.and_eq_false_iff, decide_eq_false_iff_not] at hb1
          simp only
          omega
        · have := dec_big s p hlt k
          omega
      generalize Utf8.decode ⟨s.toArray⟩ p = D at *
      by_cases c1 : (32 : Int) < (D.1 : Int)
      · have c2 : ¬ ((D.1 : Int) ≤ 126) := fun k => hc ⟨c1, k⟩
        have c1' : 32 < D.1 := by omega
        have c2' : ¬ (D.1 ≤ 126) := by omega
        simp (disch := omega) [n1, runesplain_p, c1, c2, c1', c2']
        simpa using hr _ _
      · have c1' : ¬ 32 < D.1 := by omega
        simp (disch := omega) [n1, runesplain_p, c1, c1']
        simpa using hr _ _
theorem Plain_run (s : List UInt8) (hs : s.length ≤ 140737488351232) (h : Heap) : ∃ h', Run T f_runes_Plain [.str s] h (.bool (plainS s && !decide (s = []))) h' := by
  refine Run.startE t_runes_Plain ?_
  unfold k_runes_Plain
  have := Plain_loop s hs h s.length 0 (by omega)
  simp (disch := omega)
  refine this _ _ [] (fun hp e h => ?_) (fun hp e h => ?_)
  · rw [List.drop_zero] at hp
    have hp2 : plainS s = true := hp
    by_cases hz : s = []
    · simp (disch := omega) [hp2, hz]
    · simp (disch := omega) [hp2, hz]
  · rw [List.drop_zero] at hp
    have hp2 : plainS s = false := hp
    simp (disch := omega) [hp2]
theorem HasPrefix2_run (s : List UInt8) (hs : s.length ≤ 140737488351232) (h : Heap) : ∃ h', Run T f_strings_HasPrefix [.str s, .str [47, 47]] h (.bool (decide (2 ≤ s.length) && decide (s.take 2 = [47, 47]))) h' := by
  have r1 : ∃ h', Run T f_internal_stringslite_HasPrefix [.str s, .str [47, 47]] [] (.bool (decide (2 ≤ s.length) && decide (s.take 2 = [47, 47]))) h' := by
    refine Run.startE t_internal_stringslite_HasPrefix ?_
    unfold k_internal_stringslite_HasPrefix
    by_cases c : 2 ≤ s.length
    · have c' : (2 : Int) ≤ s.length := by omega
      simp (disch := omega) [c, c']
    · have c' : ¬ (2 : Int) ≤ s.length := by omega
      simp (disch := omega) [c, c']
  obtain ⟨_, r1⟩ := r1
  refine Run.startE t_strings_HasPrefix ?_
  unfold k_strings_HasPrefix
  simp (disch := omega)
  rw [Xp_run r1 (by simp) rfl (by simp)]
  simp (disch := omega)
/-- A name that stands for one. -/
def namedS (s : List UInt8) : Bool := decide (3 ≤ s.length) && decide (s.length ≤ 64) && decide (s.take 2 = [47, 47]) && plainS s
theorem named_run (s : List UInt8) (hs : s.length ≤ 140737488351232) (h : Heap) : ∃ h', Run T f_eid_named [.str s] h (.bool (namedS s)) h' := by
  obtain ⟨_, r1⟩ := HasPrefix2_run s hs []
  obtain ⟨_, r2⟩ := Plain_run s hs []
  refine Run.startE t_eid_named ?_
  unfold k_eid_named namedS
  by_cases c : 3 ≤ s.length
  · have c' : (3 : Int) ≤ s.length := by omega
    by_cases c2 : s.length ≤ 64
    · have c2' : (s.length : Int) ≤ 64 := by omega
      have c3 : 2 ≤ s.length := by omega
      have hz : ¬ (s = []) := by intro e; subst e; simp at c
      rw [decide_eq_true c3] at r1
      rw [decide_eq_false hz] at r2
      simp (disch := omega) [c, c', c2, c2']
      rw [Xp_run r1 (by simp) rfl (by simp)]
      by_cases c4 : s.take 2 = [47, 47]
      · simp (disch := omega) [c4]
        rw [Xp_run r2 (by simp) rfl (by simp)]
        simp (disch := omega)
      · simp (disch := omega) [c4]
    · have c2' : ¬ (s.length : Int) ≤ 64 := by omega
      simp (disch := omega) [c, c', c2, c2']
  · have c' : ¬ (3 : Int) ≤ s.length := by omega
    simp (disch := omega) [c, c']
def eidV (sc : Int) (nm : List UInt8) (nd sv : Int) : V := .agg [.int .i64 sc, .str nm, .int .u64 nd, .int .u64 sv]
theorem eid_fold (sc : Int) (nm : List UInt8) (nd sv : Int) : V.agg [.int .i64 sc, .str nm, .int .u64 nd, .int .u64 sv] = eidV sc nm nd sv := rfl
theorem eid_hf (sc : Int) (nm : List UInt8) (nd sv : Int) : V.hf (eidV sc nm nd sv) = true := by simp [eidV]
theorem None_run (h : Heap) : ∃ h', Run T f_eid_None [] h (eidV 1 [] 0 0) h' := by
  refine Run.startE t_eid_None ?_
  unfold k_eid_None eidV
  simp (disch := omega)
/-- Is an endpoint right? -/
def rightE (sc : Int) (nm : List UInt8) (nd sv : Int) : Bool := if sc = 2 then decide (nm = []) else decide (sc = 1) && decide (nd = 0) && decide (sv = 0) && (decide (nm = []) || namedS nm)
theorem eidRight_run (sc : Int) (nm : List UInt8) (nd sv : Int) (hs : nm.length ≤ 140737488351232) (h : Heap) : ∃ h', Run T f_eid_Right [eidV sc nm nd sv] h (.bool (rightE sc nm nd sv)) h' := by
  obtain ⟨_, r1⟩ := None_run []
  obtain ⟨_, r2⟩ := named_run nm hs []
  refine Run.startE t_eid_Right ?_
  unfold k_eid_Right eidV rightE
  by_cases c1 : sc = 1
  · subst c1
    simp (disch := omega)
    rw [Xp_run r1 (by simp) (by simp [eidV]) (by simp)]
    by_cases c2 : nm = []
    · subst c2
      by_cases c3 : nd = 0
      · by_cases c4 : sv = 0
        · simp (disch := omega) [eidV, c3, c4]
        · simp (disch := omega) [eidV, c3, c4]
      · simp (disch := omega) [eidV, c3]
    · by_cases c3 : nd = 0
      · by_cases c4 : sv = 0
        · simp (disch := omega) [eidV, c2, c3, c4]
          rw [Xp_run r2 (by simp) rfl (by simp)]
          simp (disch := omega) [c2, c3, c4]
        · simp (disch := omega) [eidV, c2, c3, c4]
      · simp (disch := omega) [eidV, c2, c3]
  · by_cases c2 : sc = 2
    · subst c2
      simp (disch := omega)
    · simp (disch := omega) [c1, c2]
theorem Right7_loop (s : List UInt8) (hs : s.length ≤ 140737488351232) : ∀ (m p : Nat), p + m = s.length → ∀ ks Q (e : Env) (h : Heap),
    ((s.drop p).all plainB = true → ∀ e, Xk T ks (.x 0) ([(3, .str s)] ++ e) h Q) →
    ((s.drop p).all plainB = false → ∀ e, Xk T ks .r ([(2, .bool false)] ++ e) h Q) →
    Xc T l_ref07_Right_0 ks ([(3, .str s), (4, .int .i64 p)] ++ e) h Q := by
  intro m
  induction m with
  | zero =>
    intro p hp ks Q e h hQ hR
    rw [L_ref07_Right_0]; unfold bl_ref07_Right_0
    have e1 : p = s.length := by omega
    subst e1
    simp (disch := omega)
    exact hQ (by rw [List.drop_eq_nil_of_le (by omega)]; rfl) _
  | succ m ih =>
    intro p hp ks Q e h hQ hR
    rw [L_ref07_Right_0]; unfold bl_ref07_Right_0
    have hlt : p < s.length := by omega
    have hlt' : (p : Int) < s.length := by omega
    have g := List.getElem?_eq_getElem hlt
    have hd : s.drop p = s[p] :: s.drop (p + 1) := List.drop_eq_getElem_cons hlt
    rw [hd] at hQ hR
    simp only [List.all_cons, Bool.and_eq_true, Bool.and_eq_false_iff] at hQ hR
    by_cases hb : plainB s[p] = true
    · have hb2 := hb
      simp only [plainB, Bool.and_eq_true, decide_eq_true_eq] at hb2
      have := ih (p + 1) (by omega) ks Q [] h (fun h => hQ ⟨hb, h⟩) (fun h => hR (.inr h))
      have c1 : ¬ ((s[p].toNat : Int) ≤ 32) := by omega
      have c2 : ¬ ((127 : Int) ≤ (s[p].toNat : Int)) := by omega
      have c1' : ¬ (s[p].toNat ≤ 32) := by omega
      have c2' : ¬ (127 ≤ s[p].toNat) := by omega
      simp (disch := omega) [hlt', g, byteV, c1, c2, c1', c2']
      simpa using this
    · have hb1 : plainB s[p] = false := by simpa using hb
      have hr := hR (.inl hb1)
      simp only [plainB, Bool.and_eq_false_iff, decide_eq_false_iff_not] at hb1
      by_cases c1 : ((s[p].toNat : Int) ≤ 32)
      · have c1' : s[p].toNat ≤ 32 := by omega
        simp (disch := omega) [hlt', g, byteV, c1, c1']
        simpa using hr _
      · have c1' : ¬ (s[p].toNat ≤ 32) := by omega
        have c2 : ((127 : Int) ≤ (s[p].toNat : Int)) := by omega
        have c2' : (127 ≤ s[p].toNat) := by omega
        simp (disch := omega) [hlt', g, byteV, c1, c1', c2, c2']
        simpa using hr _
theorem R7Right_run (sc : Int) (nm : List UInt8) (nd sv : Int) (hs : nm.length ≤ 140737488351232) (h : Heap) : ∃ h', Run T f_ref07_Right [eidV sc nm nd sv] h (.bool (rightE sc nm nd sv)) h' := by
  refine Run.startE t_ref07_Right ?_
  unfold k_ref07_Right eidV rightE
  by_cases c2 : sc = 2
  · subst c2
    simp (disch := omega)
  by_cases c1 : sc = 1
  · subst c1
    by_cases c3 : nd = 0
    · by_cases c4 : sv = 0
      · by_cases c5 : nm = []
        · simp (disch := omega) [c3, c4, c5]
        · unfold namedS
          by_cases l1 : nm.length < 3
          · have l1' : (nm.length : Int) < 3 := by omega
            have l1n : ¬ (3 ≤ nm.length) := by omega
            simp (disch := omega) [c3, c4, c5, l1, l1', l1n]
          · have l1' : ¬ (nm.length : Int) < 3 := by omega
            have l1n : 3 ≤ nm.length := by omega
            by_cases l2 : 64 < nm.length
            · have l2' : (64 : Int) < nm.length := by omega
              have l2n : ¬ (nm.length ≤ 64) := by omega
              simp (disch := omega) [c3, c4, c5, l1, l1', l1n, l2, l2', l2n]
            · have l2' : ¬ (64 : Int) < nm.length := by omega
              have l2n : (nm.length ≤ 64) := by omega
              by_cases l3 : nm.take 2 = [47, 47]
              · have := Right7_loop nm hs nm.length 0 (by omega)
                simp (disch := omega) [c3, c4, c5, l1, l1', l1n, l2, l2', l2n, l3]
                refine this _ _ [] _ (fun hp e => ?_) (fun hp e => ?_)
                · rw [List.drop_zero] at hp
                  have hp2 : plainS nm = true := hp
                  simp (disch := omega) [hp2]
                · rw [List.drop_zero] at hp
                  have hp2 : plainS nm = false := hp
                  simp (disch := omega) [hp2]
              · simp (disch := omega) [c3, c4, c5, l1, l1', l1n, l2, l2', l2n, l3]
      · simp (disch := omega) [c3, c4]
    · simp (disch := omega) [c3]
  · simp (disch := omega) [c1, c2]
/-! ### endpoints as values -/
def txt6 (s : List UInt8) : T6 := .mk 3 0 s []
def eidT (sc : Int) (nm : List UInt8) (nd sv : Int) : T6 := node [num6 sc, if sc = 2 then node [num6 nd, num6 sv] else if nm = [] then num6 0 else txt6 nm]
theorem any_txt (s : List UInt8) : anyV (txt6 s) = .iface 9 (.str s) := rfl
theorem rightE_cases {sc : Int} {nm : List UInt8} {nd sv : Int} (h : rightE sc nm nd sv = true) : (sc = 2 ∧ nm = []) ∨ (sc = 1 ∧ nd = 0 ∧ sv = 0 ∧ (nm = [] ∨ namedS nm = true)) := by
  unfold rightE at h
  split at h
  · rename_i c
    exact .inl ⟨c, by simpa using h⟩
  · simp only [Bool.and_eq_true, decide_eq_true_eq, Bool.or_eq_true] at h
    exact .inr ⟨h.1.1.1, h.1.1.2, h.1.2, h.2⟩
theorem eidValue_run (sc : Int) (nm : List UInt8) (nd sv : Int) (hs : nm.length ≤ 140737488351232) (hr : rightE sc nm nd sv = true) (h : Heap) : ∃ h', Run T f_eid_Value [eidV sc nm nd sv] h (.tup [anyV (eidT sc nm nd sv), .int .i64 0]) h' := by
  obtain ⟨_, r1⟩ := eidRight_run sc nm nd sv hs []
  obtain ⟨_, r2⟩ := None_run []
  rw [hr] at r1
  refine Run.startE t_eid_Value ?_
  unfold k_eid_Value
  rw [eidV]
  rcases rightE_cases hr with ⟨rfl, rfl⟩ | ⟨rfl, rfl, rfl, hn⟩
  · simp (disch := omega)
    simp only [eid_fold]
    rw [Xp_run r1 (by simp [eid_hf]) rfl (by simp)]
    simp (disch := omega) [eidV]
    rw [Xp_run r2 (by simp) (by simp [eidV]) (by simp)]
    simp (disch := omega) [eidV, eidT, anyV, anys]
  · by_cases hz : nm = []
    · subst hz
      simp (disch := omega)
      simp only [eid_fold]
      rw [Xp_run r1 (by simp [eid_hf]) rfl (by simp)]
      simp (disch := omega) [eidV]
      rw [Xp_run r2 (by simp) (by simp [eidV]) (by simp)]
      simp (disch := omega) [eidV, eidT, anyV, anys]
    · simp (disch := omega)
      simp only [eid_fold]
      rw [Xp_run r1 (by simp [eid_hf]) rfl (by simp)]
      simp (disch := omega) [eidV]
      rw [Xp_run r2 (by simp) (by simp [eidV]) (by simp)]
      simp (disch := omega) [eidV, eidT, anyV, anys, hz, txt6]
theorem R7Value_run (sc : Int) (nm : List UInt8) (nd sv : Int) (hs : nm.length ≤ 140737488351232) (hr : rightE sc nm nd sv = true) (h : Heap) : ∃ h', Run T f_ref07_Value [eidV sc nm nd sv] h (eidT sc nm nd sv).v h' := by
  refine Run.startE t_ref07_Value ?_
  unfold k_ref07_Value
  rw [eidV]
  have fzz : ∀ (a b : T6) (H : Heap) (k : Nat), H.row k = some (flat (T6.vs [a, b])) → freeze1 (true || decide (1 < 4)) (.hs 4 k 0 2) H = some (.ps 4 (T6.vs [a, b]), H.set k none) := fun a b H k hr => frz_vs (l := [a, b]) hr true
  simp only [Bool.true_or] at fzz
  rcases rightE_cases hr with ⟨rfl, rfl⟩ | ⟨rfl, rfl, rfl, hn⟩
  · have e1 : (eidT 2 [] nd sv).v = .agg [.int .i64 4, .int .u64 0, .str [], .ps 4 (T6.vs [num6 2, node [num6 nd, num6 sv]])] := rfl
    have fz := fzz (num6 2) (node [num6 nd, num6 sv])
    have e2 : flat (T6.vs [num6 2, node [num6 nd, num6 sv]]) = [.int .i64 0, .int .u64 2, .str [], .ps 4 [], .int .i64 4, .int .u64 0, .str [], .ps 4 [.agg [.int .i64 0, .int .u64 nd, .str [], .ps 4 []], .agg [.int .i64 0, .int .u64 sv, .str [], .ps 4 []]]] := rfl
    rw [e2] at fz
    rw [e1]
    simp (disch := omega)
    simp (disch := omega) [freezeC]
    rw [fz _ _ (by simp [Heap.row, List.getElem?_append_right])]
    simp (disch := omega)
  · by_cases hz : nm = []
    · subst hz
      have e1 : (eidT 1 [] 0 0).v = .agg [.int .i64 4, .int .u64 0, .str [], .ps 4 (T6.vs [num6 1, num6 0])] := rfl
      have fz := fzz (num6 1) (num6 0)
      have e2 : flat (T6.vs [num6 1, num6 0]) = [.int .i64 0, .int .u64 1, .str [], .ps 4 [], .int .i64 0, .int .u64 0, .str [], .ps 4 []] := rfl
      rw [e2] at fz
      rw [e1]
      simp (disch := omega)
      simp (disch := omega) [freezeC]
      rw [fz _ _ (by simp [Heap.row, List.getElem?_append_right])]
      simp (disch := omega)
    · have e1 : (eidT 1 nm 0 0).v = .agg [.int .i64 4, .int .u64 0, .str [], .ps 4 (T6.vs [num6 1, txt6 nm])] := by simp [eidT, hz, T6.v]
      have fz := fzz (num6 1) (txt6 nm)
      have e2 : flat (T6.vs [num6 1, txt6 nm]) = [.int .i64 0, .int .u64 1, .str [], .ps 4 [], .int .i64 3, .int .u64 0, .str nm, .ps 4 []] := rfl
      rw [e2] at fz
      rw [e1]
      simp (disch := omega) [hz]
      simp (disch := omega) [freezeC]
      rw [fz _ _ (by simp [Heap.row, List.getElem?_append_right])]
      simp (disch := omega)
theorem pair1_run (t : T6) (i : Nat) (z : Int) (hz : z = i) (g : Heap) : Run T f_eid_pair_1 [.int .i64 z, .ptr 0 0] (some [anyV t] :: g) (anyV (el t i)) (some [anyV t] :: g) := by
  subst hz
  refine Run.start t_eid_pair_1 ?_
  unfold k_eid_pair_1
  have ha := at_el t i
  have r0 : Heap.row (some [anyV t] :: g) 0 = some [anyV t] := rfl
  simp (disch := omega) [At_p, ha, r0]
def pairV (t : T6) : V := if t.k = 4 ∧ t.l.length = 2 then .tup [anyV (el t 0), anyV (el t 1), .bool true] else .tup [.nili, .nili, .bool false]
theorem pair_run (t : T6) (hw : t.w ≤ 4194304) : ∃ h', Run T f_eid_pair [anyV t] [] (pairV t) h' := by
  refine Run.startE t_eid_pair ?_
  unfold k_eid_pair pairV
  have pl := fun {ks ops K e h Q d} => List_p (ks := ks) (ops := ops) (K := K) (e := e) (h := h) (Q := Q) (d := d) t hw
  have al := anys_len (asL t)
  have any1 := anyV_one t
  have anyc := anyV_cells t
  have p0 := fun {ks ops K e Q d} g => Xf_run (ks := ks) (ops := ops) (K := K) (e := e) (Q := Q) (d := d) (pair1_run t 0 0 rfl g)
  have p1 := fun {ks ops K e Q d} g => Xf_run (ks := ks) (ops := ops) (K := K) (e := e) (Q := Q) (d := d) (pair1_run t 1 1 rfl g)
  have hf : T.free f_eid_pair_1 = true := rfl
  have eL : t.k = 4 → asL t = t.l := fun k4 => by simp [asL, k4]
  generalize anys (asL t) = A at *
  generalize anyV t = X at *
  by_cases k4 : t.k = 4
  · rw [eL k4] at al
    by_cases l2 : t.l.length = 2
    · have l2' : (A.length : Int) = 2 := by omega
      have l3' : A.length = 2 := by omega
      simp (disch := first | omega | assumption) [any1, anyc, pl, k4, l2, l2', l3', p0, p1]
    · have l2' : ¬ (A.length : Int) = 2 := by omega
      have l3' : ¬ A.length = 2 := by omega
      simp (disch := first | omega | assumption) [any1, anyc, pl, k4, l2, l2', l3', p0, p1]
  · simp (disch := first | omega | assumption) [any1, anyc, pl, k4, p0, p1]
theorem pairV_hf (t : T6) : V.hf (pairV t) = true := by
  unfold pairV
  split <;> simp [anyV_hf]
def withinV (n : Int) (x : T6) : V :=
  if n = 1 ∧ x.k = 0 then .tup [eidV 1 [] (asN x) 0, .bool true] else if n = 1 ∧ x.k = 3 then .tup [eidV 1 (asS x) 0 0, .bool true]
  else if x.k = 4 ∧ x.l.length = 2 then .tup [eidV 2 [] (asN (el x 0)) (asN (el x 1)), .bool (decide ((el x 0).k = 0) && decide ((el x 1).k = 0) && decide (n = 2))] else .tup [eidV 2 [] 0 0, .bool false]
theorem within_run (n : Int) (x : T6) (hw : x.w ≤ 4194304) : ∃ h', Run T f_eid_within [.int .u64 n, anyV x] [] (withinV n x) h' := by
  obtain ⟨_, rp⟩ := pair_run x hw
  refine Run.startE t_eid_within ?_
  unfold k_eid_within withinV
  have pu := fun {ks ops K e h Q d} (t : T6) => Uint_p (ks := ks) (ops := ops) (K := K) (e := e) (h := h) (Q := Q) (d := d) t
  have pt := fun {ks ops K e h Q d} => Text_p (ks := ks) (ops := ops) (K := K) (e := e) (h := h) (Q := Q) (d := d) x
  have ha := anyV_hf x
  have hp := pairV_hf x
  have pn := fun {ks ops K e h Q d} => Uint_p (ks := ks) (ops := ops) (K := K) (e := e) (h := h) (Q := Q) (d := d) nil6
  rw [nil_any] at pn
  have nn : asN nil6 = 0 := rfl
  have nk : nil6.k = 7 := rfl
  rw [nn, nk] at pn
  have rest : ∀ {ks ops K e h Q d}, Xp T f_eid_pair (some ([anyV x], false)) h (some d) ops K ks e Q = Xo T ops K ks ((d, pairV x) :: e) h Q := fun {ks ops K e h Q d} => Xp_run rp (by simp [ha]) hp (by simp)
  by_cases c1 : n = 1
  · subst c1
    by_cases k0 : x.k = 0
    · simp (disch := first | omega | assumption) [pu, k0, eidV]
    · by_cases k3 : x.k = 3
      · simp (disch := first | omega | assumption) [pu, pt, k0, k3, eidV]
      · by_cases k4 : x.k = 4 ∧ x.l.length = 2
        · have e1 : pairV x = .tup [anyV (el x 0), anyV (el x 1), .bool true] := by unfold pairV; rw [if_pos k4]
          rw [e1] at rest
          simp (disch := first | omega | assumption) [pu, pt, k0, k3, k4.1, k4.2]
          rw [rest]
          simp (disch := first | omega | assumption) [pu, eidV]
          by_cases d0 : (el x 0).k = 0
          · by_cases d1 : (el x 1).k = 0
            · simp (disch := first | omega | assumption) [d0, d1]
            · simp (disch := first | omega | assumption) [d0, d1]
          · simp (disch := first | omega | assumption) [d0]
        · have e1 : pairV x = .tup [.nili, .nili, .bool false] := by unfold pairV; rw [if_neg k4]
          rw [e1] at rest
          rw [if_neg (by simp [k0]), if_neg (by simp [k3]), if_neg k4]
          simp (disch := first | omega | assumption) [pu, pt, k0, k3]
          rw [rest]
          simp (disch := first | omega | assumption) [pn, eidV]
  · by_cases k4 : x.k = 4 ∧ x.l.length = 2
    · have e1 : pairV x = .tup [anyV (el x 0), anyV (el x 1), .bool true] := by unfold pairV; rw [if_pos k4]
      rw [e1] at rest
      simp (disch := first | omega | assumption) [pu, pt, c1, k4.1, k4.2]
      rw [rest]
      simp (disch := first | omega | assumption) [pu, eidV]
      by_cases d0 : (el x 0).k = 0
      · by_cases d1 : (el x 1).k = 0
        · simp (disch := first | omega | assumption) [d0, d1]
        · simp (disch := first | omega | assumption) [d0, d1]
      · simp (disch := first | omega | assumption) [d0]
    · have e1 : pairV x = .tup [.nili, .nili, .bool false] := by unfold pairV; rw [if_neg k4]
      rw [e1] at rest
      rw [if_neg (by simp [c1]), if_neg (by simp [c1]), if_neg k4]
      by_cases k0 : x.k = 0
      · simp (disch := first | omega | assumption) [pu, pt, c1, k0]
        rw [rest]
        simp (disch := first | omega | assumption) [pn, eidV]
      · by_cases k3 : x.k = 3
        · simp (disch := first | omega | assumption) [pu, pt, c1, k0, k3]
          rw [rest]
          simp (disch := first | omega | assumption) [pn, eidV]
        · simp (disch := first | omega | assumption) [pu, pt, c1, k0, k3]
          rw [rest]
          simp (disch := first | omega | assumption) [pn, eidV]
def zeid : V := eidV 0 [] 0 0
/-- The endpoint of a value, or what is wrong. -/
def ofV (t : T6) : V :=
  if t.k = 4 ∧ t.l.length = 2 ∧ (el t 0).k = 0 then
    (if asN (el t 0) = 1 ∧ (el t 1).k = 0 then (if asN (el t 1) = 0 then .tup [eidV 1 [] 0 0, .int .i64 0] else .tup [zeid, .int .i64 6])
    else if asN (el t 0) = 1 ∧ (el t 1).k = 3 then (if asS (el t 1) ≠ [] ∧ rightE 1 (asS (el t 1)) 0 0 = true then .tup [eidV 1 (asS (el t 1)) 0 0, .int .i64 0] else .tup [zeid, .int .i64 6])
    else if asN (el t 0) = 2 ∧ (el t 1).k = 4 ∧ (el t 1).l.length = 2 ∧ (el (el t 1) 0).k = 0 ∧ (el (el t 1) 1).k = 0 then .tup [eidV 2 [] (asN (el (el t 1) 0)) (asN (el (el t 1) 1)), .int .i64 0]
    else .tup [zeid, .int .i64 18])
  else .tup [zeid, .int .i64 18]
theorem asS_le (t : T6) : (asS t).length ≤ t.w := by
  obtain ⟨k, n, s, l⟩ := t
  unfold asS
  split
  · rw [T6.w]; show s.length ≤ _; omega
  · simp
theorem withinV_hf (n : Int) (x : T6) : V.hf (withinV n x) = true := by
  unfold withinV
  (repeat' split) <;> simp [eid_hf]
theorem eidOf_run (t : T6) (hw : t.w ≤ 4194304) : ∃ h', Run T f_eid_Of [anyV t] [] (ofV t) h' := by
  obtain ⟨_, rp⟩ := pair_run t hw
  have xw : (el t 1).w ≤ 4194304 := el_w t 1 hw
  obtain ⟨_, rw1⟩ := within_run (asN (el t 0)) (el t 1) xw
  have sl := asS_le (el t 1)
  have hp := pairV_hf t
  have hwv := withinV_hf (asN (el t 0)) (el t 1)
  have ha := anyV_hf t
  have ha0 := anyV_hf (el t 0)
  have ha1 := anyV_hf (el t 1)
  refine Run.startE t_eid_Of ?_
  unfold k_eid_Of ofV
  have pu := fun {ks ops K e h Q d} (t : T6) => Uint_p (ks := ks) (ops := ops) (K := K) (e := e) (h := h) (Q := Q) (d := d) t
  have pt := fun {ks ops K e h Q d} => Text_p (ks := ks) (ops := ops) (K := K) (e := e) (h := h) (Q := Q) (d := d) (el t 1)
  have pn := fun {ks ops K e h Q d} => Uint_p (ks := ks) (ops := ops) (K := K) (e := e) (h := h) (Q := Q) (d := d) nil6
  rw [nil_any] at pn
  have nn : asN nil6 = 0 := rfl
  have nk : nil6.k = 7 := rfl
  rw [nn, nk] at pn
  simp (disch := first | omega | assumption)
  rw [Xp_run rp (by simp [ha]) hp (by simp)]
  by_cases c0 : ¬ (t.k = 4 ∧ t.l.length = 2)
  · have e1 : pairV t = .tup [.nili, .nili, .bool false] := by unfold pairV; rw [if_neg c0]
    rw [if_neg (fun k => c0 ⟨k.1, k.2.1⟩), e1]
    simp (disch := first | omega | assumption) [pn, zeid, eidV]
  have c1 : t.k = 4 ∧ t.l.length = 2 := Decidable.not_not.1 c0
  have e1 : pairV t = .tup [anyV (el t 0), anyV (el t 1), .bool true] := by unfold pairV; rw [if_pos c1]
  rw [e1]
  simp (disch := first | omega | assumption) [pu]
  by_cases d0' : ¬ (el t 0).k = 0
  · rw [if_neg (fun k => d0' k.2.2)]
    simp (disch := first | omega | assumption) [d0', zeid, eidV]
  have d0 : (el t 0).k = 0 := Decidable.not_not.1 d0'
  rw [if_pos ⟨c1.1, c1.2, d0⟩]
  simp (disch := first | omega | assumption) [d0]
  rw [Xp_run rw1 (by simp [ha1]) hwv (by simp)]
  unfold withinV
  by_cases c2 : asN (el t 0) = 1 ∧ (el t 1).k = 0
  · rw [if_pos c2, if_pos c2]
    simp (disch := first | omega | assumption) [eidV, pt, c2.2]
    simp only [eid_fold]
    obtain ⟨_, rr⟩ := eidRight_run 1 [] (asN (el t 1)) 0 (by simp) []
    rw [Xp_run rr (by simp [eid_hf]) rfl (by simp)]
    have es : asS (el t 1) = [] := by simp [asS, c2.2]
    by_cases c3 : asN (el t 1) = 0
    · rw [if_pos c3]
      simp (disch := first | omega | assumption) [rightE, c3, eidV]
    · rw [if_neg c3]
      simp (disch := first | omega | assumption) [rightE, c3, zeid, eidV]
  rw [if_neg c2, if_neg c2]
  by_cases c3 : asN (el t 0) = 1 ∧ (el t 1).k = 3
  · rw [if_pos c3, if_pos c3]
    simp (disch := first | omega | assumption) [eidV, pt, c3.2]
    simp only [eid_fold]
    obtain ⟨_, rr⟩ := eidRight_run 1 (asS (el t 1)) 0 0 (by omega) []
    rw [Xp_run rr (by simp [eid_hf]) rfl (by simp)]
    cases hr : rightE 1 (asS (el t 1)) 0 0 with
    | false => simp (disch := first | omega | assumption) [zeid, eidV]
    | true =>
      by_cases c4 : asS (el t 1) = []
      · simp (disch := first | omega | assumption) [c4, zeid, eidV]
      · simp (disch := first | omega | assumption) [c4, eidV]
  rw [if_neg c3, if_neg c3]
  by_cases c4 : (el t 1).k = 4 ∧ (el t 1).l.length = 2
  · rw [if_pos c4]
    by_cases c5 : asN (el t 0) = 2 ∧ (el t 1).k = 4 ∧ (el t 1).l.length = 2 ∧ (el (el t 1) 0).k = 0 ∧ (el (el t 1) 1).k = 0
    · rw [if_pos c5]
      obtain ⟨_, rr⟩ := eidRight_run 2 [] (asN (el (el t 1) 0)) (asN (el (el t 1) 1)) (by simp) []
      simp (disch := first | omega | assumption) [eidV, pt, c5.1, c5.2.1, c5.2.2.2.1, c5.2.2.2.2]
      simp only [eid_fold]
      rw [Xp_run rr (by simp [eid_hf]) rfl (by simp)]
      simp (disch := first | omega | assumption) [rightE, eidV, c5.2.1]
    · rw [if_neg c5]
      have cb : (decide ((el (el t 1) 0).k = 0) && decide ((el (el t 1) 1).k = 0) && decide (asN (el t 0) = 2)) = false := by
        cases hh : (decide ((el (el t 1) 0).k = 0) && decide ((el (el t 1) 1).k = 0) && decide (asN (el t 0) = 2)) with
        | false => rfl
        | true =>
          simp only [Bool.and_eq_true, decide_eq_true_eq] at hh
          exact absurd ⟨hh.2, c4.1, c4.2, hh.1.1, hh.1.2⟩ c5
      rw [cb]
      simp (disch := first | omega | assumption) [zeid, eidV]
  · rw [if_neg c4, if_neg (fun k => c4 ⟨k.2.1, k.2.2.1⟩)]
    simp (disch := first | omega | assumption) [zeid, eidV]
theorem R7Of_run (t : T6) (hw : t.w ≤ 4194304) (ok : t.ok) : ∃ h', Run T f_ref07_Of [t.v] [] (ofV t) h' := by
  have ve := v_eq t
  have tc : t.v.cells = [.int .i64 t.k, .int .u64 t.n, .str t.s, .ps 4 (T6.vs t.l)] := by rw [ve]; rfl
  have vl := T6.vs_len t.l
  have b5 := T6.ws_len t.l
  have b6 := T6.lt_ws t
  refine Run.startE t_ref07_Of ?_
  unfold k_ref07_Of ofV
  by_cases k4' : ¬ t.k = 4
  · rw [if_neg (fun k => k4' k.1)]
    simp (disch := first | omega | assumption) [tc, k4', zeid, eidV]
  have k4 : t.k = 4 := Decidable.not_not.1 k4'
  by_cases l2' : ¬ t.l.length = 2
  · rw [if_neg (fun k => l2' k.2.1)]
    have l2i : ¬ ((t.l.length : Int) = 2) := by omega
    simp (disch := first | omega | assumption) [tc, k4, vl, l2', l2i, zeid, eidV]
  have l2 : t.l.length = 2 := Decidable.not_not.1 l2'
  have e0 := el_at t 0 k4 (by omega)
  have e1 := el_at t 1 k4 (by omega)
  have c0 : ∀ (t : T6) i, (el t i).v.cells[0]? = some (.int .i64 (el t i).k) := fun t i => by rw [v_eq]; rfl
  have c1 : ∀ (t : T6) i, (el t i).v.cells[1]? = some (.int .u64 (el t i).n) := fun t i => by rw [v_eq]; rfl
  have cl : ∀ (t : T6) i, (el t i).v.cells.length = 4 := fun t i => T6.cells_len _
  by_cases d0' : ¬ (el t 0).k = 0
  · rw [if_neg (fun k => d0' k.2.2)]
    simp (disch := first | omega | assumption) [tc, k4, vl, l2, e0, c0, cl, d0', zeid, eidV]
  have d0 : (el t 0).k = 0 := Decidable.not_not.1 d0'
  rw [if_pos ⟨k4, l2, d0⟩]
  have an : asN (el t 0) = (el t 0).n := by unfold asN; rw [if_pos d0]
  have xw : (el t 1).w ≤ 4194304 := el_w t 1 hw
  have xl := T6.vs_len (el t 1).l
  have b7 := T6.ws_len (el t 1).l
  have b8 := T6.lt_ws (el t 1)
  have q0 := el_at (el t 1) 0
  have q1 := el_at (el t 1) 1
  rw [an]
  have cx : (el t 1).v.cells = [.int .i64 (el t 1).k, .int .u64 (el t 1).n, .str (el t 1).s, .ps 4 (T6.vs (el t 1).l)] := by rw [v_eq]; rfl
  simp (disch := first | omega | assumption) [tc, k4, vl, l2, e0, e1, c0, c1, cl, d0, cx]
  generalize (el t 0).n = n at *
  have sl := asS_le (el t 1)
  generalize el t 1 = x at *
  by_cases n1 : n = 1
  · subst n1
    by_cases k0 : x.k = 0
    · rw [if_pos ⟨rfl, k0⟩]
      have ax : asN x = x.n := by unfold asN; rw [if_pos k0]
      rw [ax]
      by_cases xz : x.n = 0
      · rw [if_pos xz]
        simp (disch := first | omega | assumption) [k0, xz, eidV]
      · rw [if_neg xz]
        simp (disch := first | omega | assumption) [k0, xz, zeid, eidV]
    · rw [if_neg (fun k => k0 k.2)]
      by_cases k3 : x.k = 3
      · rw [if_pos ⟨rfl, k3⟩]
        have ax : asS x = x.s := by unfold asS; rw [if_pos k3]
        rw [ax] at sl ⊢
        by_cases sz : x.s = []
        · rw [if_neg (fun k => k.1 sz)]
          simp (disch := first | omega | assumption) [k0, k3, sz, zeid, eidV]
        · obtain ⟨_, rr⟩ := R7Right_run 1 x.s 0 0 (by omega) []
          simp (disch := first | omega | assumption) [k0, k3, sz]
          simp only [eid_fold]
          rw [Xp_run rr (by simp [eid_hf]) rfl (by simp)]
          cases hr : rightE 1 x.s 0 0 with
          | false => simp (disch := first | omega | assumption) [zeid, eidV]
          | true => simp (disch := first | omega | assumption) [eidV]
      · rw [if_neg (fun k => k3 k.2), if_neg (by omega)]
        simp (disch := first | omega | assumption) [k0, k3, zeid, eidV]
  rw [if_neg (fun k => n1 k.1), if_neg (fun k => n1 k.1)]
  by_cases n2 : n = 2
  · subst n2
    by_cases k4 : x.k = 4
    · by_cases l2 : x.l.length = 2
      · have q0 := q0 k4 (by omega)
        have q1 := q1 k4 (by omega)
        have l2i : ((x.l.length : Int) = 2) := by omega
        by_cases d0 : (el x 0).k = 0
        · by_cases d1 : (el x 1).k = 0
          · rw [if_pos ⟨rfl, k4, l2, d0, d1⟩]
            have a0 : asN (el x 0) = (el x 0).n := by unfold asN; rw [if_pos d0]
            have a1 : asN (el x 1) = (el x 1).n := by unfold asN; rw [if_pos d1]
            rw [a0, a1]
            simp (disch := first | omega | assumption) [k4, l2, l2i, xl, q0, q1, c0, c1, cl, d0, d1, eidV]
          · rw [if_neg (fun k => d1 k.2.2.2.2)]
            simp (disch := first | omega | assumption) [k4, l2, l2i, xl, q0, q1, c0, c1, cl, d0, d1, zeid, eidV]
        · rw [if_neg (fun k => d0 k.2.2.2.1)]
          simp (disch := first | omega | assumption) [k4, l2, l2i, xl, q0, q1, c0, c1, cl, d0, zeid, eidV]
      · rw [if_neg (fun k => l2 k.2.2.1)]
        have l2i : ¬ ((x.l.length : Int) = 2) := by omega
        simp (disch := first | omega | assumption) [k4, l2, l2i, xl, zeid, eidV]
    · rw [if_neg (fun k => k4 k.2.1)]
      simp (disch := first | omega | assumption) [k4, zeid, eidV]
  · rw [if_neg (fun k => n2 k.1)]
    simp (disch := first | omega | assumption) [n1, n2, zeid, eidV]
theorem ofV_hf (t : T6) : V.hf (ofV t) = true := by
  unfold ofV zeid
  (repeat' split) <;> simp [eid_hf]
end Ev
