/- The reference's blocks: what is wrong, and lists with their sums. Blocks without a sum. The law BlockPuts: the bytes of any block, or what is wrong. Blocks of any value. Blocks of any value: what the sum says; the reference's answer. Endpoint names: which are right. Endpoint names as values, and back. Values as endpoint names. First blocks: what is wrong with them. First blocks: the reference's check. First blocks laid. First blocks as values. First blocks: values that can be laid; those that have a first block's shape. Each theorem states its own conditions. -/
import Derived.Test.YtienkohkbihdoaaGreatDoorBCode
import Derived.Test.YtienkohkbihdoaaGreatDoorBR6
import Derived.Test.YtienkohkbihdoaaGreatDoorBBlk
set_option linter.all false
namespace Ev
open Go
set_option maxRecDepth 10000
attribute [-simp] getElem?_pos getElem?_neg List.drop_one
theorem R9Check_run (ty nu fl k : Int) (s : List UInt8) (h : Heap) : ∃ h', Run T f_ref09_Check [blkV ty nu fl k s] h (.int .i64 (chkS nu k s)) h' := by
  refine Run.startE t_ref09_Check ?_
  unfold k_ref09_Check blkV chkS
  by_cases c1 : nu = 0
  · simp (disch := omega) [c1]
  · by_cases c2 : k < 0
    · simp (disch := omega) [c1, c2]
    · by_cases c3 : 2 < k
      · simp (disch := omega) [c1, c2, c3]
      · by_cases c4 : 65536 < s.length
        · have c5 : (65536 : Int) < s.length := by omega
          simp (disch := omega) [c1, c2, c3, c4, c5]
        · have c5 : ¬ ((65536 : Int) < s.length) := by omega
          simp (disch := omega) [c1, c2, c3, c4, c5]
theorem zero_loop (L kd p4 p5 : V) (w : Nat) (hw : w ≤ 4) (h : Heap) : ∀ (m i : Nat), i + m = w → ∀ ks Q (e : Env),
    (∀ e, Xk T ks (.x 0) ([(0, L), (1, kd), (4, p4), (5, p5), (6, .int .i64 w), (7, .str (List.replicate w 0))] ++ e) h Q) →
    Xc T l_ref09_Seal_0 ks ([(0, L), (1, kd), (4, p4), (5, p5), (6, .int .i64 w), (7, .str (List.replicate i 0)), (8, .int .i64 i)] ++ e) h Q := by
  intro m
  induction m with
  | zero =>
    intro i hi ks Q e hQ
    rw [L_ref09_Seal_0]; unfold bl_ref09_Seal_0
    have e0 : i = w := by omega
    subst e0
    simp (disch := omega)
    exact hQ _
  | succ m ih =>
    intro i hi ks Q e hQ
    rw [L_ref09_Seal_0]; unfold bl_ref09_Seal_0
    have e1 : (i : Int) < w := by omega
    have := ih (i + 1) (by omega) ks Q [] hQ
    rw [List.replicate_succ'] at this
    have hl : (List.replicate i (0 : UInt8)).length = i := List.length_replicate
    generalize List.replicate i (0 : UInt8) = Z at *
    simp (disch := (first | omega | (simp; omega))) [e1]
    simpa using this
theorem vs_app (a b : List T6) : T6.vs (a ++ b) = T6.vs a ++ T6.vs b := by simp [T6.vs_map]
theorem flat_vs_len : ∀ l : List T6, (flat (T6.vs l)).length = l.length * 4
  | [] => rfl
  | x :: r => by
    have := flat_vs_len r
    have h : flat (T6.vs (x :: r)) = x.v.cells ++ flat (T6.vs r) := rfl
    rw [h, List.length_append, T6.cells_len, this, List.length_cons]
    omega
theorem flat_vs_app (a b : List T6) : flat (T6.vs (a ++ b)) = flat (T6.vs a) ++ flat (T6.vs b) := by
  rw [vs_app]; unfold flat; rw [List.flatMap_append]
theorem chunk_vs : ∀ l : List T6, chunk 4 true l.length (flat (T6.vs l)) = T6.vs l
  | [] => rfl
  | x :: r => by
    have h : flat (T6.vs (x :: r)) = x.v.cells ++ flat (T6.vs r) := rfl
    have hc := T6.cells_len x
    have ht : (x.v.cells ++ flat (T6.vs r)).take 4 = x.v.cells.take 4 := by rw [List.take_append_of_le_length (by omega)]
    have hd : (x.v.cells ++ flat (T6.vs r)).drop 4 = flat (T6.vs r) := by rw [← hc, List.drop_left]
    rw [h, List.length_cons, chunk, if_pos rfl, ht, hd, T6.agg_v, chunk_vs r]
    rfl
theorem frz_vs {H : Heap} {b : Nat} {l : List T6} (hr : H.row b = some (flat (T6.vs l))) (ag : Bool) : freeze1 (ag || decide (1 < 4)) (.hs 4 b 0 l.length) H = some (.ps 4 (T6.vs l), H.set b none) := by
  have hl := flat_vs_len l
  have hc := hs_cells (s := 4) (off := 0) (len := l.length) hr (by omega)
  rw [List.drop_zero, List.take_of_length_le (by omega)] at hc
  have e : (ag || decide (1 < 4)) = true := by cases ag <;> rfl
  rw [e]
  simp only [freeze1, hc, Option.bind_some, chunkOk, Bool.true_or, if_true, chunk_vs]
theorem R9Seal_run (l : List T6) (k : Nat) (h : Heap) (hl : GoodL l) (hk : k = 1 ∨ k = 2) : ∃ h', Run T f_ref09_Seal [.ps 4 (T6.vs l), .int .i64 k] h ((node (l ++ [byt6 (sumB k (enc (node (l ++ [byt6 (List.replicate (widthN k) 0)]))))])).v) h' := by
  refine Run.startE t_ref09_Seal ?_
  unfold k_ref09_Seal
  have wk : widthN k = 2 * k := by rcases hk with rfl | rfl <;> rfl
  have b5 := T6.ws_len l
  have b6 := hl.w
  have kz : ¬ ((k : Int) = 0) := by omega
  have kz' : ¬ (k = 0) := by omega
  by_cases hz : l = []
  · subst hz
    have f0 : flat (T6.vs []) = [] := rfl
    have v00 : T6.vs [] = [] := rfl
    have Z0 := zero_loop (.ps 4 []) (.int .i64 k) (.ptr h.length 0) (.ptr (h.length + 1) 0) (2 * k) (by omega)
    simp (disch := omega) [T6.vs_len, kz, kz', f0, v00]
    rw [wk]
    have g0 := hl.snoc (List.replicate (2 * k) 0) (by simp; omega)
    obtain ⟨h6, r6⟩ := R6Put_run _ _ (Nat.le_refl _) g0.w g0.ok g0.r
    have v0 : (node ([] ++ [byt6 (List.replicate (2 * k) 0)])).v = .agg [.int .i64 4, .int .u64 0, .str [], .ps 4 [.agg [.int .i64 2, .int .u64 0, .str (List.replicate (2 * k) 0), .ps 4 []]]] := rfl
    have el := enc_len (node ([] ++ [byt6 (List.replicate (2 * k) 0)]))
    have hw := g0.w
    rw [v0] at r6
    simp only [List.nil_append] at r6 el hw ⊢
    generalize enc (node [byt6 (List.replicate (2 * k) 0)]) = E0 at *
    refine Z0 _ (2 * k) 0 (by omega) _ _ [] (fun e => ?_)
    have v1 : ∀ S : List UInt8, (node [byt6 S]).v = .agg [.int .i64 4, .int .u64 0, .str [], .ps 4 [.agg [.int .i64 2, .int .u64 0, .str S, .ps 4 []]]] := fun S => rfl
    have rO := R3Of_run k E0 [] (by omega)
    have hcl := crcN_lt k E0
    have hcl2 : crcN k E0 < 18446744073709551616 := Nat.lt_of_lt_of_le hcl (by rw [wk]; rcases hk with rfl | rfl <;> decide)
    have rB := R1Bytes_run (2 * k) (crcN k E0) (by omega) hcl2 []
    have eS : sumB k E0 = beB (2 * k) (crcN k E0) := by unfold sumB; rw [wk]
    rw [eS, v1]
    generalize beB (2 * k) (crcN k E0) = S at *
    generalize List.replicate (2 * k) (0 : UInt8) = Z at *
    simp (disch := omega)
    rw [Xp_run r6 (by simp) (by simp [bys_hfs]) (by simp)]
    simp (disch := omega)
    rw [Xp_run rO (by simp [bys_hfs]) rfl (by simp [scalar])]
    simp (disch := omega)
    have rB2 : Run T f_ref01_Bytes [.int .i64 (2 * (k : Int)), .int .u64 (crcN k E0 : Nat)] [] (.ps 1 (bys S)) [] := by simpa using rB
    rw [Xp_run rB2 (by simp) (by simp [bys_hfs]) (by simp)]
    simp (disch := omega) [bys_back]
    have hr : ∀ (a b c : List V), Heap.row (h ++ [some a, some b, some c, some [.int .i64 2, .int .u64 0, .str S, .ps 4 []]]) (h.length + 3) = some (flat (T6.vs [byt6 S])) := fun a b c => by
      simp [Heap.row, List.getElem?_append_right]; rfl
    have fz4 := fun a b c => frz_vs (hr a b c) true
    have hvv : T6.vs [byt6 S] = [V.agg [.int .i64 2, .int .u64 0, .str S, .ps 4 []]] := rfl
    rw [hvv] at fz4
    simp only [List.length_singleton] at fz4
    simp only [freezeC, fz4, Option.bind_some]
    simp (disch := omega)
  have hl0 : 0 < l.length := List.length_pos_iff.2 hz
  have fl := flat_vs_len l
  have fz : ¬ (flat (T6.vs l) = []) := by intro e; rw [e] at fl; simp at fl; omega
  have fd : l.length * 4 / 4 = l.length := by omega
  have Z0 := zero_loop (.ps 4 (T6.vs l)) (.int .i64 k) (.ptr h.length 0) (.ptr (h.length + 2) 0) (2 * k) (by omega)
  simp (disch := omega) [T6.vs_len, kz, kz', fz, fl, fd]
  rw [wk]
  have g0 := hl.snoc (List.replicate (2 * k) 0) (by simp; omega)
  obtain ⟨h6, r6⟩ := R6Put_run _ _ (Nat.le_refl _) g0.w g0.ok g0.r
  have v0 : (node (l ++ [byt6 (List.replicate (2 * k) 0)])).v = .agg [.int .i64 4, .int .u64 0, .str [], .ps 4 (T6.vs l ++ [.agg [.int .i64 2, .int .u64 0, .str (List.replicate (2 * k) 0), .ps 4 []]])] := by
    simp only [T6.v, vs_app]; rfl
  have el := enc_len (node (l ++ [byt6 (List.replicate (2 * k) 0)]))
  have hw := g0.w
  generalize enc (node (l ++ [byt6 (List.replicate (2 * k) 0)])) = E0 at *
  refine Z0 _ (2 * k) 0 (by omega) _ _ [] (fun e => ?_)
  rw [v0] at r6
  have hvs := T6.vs_hfs l
  have vl := T6.vs_len l
  have v1 : ∀ S : List UInt8, (node (l ++ [byt6 S])).v = .agg [.int .i64 4, .int .u64 0, .str [], .ps 4 (T6.vs l ++ [.agg [.int .i64 2, .int .u64 0, .str S, .ps 4 []]])] := fun S => by
    simp only [T6.v, vs_app]; rfl
  have rO := R3Of_run k E0 [] (by omega)
  have hcl := crcN_lt k E0
  have hcl2 : crcN k E0 < 18446744073709551616 := Nat.lt_of_lt_of_le hcl (by rw [wk]; rcases hk with rfl | rfl <;> decide)
  have rB := R1Bytes_run (2 * k) (crcN k E0) (by omega) hcl2 []
  have eS : sumB k E0 = beB (2 * k) (crcN k E0) := by unfold sumB; rw [wk]
  rw [eS, v1]
  generalize beB (2 * k) (crcN k E0) = S at *
  generalize List.replicate (2 * k) (0 : UInt8) = Z at *
  simp (disch := omega) [vl, T6.cells_len]
  rw [Xp_run r6 (by simp [hvs]) (by simp [bys_hfs]) (by simp)]
  simp (disch := omega)
  rw [Xp_run rO (by simp [bys_hfs]) rfl (by simp [scalar])]
  simp (disch := omega)
  have rB2 : Run T f_ref01_Bytes [.int .i64 (2 * (k : Int)), .int .u64 (crcN k E0 : Nat)] [] (.ps 1 (bys S)) [] := by simpa using rB
  rw [Xp_run rB2 (by simp) (by simp [bys_hfs]) (by simp)]
  simp (disch := omega) [bys_back]
  have hF : flat (T6.vs l) ++ [V.int .i64 2, .int .u64 0, .str S, .ps 4 []] = flat (T6.vs (l ++ [byt6 S])) := by rw [flat_vs_app]; rfl
  rw [hF]
  have hr : ∀ (a b c : List V), Heap.row (h ++ [some a, none, some b, some c, some (flat (T6.vs (l ++ [byt6 S])))]) (h.length + 4) = some (flat (T6.vs (l ++ [byt6 S]))) := fun a b c => by
    simp [Heap.row, List.getElem?_append_right]
  have hl1 : l.length + 1 = (l ++ [byt6 S]).length := by simp
  have hvv : T6.vs l ++ [V.agg [.int .i64 2, .int .u64 0, .str S, .ps 4 []]] = T6.vs (l ++ [byt6 S]) := by rw [vs_app]; rfl
  rw [hl1, hvv]
  have fz4 := fun a b c => frz_vs (hr a b c) true
  simp only [freezeC, fz4, Option.bind_some]
  simp (disch := omega)
theorem R9Seal0_run (l : List T6) (h : Heap) (hl : GoodL l) : ∃ h', Run T f_ref09_Seal [.ps 4 (T6.vs l), .int .i64 0] h ((node l).v) h' := by
  refine Run.startE t_ref09_Seal ?_
  unfold k_ref09_Seal
  have b5 := T6.ws_len l
  have b6 := hl.w
  by_cases hz : l = []
  · subst hz
    have f0 : flat (T6.vs []) = [] := rfl
    have v00 : T6.vs [] = [] := rfl
    have v1 : (node []).v = .agg [.int .i64 4, .int .u64 0, .str [], .ps 4 []] := rfl
    rw [v1]
    simp (disch := omega) [T6.vs_len, f0, v00, freezeC]
  have hl0 : 0 < l.length := List.length_pos_iff.2 hz
  have fl := flat_vs_len l
  have fz : ¬ (flat (T6.vs l) = []) := by intro e; rw [e] at fl; simp at fl; omega
  have fd : l.length * 4 / 4 = l.length := by omega
  have v1 : (node l).v = .agg [.int .i64 4, .int .u64 0, .str [], .ps 4 (T6.vs l)] := by simp only [T6.v]
  rw [v1]
  have hr : ∀ (a b : List V), Heap.row (h ++ [some a, some (flat (T6.vs l)), some b]) (h.length + 1) = some (flat (T6.vs l)) := fun a b => by
    simp [Heap.row, List.getElem?_append_right]
  have fz4 := fun a b => frz_vs (hr a b) true
  simp (disch := omega) [T6.vs_len, fz, fl, fd, freezeC]
  have fz5 := fun a b => fz4 a b
  simp only [Bool.true_or] at fz5
  rw [fz5]
  simp (disch := omega)
/-- A block's value, as the reference has it. -/
def refT (ty nu fl : Int) (k : Nat) (s : List UInt8) : T6 := if k = 0 then node (vals ty nu fl k s) else blkT ty nu fl k s (sumB k (enc (blkT ty nu fl k s (List.replicate (widthN k) 0))))
theorem R9Seal_any (ty nu fl : Int) (k : Nat) (s : List UInt8) (hl : GoodL (vals ty nu fl k s)) (hk : k ≤ 2) : ∃ h', Run T f_ref09_Seal [.ps 4 (T6.vs (vals ty nu fl k s)), .int .i64 k] [] ((refT ty nu fl k s).v) h' := by
  unfold refT
  by_cases c : k = 0
  · subst c; rw [if_pos rfl]; exact R9Seal0_run _ [] hl
  · rw [if_neg c]; exact R9Seal_run _ k [] hl (by omega)
theorem R9Value_run (ty nu fl : Int) (k : Nat) (s : List UInt8) (hl : GoodL (vals ty nu fl k s)) (hk : k ≤ 2) : ∃ h', Run T f_ref09_Value [blkV ty nu fl k s] [] ((refT ty nu fl k s).v) h' := by
  obtain ⟨h1, r1⟩ := R9Seal_any ty nu fl k s hl hk
  have e1 : T6.vs (vals ty nu fl k s) = [.agg [.int .i64 0, .int .u64 ty, .str [], .ps 4 []], .agg [.int .i64 0, .int .u64 nu, .str [], .ps 4 []], .agg [.int .i64 0, .int .u64 fl, .str [], .ps 4 []], .agg [.int .i64 0, .int .u64 k, .str [], .ps 4 []], .agg [.int .i64 2, .int .u64 0, .str s, .ps 4 []]] := rfl
  have hv := T6.v_hf (refT ty nu fl k s)
  have hvs := T6.vs_hfs (vals ty nu fl k s)
  rw [e1] at r1 hvs
  have hc := T6.cells_len (refT ty nu fl k s)
  have hag := T6.agg_v (refT ty nu fl k s)
  have vv := v_eq (refT ty nu fl k s)
  refine Run.startE t_ref09_Value ?_
  unfold k_ref09_Value blkV
  simp (disch := omega)
  rw [Xp_run r1 (by simpa using hvs) hv (by simp)]
  rw [vv]
  simp (disch := omega)
theorem Seal0_run (l : List T6) (h : Heap) (hl : GoodL l) : ∃ h', Run T f_block_Seal [.ps 1 (anys l), .int .i64 0] h (.tup [.ps 1 (bys (enc (node l))), .int .i64 0]) h' := by
  refine Run.startE t_block_Seal ?_
  unfold k_block_Seal
  have g := hl.node
  have := T6.ws_len l
  have := hl.w
  have pn := fun {ks ops K e h Q d} => Put_node (ks := ks) (ops := ops) (K := K) (e := e) (h := h) (Q := Q) (d := d) _ g
  simp (disch := first | omega | assumption) [anys_len, pn]
theorem blockPut0_run (ty nu fl : Int) (s : List UInt8) (h : Heap) (hl : GoodL (vals ty nu fl 0 s)) (hc : chkS nu 0 s = 0) : ∃ h', Run T f_block_Put [blkV ty nu fl 0 s] h (.tup [.ps 1 (bys (enc (node (vals ty nu fl 0 s)))), .int .i64 0]) h' := by
  obtain ⟨h1, r1⟩ := Check_run ty nu fl 0 s []
  obtain ⟨h2, r2⟩ := values_run ty nu fl 0 s [] (by omega) (by omega)
  obtain ⟨h3, r3⟩ := Seal0_run (vals ty nu fl 0 s) [] hl
  rw [hc] at r1
  refine Run.startE t_block_Put ?_
  unfold k_block_Put blkV
  simp (disch := omega)
  simp only [blk_fold]
  rw [Xp_run r1 (by simp [blk_hf]) (by simp) (by simp)]
  simp (disch := omega)
  simp only [blk_fold]
  rw [Xp_run r2 (by simp [blk_hf]) (by simp [anys_hfs]) (by simp)]
  simp (disch := omega)
  rw [Xp_run r3 (by simp [anys_hfs]) (by simp [bys_hfs]) (by simp)]
  simp (disch := omega)
theorem node_any (l : List T6) : anyV (node l) = .iface 84 (.ps 1 (anys l)) := rfl
theorem Get0_run (ty nu fl : Int) (s : List UInt8) (hl : GoodL (vals ty nu fl 0 s)) (hc : chkS nu 0 s = 0) (hs : s.length ≤ 3000000) :
    ∃ h', Run T f_block_Get [anyV (node (vals ty nu fl 0 s))] [] (.tup [blkV ty nu fl 0 s, .int .i64 0]) h' := by
  have gd := hl.node
  obtain ⟨h6, r6⟩ := Check_run ty nu fl 0 s []
  rw [hc] at r6
  have q0 : (node (vals ty nu fl 0 s)).l[(0 : Int).toNat]? = some (num6 ty) := rfl
  have q1 : (node (vals ty nu fl 0 s)).l[(1 : Int).toNat]? = some (num6 nu) := rfl
  have q2 : (node (vals ty nu fl 0 s)).l[(2 : Int).toNat]? = some (num6 fl) := rfl
  have q3 : (node (vals ty nu fl 0 s)).l[(3 : Int).toNat]? = some (num6 0) := rfl
  have n0 := fun {ks ops K e Q d} Z g => g1 (ks := ks) (ops := ops) (K := K) (e := e) (Q := Q) (d := d) _ _ 0 Z g (show (node (vals ty nu fl 0 s)).k = 4 from rfl) (by omega) q0 rfl
  have n1 := fun {ks ops K e Q d} Z g => g1 (ks := ks) (ops := ops) (K := K) (e := e) (Q := Q) (d := d) _ _ 1 Z g (show (node (vals ty nu fl 0 s)).k = 4 from rfl) (by omega) q1 rfl
  have n2 := fun {ks ops K e Q d} Z g => g1 (ks := ks) (ops := ops) (K := K) (e := e) (Q := Q) (d := d) _ _ 2 Z g (show (node (vals ty nu fl 0 s)).k = 4 from rfl) (by omega) q2 rfl
  have n3 := fun {ks ops K e Q d} Z g => g1 (ks := ks) (ops := ops) (K := K) (e := e) (Q := Q) (d := d) _ _ 3 Z g (show (node (vals ty nu fl 0 s)).k = 4 from rfl) (by omega) q3 rfl
  have a4 : atV (node (vals ty nu fl 0 s)) 4 = .iface 36 (.ps 1 (bys s)) := atV_some _ 4 (byt6 s) rfl (by omega) rfl
  have pA := fun {ks ops K e h Q d} i => At_p (ks := ks) (ops := ops) (K := K) (e := e) (h := h) (Q := Q) (d := d) (node (vals ty nu fl 0 s)) i
  have hf : T.free f_block_Get_1 = true := rfl
  have pl := fun {ks ops K e h Q d} => List_n (ks := ks) (ops := ops) (K := K) (e := e) (h := h) (Q := Q) (d := d) (vals ty nu fl 0 s) gd.w
  have any1 := anyV_one (node (vals ty nu fl 0 s))
  have anyc := anyV_cells (node (vals ty nu fl 0 s))
  rw [← node_any (vals ty nu fl 0 s)] at pl
  have alen : (anys (vals ty nu fl 0 s)).length = 5 := by rw [anys_len]; rfl
  have ahf := anyV_hf (node (vals ty nu fl 0 s))
  clear q0 q1 q2 q3
  have hvs := anys_hfs (vals ty nu fl 0 s)
  generalize anys (vals ty nu fl 0 s) = A at *
  generalize node (vals ty nu fl 0 s) = t at *
  generalize anyV t = X at *
  refine Run.startE t_block_Get ?_
  unfold k_block_Get
  simp (disch := first | omega | assumption) [any1, anyc, n0, n1, n2, n3, asN_num, pA, a4, Bytes_b, pl, alen, bys_back]
  apply Xc_regf
  simp (disch := first | omega | assumption) [bys_back]
  simp (disch := first | omega | assumption) [flagsIn, flagP, evOp, bys_back]
  simp only [blk_fold]
  rw [Xp_run r6 (by simp [blk_hf]) (by simp) (by simp)]
  simp (disch := omega) [blkV]
/-- The bytes of a block that may be are those of its value. -/
theorem encRef (ty nu fl : Int) (k : Nat) (s : List UInt8) (hk : k ≠ 0) : sealB (vals ty nu fl k s) k = enc (refT ty nu fl k s) := by
  unfold refT; rw [if_neg hk]; rfl
theorem blockPutA_run (ty nu fl : Int) (k : Nat) (s : List UInt8) (h : Heap) (hl : GoodL (vals ty nu fl k s)) (hk : k ≤ 2) (hc : chkS nu k s = 0) : ∃ h', Run T f_block_Put [blkV ty nu fl k s] h (.tup [.ps 1 (bys (enc (refT ty nu fl k s))), .int .i64 0]) h' := by
  by_cases c : k = 0
  · subst c
    exact blockPut0_run ty nu fl s h hl hc
  · rw [← encRef ty nu fl k s c]
    exact blockPut_run ty nu fl k s h hl (by omega) hc
theorem refT_good (ty nu fl : Int) (k : Nat) (s : List UInt8) (hl : GoodL (vals ty nu fl k s)) (hk : k ≤ 2) : Good (refT ty nu fl k s) := by
  unfold refT
  by_cases c : k = 0
  · rw [if_pos c]; exact hl.node
  · rw [if_neg c]
    have := widthN_le k
    exact hl.snoc _ (by rw [sumB_len]; omega)
theorem GetA_run (ty nu fl : Int) (k : Nat) (s : List UInt8) (hl : GoodL (vals ty nu fl k s)) (hk : k ≤ 2) (hc : chkS nu k s = 0) (hs : s.length ≤ 3000000) :
    ∃ h', Run T f_block_Get [anyV (refT ty nu fl k s)] [] (.tup [blkV ty nu fl k s, .int .i64 0]) h' := by
  by_cases c : k = 0
  · subst c
    exact Get0_run ty nu fl s hl hc hs
  · have e := encRef ty nu fl k s c
    unfold refT at e ⊢
    rw [if_neg c] at e ⊢
    have := Get_run ty nu fl k s (sumB k (enc (blkT ty nu fl k s (List.replicate (widthN k) 0)))) hl (by omega) (sumB_len k _) hc hs
    rw [if_pos e] at this
    exact this
abbrev nil6 : T6 := .mk 7 0 [] []
/-- The value at a place, nil where there is none. -/
def el (t : T6) (i : Nat) : T6 := if t.k = 4 then (t.l[i]?).getD nil6 else nil6
theorem nil_any : anyV nil6 = .nili := rfl
theorem at_el (t : T6) (i : Nat) : atV t i = anyV (el t i) := by
  unfold el
  by_cases c : t.k = 4
  · rw [if_pos c]
    cases g : t.l[i]? with
    | some x => exact atV_some t i x c (by omega) (by simpa using g)
    | none =>
      have : t.l.length ≤ i := by
        rcases Nat.lt_or_ge i t.l.length with h | h
        · rw [List.getElem?_eq_getElem h] at g; cases g
        · exact h
      rw [atV_none t i (by omega)]; rfl
  · rw [if_neg c, atV_none t i (by omega)]; rfl
theorem el_mem (t : T6) (i : Nat) : el t i = nil6 ∨ el t i ∈ t.l := by
  unfold el
  split
  · cases g : t.l[i]? with
    | some x => exact .inr (List.mem_of_getElem? g)
    | none => exact .inl rfl
  · exact .inl rfl
theorem el_w (t : T6) (i : Nat) (hw : t.w ≤ 4194304) : (el t i).w ≤ 4194304 := by
  rcases el_mem t i with h | h
  · rw [h]; decide
  · have := T6.ws_mem h
    have := T6.lt_ws t
    omega
theorem el_n (t : T6) (i : Nat) (ok : t.ok) : 0 ≤ asN (el t i) ∧ asN (el t i) ≤ 18446744073709551615 := by
  rcases el_mem t i with h | h
  · rw [h]; decide
  · have : T6.oks t.l := by cases t; exact ok.2.2.2
    have o := T6.oks_mem this h
    generalize el t i = x at *
    obtain ⟨k, n, s, l⟩ := x
    have := o.2.1
    unfold asN
    split
    · exact ⟨this.1, this.2⟩
    · omega
theorem hdB_small (m n : Nat) (h : n < 24) : (hdB m n).length = 1 := by unfold hdB; rw [if_pos h]; rfl
theorem hdB_pos (m n : Nat) : 1 ≤ (hdB m n).length := by unfold hdB; split <;> simp
theorem enc_snoc (l : List T6) (S : List UInt8) : enc (node (l ++ [byt6 S])) = (hdB 4 (l.length + 1) ++ encs l) ++ (hdB 2 S.length ++ S) := by
  rw [enc_node, encs_app]
  simp [encs, enc]
theorem snoc_len (l : List T6) (S S' : List UInt8) (hS : S.length < 24) (h : enc (node (l ++ [byt6 S])) = enc (node (l ++ [byt6 S']))) : S'.length = S.length := by
  rw [enc_snoc, enc_snoc, List.append_cancel_left_eq] at h
  have h := congrArg List.length h
  rw [List.length_append, List.length_append, hdB_small 2 _ hS] at h
  rcases Nat.lt_or_ge S'.length 24 with c | c
  · rw [hdB_small 2 _ c] at h; omega
  · have := hdB_pos 2 S'.length; omega
theorem sealB_len (l : List T6) (k : Nat) (S : List UInt8) (hk : k = 1 ∨ k = 2) (h : sealB l k = enc (node (l ++ [byt6 S]))) : S.length = widthN k := by
  unfold sealB at h
  have w := sumB_len k (enc (node (l ++ [byt6 (List.replicate (widthN k) 0)])))
  have wl := widthN_le k
  have := snoc_len l _ S (by omega) h
  omega
theorem OpenN_run (l : List T6) (S : List UInt8) (h : Heap) (hw : (node (l ++ [byt6 S])).w ≤ 4194304) (hS : S.length ≤ 3000000) (h2 : S.length ≠ 2) (h4 : S.length ≠ 4) : ∃ h', Run T f_block_Open [.iface 84 (.ps 1 (anys (l ++ [byt6 S])))] h (.tup [.ps 1 (anys (l ++ [byt6 S])), .int .i64 0, .int .i64 0]) h' := by
  have hg : (anys (l ++ [byt6 S]))[l.length]? = some (.iface 36 (.ps 1 (bys S))) := by
    rw [anys_get, List.getElem?_append_right (by omega), Nat.sub_self]; rfl
  have hlen : (anys (l ++ [byt6 S])).length = l.length + 1 := by rw [anys_len]; simp
  refine Run.startE t_block_Open ?_
  unfold k_block_Open
  have ln := fun {ks ops K e h Q d} => List_n (ks := ks) (ops := ops) (K := K) (e := e) (h := h) (Q := Q) (d := d) (l ++ [byt6 S]) hw
  have b5 : l.length ≤ 4194304 := by
    have h1 := T6.ws_len (l ++ [byt6 S])
    have h2 := T6.lt_ws (node (l ++ [byt6 S]))
    simp at h1
    have : (node (l ++ [byt6 S])).l = l ++ [byt6 S] := rfl
    rw [this] at h2
    omega
  have hA := anys_hfs (l ++ [byt6 S])
  generalize anys (l ++ [byt6 S]) = A at *
  have z : ¬ ((l.length : Int) + 1 = 0) := by omega
  have zA : ¬ (A = []) := by intro e; rw [e] at hlen; simp at hlen
  have e1 : ((A.length : Int) - 1).toNat = l.length := by omega
  have w1 : (1 : Int) ≤ A.length := by omega
  have n2 : ¬ ((S.length : Int) = 2) := by omega
  have n4 : ¬ ((S.length : Int) = 4) := by omega
  simp (disch := first | omega | assumption) [ln, z, hlen, hg, Bytes_b, bys_len, n2, n4, h2, h4, bwidth_1, bwidth_2]
/-- What block.Open answers, and what it says of the sum. -/
theorem OpenG_run (l : List T6) (S : List UInt8) (h : Heap) (hl : GoodL l) (hw : (node (l ++ [byt6 S])).w ≤ 4194304) (hS : S.length ≤ 3000000) (k : Nat) (hk : k = 1 ∨ k = 2) : ∃ L j e h', Run T f_block_Open [.iface 84 (.ps 1 (anys (l ++ [byt6 S])))] h (.tup [.ps 1 L, .int .i64 j, .int .i64 e]) h' ∧ V.hfs L = true ∧ ((e = 0 ∧ j = k) ↔ sealB l k = enc (node (l ++ [byt6 S]))) := by
  have gen : ∀ q : Nat, (q = 1 ∨ q = 2) → S.length = widthN q → ∃ L j e h', Run T f_block_Open [.iface 84 (.ps 1 (anys (l ++ [byt6 S])))] h (.tup [.ps 1 L, .int .i64 j, .int .i64 e]) h' ∧ V.hfs L = true ∧ ((e = 0 ∧ j = q) ↔ sealB l q = enc (node (l ++ [byt6 S]))) ∧ (e = 0 → j = q) := fun q hq hSq => by
    obtain ⟨h', r⟩ := Open_run l q S h hl hq hSq
    unfold openV at r
    by_cases c : sealB l q = enc (node (l ++ [byt6 S]))
    · rw [if_pos c] at r
      exact ⟨_, _, _, h', r, anys_hfs l, ⟨fun _ => c, fun _ => ⟨rfl, rfl⟩⟩, fun _ => rfl⟩
    · rw [if_neg c] at r
      exact ⟨_, _, _, h', r, rfl, ⟨fun k => absurd k.1 (by decide), fun k => absurd k c⟩, fun k => absurd k (by decide)⟩
  by_cases e1 : S.length = widthN k
  · obtain ⟨L, j, e, h', r, r1, r2, _⟩ := gen k hk e1
    exact ⟨L, j, e, h', r, r1, r2⟩
  · have ne : ¬ sealB l k = enc (node (l ++ [byt6 S])) := fun c => e1 (sealB_len l k S hk c)
    have w1 : widthN 1 = 2 := rfl
    have w2 : widthN 2 = 4 := rfl
    by_cases c2 : S.length = 2
    · obtain ⟨L, j, e, h', r, r1, r2, r3⟩ := gen 1 (.inl rfl) c2
      refine ⟨L, j, e, h', r, r1, ⟨fun q => ?_, fun q => absurd q ne⟩⟩
      have := r3 q.1
      rcases hk with rfl | rfl
      · exact absurd c2 e1
      · omega
    · by_cases c4 : S.length = 4
      · obtain ⟨L, j, e, h', r, r1, r2, r3⟩ := gen 2 (.inr rfl) c4
        refine ⟨L, j, e, h', r, r1, ⟨fun q => ?_, fun q => absurd q ne⟩⟩
        have := r3 q.1
        rcases hk with rfl | rfl
        · omega
        · exact absurd c4 e1
      · obtain ⟨h', r⟩ := OpenN_run l S h hw hS c2 c4
        refine ⟨_, _, _, h', r, anys_hfs _, ⟨fun q => ?_, fun q => absurd q ne⟩⟩
        have := q.2
        rcases hk with rfl | rfl <;> omega
theorem any_eq (t : T6) (h : t.k = 0) : anyV t = anyV (num6 (asN t)) ∧ enc t = enc (num6 (asN t)) := by
  obtain ⟨k, n, s, l⟩ := t
  have : k = 0 := h
  subst this
  exact ⟨rfl, by simp [asN, T6.k, T6.n, enc]⟩
theorem any_eqb (t : T6) (h : t.k = 2) : anyV t = anyV (byt6 (asB t)) ∧ enc t = enc (byt6 (asB t)) := by
  obtain ⟨k, n, s, l⟩ := t
  have : k = 2 := h
  subst this
  exact ⟨rfl, by simp [asB, T6.k, T6.s, enc]⟩
theorem any_eql (t : T6) (h : t.k = 4) : anyV t = anyV (node t.l) ∧ enc t = enc (node t.l) := by
  obtain ⟨k, n, s, l⟩ := t
  have : k = 4 := h
  subst this
  exact ⟨rfl, by simp [T6.l, enc]⟩
theorem asB_le (t : T6) : (asB t).length ≤ t.w := by
  obtain ⟨k, n, s, l⟩ := t
  unfold asB
  split
  · rw [T6.w]; show s.length ≤ _; omega
  · simp
theorem el_le (t : T6) (i : Nat) : (el t i).w ≤ t.w := by
  rcases el_mem t i with h | h
  · rw [h]; have := T6.w_pos t; simp [T6.w, T6.ws]; omega
  · have := T6.ws_mem h
    have := T6.lt_ws t
    omega
theorem nxt_at (h : Heap) (b : Nat) (s : List UInt8) (p : Nat) (hr : h.row b = some [.str s, .int .i64 p]) :
    nxtV h (.itr b) = if p < s.length then some (.tup [.bool true, .int .i64 p, .int .i32 (Utf8.decode ⟨s.toArray⟩ p).1], h.set b (some [.str s, .int .i64 ((p + (Utf8.decode ⟨s.toArray⟩ p).2 : Nat) : Int)])) else some (.tup [.bool false], h) := by
  have e0 : ((p : Int)).toNat = p := by omega
  have e1 : ¬ ((p : Int) < 0) := by omega
  unfold nxtV
  simp only [hr, Option.bind_some, if_neg e1, e0]
theorem get_b (s : List UInt8) (p : Nat) (h : p < s.length) : ((⟨s.toArray⟩ : ByteArray).get! p) = s[p] := by
  simp [ByteArray.get!, h]
theorem dec_ascii (s : List UInt8) (p : Nat) (h : p < s.length) (hb : s[p].toNat < 128) : Utf8.decode ⟨s.toArray⟩ p = (s[p].toNat, 1) := by
  unfold Utf8.decode
  simp only [Nat.add_zero, get_b s p h]
  rw [if_pos hb]
theorem dec_big (s : List UInt8) (p : Nat) (h : p < s.length) (hb : 128 ≤ s[p].toNat) : 128 ≤ (Utf8.decode ⟨s.toArray⟩ p).1 := by
  unfold Utf8.decode
  simp only [Nat.add_zero, get_b s p h, Utf8.runeError]
  rw [if_neg (by omega)]
  (repeat' split) <;> simp_all <;> omega
def plainB (b : UInt8) : Bool := decide (33 ≤ b.toNat) && decide (b.toNat ≤ 126)
def plainS (s : List UInt8) : Bool := s.all plainB
theorem runesplain_run (c : Int) (h : Heap) : Run T f_runes_plain [.int .i32 c] h (.bool (decide (32 < c) && decide (c ≤ 126))) h := by
  refine Run.start t_runes_plain ?_
  unfold k_runes_plain
  by_cases c1 : 32 < c
  · by_cases c2 : c ≤ 126
    · simp (disch := omega) [c1, c2]
    · simp (disch := omega) [c1, c2]
  · simp (disch := omega) [c1]
section
variable {ks : List Kt} {ops : List AOpr} {K : Kp} {e : Env} {h : Heap} {Q : Ex → Env → Heap → Prop} {d : Nat}
theorem runesplain_p (c : Int) : Xp T f_runes_plain (some ([.int .i32 c], false)) h (some d) ops K ks e Q = Xo T ops K ks ((d, .bool (decide (32 < c) && decide (c ≤ 126))) :: e) h Q :=
  Xp_run (runesplain_run c []) (by simp) rfl (by simp)
end
theorem row_last (h : Heap) (x : List V) : Heap.row (h ++ [some x]) h.length = some x := by
  simp [Heap.row, List.getElem?_append_right]
theorem set_last (h : Heap) (x y : Option (List V)) : (h ++ [x]).set h.length y = h ++ [y] := by simp
theorem Plain_loop (s : List UInt8) (hs : s.length ≤ 140737488351232) (h0 : Heap) : ∀ (m p : Nat), p + m = s.length → ∀ ks Q (e : Env),
    ((s.drop p).all plainB = true → ∀ e h, Xk T ks (.x 0) ([(0, .str s)] ++ e) h Q) →
    ((s.drop p).all plainB = false → ∀ e h, Xk T ks .r ([(2, .bool false)] ++ e) h Q) →
    Xc T l_runes_Plain_0 ks ([(0, .str s), (6, .itr h0.length)] ++ e) (h0 ++ [some [.str s, .int .i64 p]]) Q := by
  intro m
  induction m with
  | zero =>
    intro p hp ks Q e hQ hR
    rw [L_runes_Plain_0]; unfold bl_runes_Plain_0
    have n1 := nxt_at (h0 ++ [some [.str s, .int .i64 p]]) h0.length s p (row_last _ _)
    rw [if_neg (by omega)] at n1
    simp (disch := omega) [n1]
    exact hQ (by rw [List.drop_eq_nil_of_le (by omega)]; rfl) _ _
  | succ m ih =>
    intro p hp ks Q e hQ hR
    rw [L_runes_Plain_0]; unfold bl_runes_Plain_0
    have n1 := nxt_at (h0 ++ [some [.str s, .int .i64 p]]) h0.length s p (row_last _ _)
    have hlt : p < s.length := by omega
    rw [if_pos hlt, set_last] at n1
    have hd : s.drop p = s[p] :: s.drop (p + 1) := List.drop_eq_getElem_cons hlt
    rw [hd] at hQ hR
    simp only [List.all_cons, Bool.and_eq_true, Bool.and_eq_false_iff] at hQ hR
    by_cases hb : plainB s[p] = true
    · have hb2 := hb
      simp only [plainB, Bool.and_eq_true, decide_eq_true_eq] at hb2
      have da := dec_ascii s p hlt (by omega)
      rw [da] at n1
      have c1 : (32 : Int) < (s[p].toNat : Int) := by omega
      have c2 : (s[p].toNat : Int) ≤ 126 := by omega
      have := ih (p + 1) (by omega) ks Q [(12, .bool false)] (fun h => hQ ⟨hb, h⟩) (fun h => hR (.inr h))
      simp only at n1
      generalize s[p].toNat = B at *
      simp (disch := omega) [n1, runesplain_p, c1, c2]
      simpa using this
    · have hb1 : plainB s[p] = false := by simpa using hb
      have hr := hR (.inl hb1)
      have hc : ¬ (32 < ((Utf8.decode ⟨s.toArray⟩ p).1 : Int) ∧ ((Utf8.decode ⟨s.toArray⟩ p).1 : Int) ≤ 126) := by
        rcases Nat.lt_or_ge s[p].toNat 128 with k | k
        · have da := dec_ascii s p hlt k
          rw [da]
          simp only [plainB, Bool.and_eq_false_iff, decide_eq_false_iff_not] at hb1
          simp only
          omega
        · have := dec_big s p hlt k
          omega
      generalize Utf8.decode ⟨s.toArray⟩ p = D at *
      by_cases c1 : (32 : Int) < (D.1 : Int)
      · have c2 : ¬ ((D.1 : Int) ≤ 126) := fun k => hc ⟨c1, k⟩
        have c1' : 32 < D.1 := by omega
        have c2' : ¬ (D.1 ≤ 126) := by omega
        simp (disch := omega) [n1, runesplain_p, c1, c2, c1', c2']
        simpa using hr _ _
      · have c1' : ¬ 32 < D.1 := by omega
        simp (disch := omega) [n1, runesplain_p, c1, c1']
        simpa using hr _ _
theorem Plain_run (s : List UInt8) (hs : s.length ≤ 140737488351232) (h : Heap) : ∃ h', Run T f_runes_Plain [.str s] h (.bool (plainS s && !decide (s = []))) h' := by
  refine Run.startE t_runes_Plain ?_
  unfold k_runes_Plain
  have := Plain_loop s hs h s.length 0 (by omega)
  simp (disch := omega)
  refine this _ _ [] (fun hp e h => ?_) (fun hp e h => ?_)
  · rw [List.drop_zero] at hp
    have hp2 : plainS s = true := hp
    by_cases hz : s = []
    · simp (disch := omega) [hp2, hz]
    · simp (disch := omega) [hp2, hz]
  · rw [List.drop_zero] at hp
    have hp2 : plainS s = false := hp
    simp (disch := omega) [hp2]
theorem HasPrefix2_run (s : List UInt8) (hs : s.length ≤ 140737488351232) (h : Heap) : ∃ h', Run T f_strings_HasPrefix [.str s, .str [47, 47]] h (.bool (decide (2 ≤ s.length) && decide (s.take 2 = [47, 47]))) h' := by
  have r1 : ∃ h', Run T f_internal_stringslite_HasPrefix [.str s, .str [47, 47]] [] (.bool (decide (2 ≤ s.length) && decide (s.take 2 = [47, 47]))) h' := by
    refine Run.startE t_internal_stringslite_HasPrefix ?_
    unfold k_internal_stringslite_HasPrefix
    by_cases c : 2 ≤ s.length
    · have c' : (2 : Int) ≤ s.length := by omega
      simp (disch := omega) [c, c']
    · have c' : ¬ (2 : Int) ≤ s.length := by omega
      simp (disch := omega) [c, c']
  obtain ⟨_, r1⟩ := r1
  refine Run.startE t_strings_HasPrefix ?_
  unfold k_strings_HasPrefix
  simp (disch := omega)
  rw [Xp_run r1 (by simp) rfl (by simp)]
  simp (disch := omega)
/-- A name that stands for one. -/
def namedS (s : List UInt8) : Bool := decide (3 ≤ s.length) && decide (s.length ≤ 64) && decide (s.take 2 = [47, 47]) && plainS s
theorem named_run (s : List UInt8) (hs : s.length ≤ 140737488351232) (h : Heap) : ∃ h', Run T f_eid_named [.str s] h (.bool (namedS s)) h' := by
  obtain ⟨_, r1⟩ := HasPrefix2_run s hs []
  obtain ⟨_, r2⟩ := Plain_run s hs []
  refine Run.startE t_eid_named ?_
  unfold k_eid_named namedS
  by_cases c : 3 ≤ s.length
  · have c' : (3 : Int) ≤ s.length := by omega
    by_cases c2 : s.length ≤ 64
    · have c2' : (s.length : Int) ≤ 64 := by omega
      have c3 : 2 ≤ s.length := by omega
      have hz : ¬ (s = []) := by intro e; subst e; simp at c
      rw [decide_eq_true c3] at r1
      rw [decide_eq_false hz] at r2
      simp (disch := omega) [c, c', c2, c2']
      rw [Xp_run r1 (by simp) rfl (by simp)]
      by_cases c4 : s.take 2 = [47, 47]
      · simp (disch := omega) [c4]
        rw [Xp_run r2 (by simp) rfl (by simp)]
        simp (disch := omega)
      · simp (disch := omega) [c4]
    · have c2' : ¬ (s.length : Int) ≤ 64 := by omega
      simp (disch := omega) [c, c', c2, c2']
  · have c' : ¬ (3 : Int) ≤ s.length := by omega
    simp (disch := omega) [c, c']
def eidV (sc : Int) (nm : List UInt8) (nd sv : Int) : V := .agg [.int .i64 sc, .str nm, .int .u64 nd, .int .u64 sv]
theorem eid_fold (sc : Int) (nm : List UInt8) (nd sv : Int) : V.agg [.int .i64 sc, .str nm, .int .u64 nd, .int .u64 sv] = eidV sc nm nd sv := rfl
theorem eid_hf (sc : Int) (nm : List UInt8) (nd sv : Int) : V.hf (eidV sc nm nd sv) = true := by simp [eidV]
theorem None_run (h : Heap) : ∃ h', Run T f_eid_None [] h (eidV 1 [] 0 0) h' := by
  refine Run.startE t_eid_None ?_
  unfold k_eid_None eidV
  simp (disch := omega)
/-- Is an endpoint right? -/
def rightE (sc : Int) (nm : List UInt8) (nd sv : Int) : Bool := if sc = 2 then decide (nm = []) else decide (sc = 1) && decide (nd = 0) && decide (sv = 0) && (decide (nm = []) || namedS nm)
theorem eidRight_run (sc : Int) (nm : List UInt8) (nd sv : Int) (hs : nm.length ≤ 140737488351232) (h : Heap) : ∃ h', Run T f_eid_Right [eidV sc nm nd sv] h (.bool (rightE sc nm nd sv)) h' := by
  obtain ⟨_, r1⟩ := None_run []
  obtain ⟨_, r2⟩ := named_run nm hs []
  refine Run.startE t_eid_Right ?_
  unfold k_eid_Right eidV rightE
  by_cases c1 : sc = 1
  · subst c1
    simp (disch := omega)
    rw [Xp_run r1 (by simp) (by simp [eidV]) (by simp)]
    by_cases c2 : nm = []
    · subst c2
      by_cases c3 : nd = 0
      · by_cases c4 : sv = 0
        · simp (disch := omega) [eidV, c3, c4]
        · simp (disch := omega) [eidV, c3, c4]
      · simp (disch := omega) [eidV, c3]
    · by_cases c3 : nd = 0
      · by_cases c4 : sv = 0
        · simp (disch := omega) [eidV, c2, c3, c4]
          rw [Xp_run r2 (by simp) rfl (by simp)]
          simp (disch := omega) [c2, c3, c4]
        · simp (disch := omega) [eidV, c2, c3, c4]
      · simp (disch := omega) [eidV, c2, c3]
  · by_cases c2 : sc = 2
    · subst c2
      simp (disch := omega)
    · simp (disch := omega) [c1, c2]
theorem Right7_loop (s : List UInt8) (hs : s.length ≤ 140737488351232) : ∀ (m p : Nat), p + m = s.length → ∀ ks Q (e : Env) (h : Heap),
    ((s.drop p).all plainB = true → ∀ e, Xk T ks (.x 0) ([(3, .str s)] ++ e) h Q) →
    ((s.drop p).all plainB = false → ∀ e, Xk T ks .r ([(2, .bool false)] ++ e) h Q) →
    Xc T l_ref07_Right_0 ks ([(3, .str s), (4, .int .i64 p)] ++ e) h Q := by
  intro m
  induction m with
  | zero =>
    intro p hp ks Q e h hQ hR
    rw [L_ref07_Right_0]; unfold bl_ref07_Right_0
    have e1 : p = s.length := by omega
    subst e1
    simp (disch := omega)
    exact hQ (by rw [List.drop_eq_nil_of_le (by omega)]; rfl) _
  | succ m ih =>
    intro p hp ks Q e h hQ hR
    rw [L_ref07_Right_0]; unfold bl_ref07_Right_0
    have hlt : p < s.length := by omega
    have hlt' : (p : Int) < s.length := by omega
    have g := List.getElem?_eq_getElem hlt
    have hd : s.drop p = s[p] :: s.drop (p + 1) := List.drop_eq_getElem_cons hlt
    rw [hd] at hQ hR
    simp only [List.all_cons, Bool.and_eq_true, Bool.and_eq_false_iff] at hQ hR
    by_cases hb : plainB s[p] = true
    · have hb2 := hb
      simp only [plainB, Bool.and_eq_true, decide_eq_true_eq] at hb2
      have := ih (p + 1) (by omega) ks Q [] h (fun h => hQ ⟨hb, h⟩) (fun h => hR (.inr h))
      have c1 : ¬ ((s[p].toNat : Int) ≤ 32) := by omega
      have c2 : ¬ ((127 : Int) ≤ (s[p].toNat : Int)) := by omega
      have c1' : ¬ (s[p].toNat ≤ 32) := by omega
      have c2' : ¬ (127 ≤ s[p].toNat) := by omega
      simp (disch := omega) [hlt', g, byteV, c1, c2, c1', c2']
      simpa using this
    · have hb1 : plainB s[p] = false := by simpa using hb
      have hr := hR (.inl hb1)
      simp only [plainB, Bool.and_eq_false_iff, decide_eq_false_iff_not] at hb1
      by_cases c1 : ((s[p].toNat : Int) ≤ 32)
      · have c1' : s[p].toNat ≤ 32 := by omega
        simp (disch := omega) [hlt', g, byteV, c1, c1']
        simpa using hr _
      · have c1' : ¬ (s[p].toNat ≤ 32) := by omega
        have c2 : ((127 : Int) ≤ (s[p].toNat : Int)) := by omega
        have c2' : (127 ≤ s[p].toNat) := by omega
        simp (disch := omega) [hlt', g, byteV, c1, c1', c2, c2']
        simpa using hr _
theorem R7Right_run (sc : Int) (nm : List UInt8) (nd sv : Int) (hs : nm.length ≤ 140737488351232) (h : Heap) : ∃ h', Run T f_ref07_Right [eidV sc nm nd sv] h (.bool (rightE sc nm nd sv)) h' := by
  refine Run.startE t_ref07_Right ?_
  unfold k_ref07_Right eidV rightE
  by_cases c2 : sc = 2
  · subst c2
    simp (disch := omega)
  by_cases c1 : sc = 1
  · subst c1
    by_cases c3 : nd = 0
    · by_cases c4 : sv = 0
      · by_cases c5 : nm = []
        · simp (disch := omega) [c3, c4, c5]
        · unfold namedS
          by_cases l1 : nm.length < 3
          · have l1' : (nm.length : Int) < 3 := by omega
            have l1n : ¬ (3 ≤ nm.length) := by omega
            simp (disch := omega) [c3, c4, c5, l1, l1', l1n]
          · have l1' : ¬ (nm.length : Int) < 3 := by omega
            have l1n : 3 ≤ nm.length := by omega
            by_cases l2 : 64 < nm.length
            · have l2' : (64 : Int) < nm.length := by omega
              have l2n : ¬ (nm.length ≤ 64) := by omega
              simp (disch := omega) [c3, c4, c5, l1, l1', l1n, l2, l2', l2n]
            · have l2' : ¬ (64 : Int) < nm.length := by omega
              have l2n : (nm.length ≤ 64) := by omega
              by_cases l3 : nm.take 2 = [47, 47]
              · have := Right7_loop nm hs nm.length 0 (by omega)
                simp (disch := omega) [c3, c4, c5, l1, l1', l1n, l2, l2', l2n, l3]
                refine this _ _ [] _ (fun hp e => ?_) (fun hp e => ?_)
                · rw [List.drop_zero] at hp
                  have hp2 : plainS nm = true := hp
                  simp (disch := omega) [hp2]
                · rw [List.drop_zero] at hp
                  have hp2 : plainS nm = false := hp
                  simp (disch := omega) [hp2]
              · simp (disch := omega) [c3, c4, c5, l1, l1', l1n, l2, l2', l2n, l3]
      · simp (disch := omega) [c3, c4]
    · simp (disch := omega) [c3]
  · simp (disch := omega) [c1, c2]
def txt6 (s : List UInt8) : T6 := .mk 3 0 s []
def eidT (sc : Int) (nm : List UInt8) (nd sv : Int) : T6 := node [num6 sc, if sc = 2 then node [num6 nd, num6 sv] else if nm = [] then num6 0 else txt6 nm]
theorem rightE_cases {sc : Int} {nm : List UInt8} {nd sv : Int} (h : rightE sc nm nd sv = true) : (sc = 2 ∧ nm = []) ∨ (sc = 1 ∧ nd = 0 ∧ sv = 0 ∧ (nm = [] ∨ namedS nm = true)) := by
  unfold rightE at h
  split at h
  · rename_i c
    exact .inl ⟨c, by simpa using h⟩
  · simp only [Bool.and_eq_true, decide_eq_true_eq, Bool.or_eq_true] at h
    exact .inr ⟨h.1.1.1, h.1.1.2, h.1.2, h.2⟩
theorem eidValue_run (sc : Int) (nm : List UInt8) (nd sv : Int) (hs : nm.length ≤ 140737488351232) (hr : rightE sc nm nd sv = true) (h : Heap) : ∃ h', Run T f_eid_Value [eidV sc nm nd sv] h (.tup [anyV (eidT sc nm nd sv), .int .i64 0]) h' := by
  obtain ⟨_, r1⟩ := eidRight_run sc nm nd sv hs []
  obtain ⟨_, r2⟩ := None_run []
  rw [hr] at r1
  refine Run.startE t_eid_Value ?_
  unfold k_eid_Value
  rw [eidV]
  rcases rightE_cases hr with ⟨rfl, rfl⟩ | ⟨rfl, rfl, rfl, hn⟩
  · simp (disch := omega)
    simp only [eid_fold]
    rw [Xp_run r1 (by simp [eid_hf]) rfl (by simp)]
    simp (disch := omega) [eidV]
    rw [Xp_run r2 (by simp) (by simp [eidV]) (by simp)]
    simp (disch := omega) [eidV, eidT, anyV, anys]
  · by_cases hz : nm = []
    · subst hz
      simp (disch := omega)
      simp only [eid_fold]
      rw [Xp_run r1 (by simp [eid_hf]) rfl (by simp)]
      simp (disch := omega) [eidV]
      rw [Xp_run r2 (by simp) (by simp [eidV]) (by simp)]
      simp (disch := omega) [eidV, eidT, anyV, anys]
    · simp (disch := omega)
      simp only [eid_fold]
      rw [Xp_run r1 (by simp [eid_hf]) rfl (by simp)]
      simp (disch := omega) [eidV]
      rw [Xp_run r2 (by simp) (by simp [eidV]) (by simp)]
      simp (disch := omega) [eidV, eidT, anyV, anys, hz, txt6]
theorem R7Value_run (sc : Int) (nm : List UInt8) (nd sv : Int) (hs : nm.length ≤ 140737488351232) (hr : rightE sc nm nd sv = true) (h : Heap) : ∃ h', Run T f_ref07_Value [eidV sc nm nd sv] h (eidT sc nm nd sv).v h' := by
  refine Run.startE t_ref07_Value ?_
  unfold k_ref07_Value
  rw [eidV]
  have fzz : ∀ (a b : T6) (H : Heap) (k : Nat), H.row k = some (flat (T6.vs [a, b])) → freeze1 (true || decide (1 < 4)) (.hs 4 k 0 2) H = some (.ps 4 (T6.vs [a, b]), H.set k none) := fun a b H k hr => frz_vs (l := [a, b]) hr true
  simp only [Bool.true_or] at fzz
  rcases rightE_cases hr with ⟨rfl, rfl⟩ | ⟨rfl, rfl, rfl, hn⟩
  · have e1 : (eidT 2 [] nd sv).v = .agg [.int .i64 4, .int .u64 0, .str [], .ps 4 (T6.vs [num6 2, node [num6 nd, num6 sv]])] := rfl
    have fz := fzz (num6 2) (node [num6 nd, num6 sv])
    have e2 : flat (T6.vs [num6 2, node [num6 nd, num6 sv]]) = [.int .i64 0, .int .u64 2, .str [], .ps 4 [], .int .i64 4, .int .u64 0, .str [], .ps 4 [.agg [.int .i64 0, .int .u64 nd, .str [], .ps 4 []], .agg [.int .i64 0, .int .u64 sv, .str [], .ps 4 []]]] := rfl
    rw [e2] at fz
    rw [e1]
    simp (disch := omega)
    simp (disch := omega) [freezeC]
    rw [fz _ _ (by simp [Heap.row, List.getElem?_append_right])]
    simp (disch := omega)
  · by_cases hz : nm = []
    · subst hz
      have e1 : (eidT 1 [] 0 0).v = .agg [.int .i64 4, .int .u64 0, .str [], .ps 4 (T6.vs [num6 1, num6 0])] := rfl
      have fz := fzz (num6 1) (num6 0)
      have e2 : flat (T6.vs [num6 1, num6 0]) = [.int .i64 0, .int .u64 1, .str [], .ps 4 [], .int .i64 0, .int .u64 0, .str [], .ps 4 []] := rfl
      rw [e2] at fz
      rw [e1]
      simp (disch := omega)
      simp (disch := omega) [freezeC]
      rw [fz _ _ (by simp [Heap.row, List.getElem?_append_right])]
      simp (disch := omega)
    · have e1 : (eidT 1 nm 0 0).v = .agg [.int .i64 4, .int .u64 0, .str [], .ps 4 (T6.vs [num6 1, txt6 nm])] := by simp [eidT, hz, T6.v]
      have fz := fzz (num6 1) (txt6 nm)
      have e2 : flat (T6.vs [num6 1, txt6 nm]) = [.int .i64 0, .int .u64 1, .str [], .ps 4 [], .int .i64 3, .int .u64 0, .str nm, .ps 4 []] := rfl
      rw [e2] at fz
      rw [e1]
      simp (disch := omega) [hz]
      simp (disch := omega) [freezeC]
      rw [fz _ _ (by simp [Heap.row, List.getElem?_append_right])]
      simp (disch := omega)
theorem pair1_run (t : T6) (i : Nat) (z : Int) (hz : z = i) (g : Heap) : Run T f_eid_pair_1 [.int .i64 z, .ptr 0 0] (some [anyV t] :: g) (anyV (el t i)) (some [anyV t] :: g) := by
  subst hz
  refine Run.start t_eid_pair_1 ?_
  unfold k_eid_pair_1
  have ha := at_el t i
  have r0 : Heap.row (some [anyV t] :: g) 0 = some [anyV t] := rfl
  simp (disch := omega) [At_p, ha, r0]
def pairV (t : T6) : V := if t.k = 4 ∧ t.l.length = 2 then .tup [anyV (el t 0), anyV (el t 1), .bool true] else .tup [.nili, .nili, .bool false]
theorem pair_run (t : T6) (hw : t.w ≤ 4194304) : ∃ h', Run T f_eid_pair [anyV t] [] (pairV t) h' := by
  refine Run.startE t_eid_pair ?_
  unfold k_eid_pair pairV
  have pl := fun {ks ops K e h Q d} => List_p (ks := ks) (ops := ops) (K := K) (e := e) (h := h) (Q := Q) (d := d) t hw
  have al := anys_len (asL t)
  have any1 := anyV_one t
  have anyc := anyV_cells t
  have p0 := fun {ks ops K e Q d} g => Xf_run (ks := ks) (ops := ops) (K := K) (e := e) (Q := Q) (d := d) (pair1_run t 0 0 rfl g)
  have p1 := fun {ks ops K e Q d} g => Xf_run (ks := ks) (ops := ops) (K := K) (e := e) (Q := Q) (d := d) (pair1_run t 1 1 rfl g)
  have hf : T.free f_eid_pair_1 = true := rfl
  have eL : t.k = 4 → asL t = t.l := fun k4 => by simp [asL, k4]
  generalize anys (asL t) = A at *
  generalize anyV t = X at *
  by_cases k4 : t.k = 4
  · rw [eL k4] at al
    by_cases l2 : t.l.length = 2
    · have l2' : (A.length : Int) = 2 := by omega
      have l3' : A.length = 2 := by omega
      simp (disch := first | omega | assumption) [any1, anyc, pl, k4, l2, l2', l3', p0, p1]
    · have l2' : ¬ (A.length : Int) = 2 := by omega
      have l3' : ¬ A.length = 2 := by omega
      simp (disch := first | omega | assumption) [any1, anyc, pl, k4, l2, l2', l3', p0, p1]
  · simp (disch := first | omega | assumption) [any1, anyc, pl, k4, p0, p1]
theorem pairV_hf (t : T6) : V.hf (pairV t) = true := by
  unfold pairV
  split <;> simp [anyV_hf]
def withinV (n : Int) (x : T6) : V :=
  if n = 1 ∧ x.k = 0 then .tup [eidV 1 [] (asN x) 0, .bool true] else if n = 1 ∧ x.k = 3 then .tup [eidV 1 (asS x) 0 0, .bool true]
  else if x.k = 4 ∧ x.l.length = 2 then .tup [eidV 2 [] (asN (el x 0)) (asN (el x 1)), .bool (decide ((el x 0).k = 0) && decide ((el x 1).k = 0) && decide (n = 2))] else .tup [eidV 2 [] 0 0, .bool false]
theorem within_run (n : Int) (x : T6) (hw : x.w ≤ 4194304) : ∃ h', Run T f_eid_within [.int .u64 n, anyV x] [] (withinV n x) h' := by
  obtain ⟨_, rp⟩ := pair_run x hw
  refine Run.startE t_eid_within ?_
  unfold k_eid_within withinV
  have pu := fun {ks ops K e h Q d} (t : T6) => Uint_p (ks := ks) (ops := ops) (K := K) (e := e) (h := h) (Q := Q) (d := d) t
  have pt := fun {ks ops K e h Q d} => Text_p (ks := ks) (ops := ops) (K := K) (e := e) (h := h) (Q := Q) (d := d) x
  have ha := anyV_hf x
  have hp := pairV_hf x
  have pn := fun {ks ops K e h Q d} => Uint_p (ks := ks) (ops := ops) (K := K) (e := e) (h := h) (Q := Q) (d := d) nil6
  rw [nil_any] at pn
  have nn : asN nil6 = 0 := rfl
  have nk : nil6.k = 7 := rfl
  rw [nn, nk] at pn
  have rest : ∀ {ks ops K e h Q d}, Xp T f_eid_pair (some ([anyV x], false)) h (some d) ops K ks e Q = Xo T ops K ks ((d, pairV x) :: e) h Q := fun {ks ops K e h Q d} => Xp_run rp (by simp [ha]) hp (by simp)
  by_cases c1 : n = 1
  · subst c1
    by_cases k0 : x.k = 0
    · simp (disch := first | omega | assumption) [pu, k0, eidV]
    · by_cases k3 : x.k = 3
      · simp (disch := first | omega | assumption) [pu, pt, k0, k3, eidV]
      · by_cases k4 : x.k = 4 ∧ x.l.length = 2
        · have e1 : pairV x = .tup [anyV (el x 0), anyV (el x 1), .bool true] := by unfold pairV; rw [if_pos k4]
          rw [e1] at rest
          simp (disch := first | omega | assumption) [pu, pt, k0, k3, k4.1, k4.2]
          rw [rest]
          simp (disch := first | omega | assumption) [pu, eidV]
          by_cases d0 : (el x 0).k = 0
          · by_cases d1 : (el x 1).k = 0
            · simp (disch := first | omega | assumption) [d0, d1]
            · simp (disch := first | omega | assumption) [d0, d1]
          · simp (disch := first | omega | assumption) [d0]
        · have e1 : pairV x = .tup [.nili, .nili, .bool false] := by unfold pairV; rw [if_neg k4]
          rw [e1] at rest
          rw [if_neg (by simp [k0]), if_neg (by simp [k3]), if_neg k4]
          simp (disch := first | omega | assumption) [pu, pt, k0, k3]
          rw [rest]
          simp (disch := first | omega | assumption) [pn, eidV]
  · by_cases k4 : x.k = 4 ∧ x.l.length = 2
    · have e1 : pairV x = .tup [anyV (el x 0), anyV (el x 1), .bool true] := by unfold pairV; rw [if_pos k4]
      rw [e1] at rest
      simp (disch := first | omega | assumption) [pu, pt, c1, k4.1, k4.2]
      rw [rest]
      simp (disch := first | omega | assumption) [pu, eidV]
      by_cases d0 : (el x 0).k = 0
      · by_cases d1 : (el x 1).k = 0
        · simp (disch := first | omega | assumption) [d0, d1]
        · simp (disch := first | omega | assumption) [d0, d1]
      · simp (disch := first | omega | assumption) [d0]
    · have e1 : pairV x = .tup [.nili, .nili, .bool false] := by unfold pairV; rw [if_neg k4]
      rw [e1] at rest
      rw [if_neg (by simp [c1]), if_neg (by simp [c1]), if_neg k4]
      by_cases k0 : x.k = 0
      · simp (disch := first | omega | assumption) [pu, pt, c1, k0]
        rw [rest]
        simp (disch := first | omega | assumption) [pn, eidV]
      · by_cases k3 : x.k = 3
        · simp (disch := first | omega | assumption) [pu, pt, c1, k0, k3]
          rw [rest]
          simp (disch := first | omega | assumption) [pn, eidV]
        · simp (disch := first | omega | assumption) [pu, pt, c1, k0, k3]
          rw [rest]
          simp (disch := first | omega | assumption) [pn, eidV]
def zeid : V := eidV 0 [] 0 0
/-- The endpoint of a value, or what is wrong. -/
def ofV (t : T6) : V :=
  if t.k = 4 ∧ t.l.length = 2 ∧ (el t 0).k = 0 then
    (if asN (el t 0) = 1 ∧ (el t 1).k = 0 then (if asN (el t 1) = 0 then .tup [eidV 1 [] 0 0, .int .i64 0] else .tup [zeid, .int .i64 6])
    else if asN (el t 0) = 1 ∧ (el t 1).k = 3 then (if asS (el t 1) ≠ [] ∧ rightE 1 (asS (el t 1)) 0 0 = true then .tup [eidV 1 (asS (el t 1)) 0 0, .int .i64 0] else .tup [zeid, .int .i64 6])
    else if asN (el t 0) = 2 ∧ (el t 1).k = 4 ∧ (el t 1).l.length = 2 ∧ (el (el t 1) 0).k = 0 ∧ (el (el t 1) 1).k = 0 then .tup [eidV 2 [] (asN (el (el t 1) 0)) (asN (el (el t 1) 1)), .int .i64 0]
    else .tup [zeid, .int .i64 18])
  else .tup [zeid, .int .i64 18]
theorem asS_le (t : T6) : (asS t).length ≤ t.w := by
  obtain ⟨k, n, s, l⟩ := t
  unfold asS
  split
  · rw [T6.w]; show s.length ≤ _; omega
  · simp
theorem withinV_hf (n : Int) (x : T6) : V.hf (withinV n x) = true := by
  unfold withinV
  (repeat' split) <;> simp [eid_hf]
theorem eidOf_run (t : T6) (hw : t.w ≤ 4194304) : ∃ h', Run T f_eid_Of [anyV t] [] (ofV t) h' := by
  obtain ⟨_, rp⟩ := pair_run t hw
  have xw : (el t 1).w ≤ 4194304 := el_w t 1 hw
  obtain ⟨_, rw1⟩ := within_run (asN (el t 0)) (el t 1) xw
  have sl := asS_le (el t 1)
  have hp := pairV_hf t
  have hwv := withinV_hf (asN (el t 0)) (el t 1)
  have ha := anyV_hf t
  have ha0 := anyV_hf (el t 0)
  have ha1 := anyV_hf (el t 1)
  refine Run.startE t_eid_Of ?_
  unfold k_eid_Of ofV
  have pu := fun {ks ops K e h Q d} (t : T6) => Uint_p (ks := ks) (ops := ops) (K := K) (e := e) (h := h) (Q := Q) (d := d) t
  have pt := fun {ks ops K e h Q d} => Text_p (ks := ks) (ops := ops) (K := K) (e := e) (h := h) (Q := Q) (d := d) (el t 1)
  have pn := fun {ks ops K e h Q d} => Uint_p (ks := ks) (ops := ops) (K := K) (e := e) (h := h) (Q := Q) (d := d) nil6
  rw [nil_any] at pn
  have nn : asN nil6 = 0 := rfl
  have nk : nil6.k = 7 := rfl
  rw [nn, nk] at pn
  simp (disch := first | omega | assumption)
  rw [Xp_run rp (by simp [ha]) hp (by simp)]
  by_cases c0 : ¬ (t.k = 4 ∧ t.l.length = 2)
  · have e1 : pairV t = .tup [.nili, .nili, .bool false] := by unfold pairV; rw [if_neg c0]
    rw [if_neg (fun k => c0 ⟨k.1, k.2.1⟩), e1]
    simp (disch := first | omega | assumption) [pn, zeid, eidV]
  have c1 : t.k = 4 ∧ t.l.length = 2 := Decidable.not_not.1 c0
  have e1 : pairV t = .tup [anyV (el t 0), anyV (el t 1), .bool true] := by unfold pairV; rw [if_pos c1]
  rw [e1]
  simp (disch := first | omega | assumption) [pu]
  by_cases d0' : ¬ (el t 0).k = 0
  · rw [if_neg (fun k => d0' k.2.2)]
    simp (disch := first | omega | assumption) [d0', zeid, eidV]
  have d0 : (el t 0).k = 0 := Decidable.not_not.1 d0'
  rw [if_pos ⟨c1.1, c1.2, d0⟩]
  simp (disch := first | omega | assumption) [d0]
  rw [Xp_run rw1 (by simp [ha1]) hwv (by simp)]
  unfold withinV
  by_cases c2 : asN (el t 0) = 1 ∧ (el t 1).k = 0
  · rw [if_pos c2, if_pos c2]
    simp (disch := first | omega | assumption) [eidV, pt, c2.2]
    simp only [eid_fold]
    obtain ⟨_, rr⟩ := eidRight_run 1 [] (asN (el t 1)) 0 (by simp) []
    rw [Xp_run rr (by simp [eid_hf]) rfl (by simp)]
    have es : asS (el t 1) = [] := by simp [asS, c2.2]
    by_cases c3 : asN (el t 1) = 0
    · rw [if_pos c3]
      simp (disch := first | omega | assumption) [rightE, c3, eidV]
    · rw [if_neg c3]
      simp (disch := first | omega | assumption) [rightE, c3, zeid, eidV]
  rw [if_neg c2, if_neg c2]
  by_cases c3 : asN (el t 0) = 1 ∧ (el t 1).k = 3
  · rw [if_pos c3, if_pos c3]
    simp (disch := first | omega | assumption) [eidV, pt, c3.2]
    simp only [eid_fold]
    obtain ⟨_, rr⟩ := eidRight_run 1 (asS (el t 1)) 0 0 (by omega) []
    rw [Xp_run rr (by simp [eid_hf]) rfl (by simp)]
    cases hr : rightE 1 (asS (el t 1)) 0 0 with
    | false => simp (disch := first | omega | assumption) [zeid, eidV]
    | true =>
      by_cases c4 : asS (el t 1) = []
      · simp (disch := first | omega | assumption) [c4, zeid, eidV]
      · simp (disch := first | omega | assumption) [c4, eidV]
  rw [if_neg c3, if_neg c3]
  by_cases c4 : (el t 1).k = 4 ∧ (el t 1).l.length = 2
  · rw [if_pos c4]
    by_cases c5 : asN (el t 0) = 2 ∧ (el t 1).k = 4 ∧ (el t 1).l.length = 2 ∧ (el (el t 1) 0).k = 0 ∧ (el (el t 1) 1).k = 0
    · rw [if_pos c5]
      obtain ⟨_, rr⟩ := eidRight_run 2 [] (asN (el (el t 1) 0)) (asN (el (el t 1) 1)) (by simp) []
      simp (disch := first | omega | assumption) [eidV, pt, c5.1, c5.2.1, c5.2.2.2.1, c5.2.2.2.2]
      simp only [eid_fold]
      rw [Xp_run rr (by simp [eid_hf]) rfl (by simp)]
      simp (disch := first | omega | assumption) [rightE, eidV, c5.2.1]
    · rw [if_neg c5]
      have cb : (decide ((el (el t 1) 0).k = 0) && decide ((el (el t 1) 1).k = 0) && decide (asN (el t 0) = 2)) = false := by
        cases hh : (decide ((el (el t 1) 0).k = 0) && decide ((el (el t 1) 1).k = 0) && decide (asN (el t 0) = 2)) with
        | false => rfl
        | true =>
          simp only [Bool.and_eq_true, decide_eq_true_eq] at hh
          exact absurd ⟨hh.2, c4.1, c4.2, hh.1.1, hh.1.2⟩ c5
      rw [cb]
      simp (disch := first | omega | assumption) [zeid, eidV]
  · rw [if_neg c4, if_neg (fun k => c4 ⟨k.2.1, k.2.2.1⟩)]
    simp (disch := first | omega | assumption) [zeid, eidV]
theorem ofV_hf (t : T6) : V.hf (ofV t) = true := by
  unfold ofV zeid
  (repeat' split) <;> simp [eid_hf]
structure E4 where
  sc : Int
  nm : List UInt8
  nd : Int
  sv : Int
/-- A first block. -/
structure PP where
  fl : Int
  crc : Int
  d : E4
  s : E4
  r : E4
  st : Int
  sq : Int
  life : Int
  off : Int
  tot : Int
def PP.v (p : PP) : V := .agg [.int .u64 p.fl, .int .i64 p.crc, .int .i64 p.d.sc, .str p.d.nm, .int .u64 p.d.nd, .int .u64 p.d.sv, .int .i64 p.s.sc, .str p.s.nm, .int .u64 p.s.nd, .int .u64 p.s.sv, .int .i64 p.r.sc, .str p.r.nm, .int .u64 p.r.nd, .int .u64 p.r.sv, .int .u64 p.st, .int .u64 p.sq, .int .u64 p.life, .int .u64 p.off, .int .u64 p.tot]
theorem PP.hf (p : PP) : V.hf p.v = true := by simp [PP.v]
theorem pp_fold (a b c e g i k m q s t u w : Int) (d h l : List UInt8) (x y z : Int) : V.agg [.int .u64 a, .int .i64 b, .int .i64 c, .str d, .int .u64 e, .int .u64 g, .int .i64 i, .str h, .int .u64 k, .int .u64 m, .int .i64 q, .str l, .int .u64 s, .int .u64 t, .int .u64 u, .int .u64 w, .int .u64 x, .int .u64 y, .int .u64 z] = PP.v ⟨a, b, ⟨c, d, e, g⟩, ⟨i, h, k, m⟩, ⟨q, l, s, t⟩, u, w, x, y, z⟩ := rfl
theorem wrap_nat (n : Nat) (h : n < 18446744073709551616) : IntKind.u64.wrap (n : Int) = n := by
  simp [IntKind.wrap, IntKind.bits, IntKind.signed]; omega
theorem ofInt_nat (n : Nat) (h : n < 18446744073709551616) : (BitVec.ofInt 64 (n : Int)).toNat = n := by
  rw [BitVec.toNat_ofInt]
  simp
  omega
theorem and_nat (n m : Nat) (hn : n < 18446744073709551616) (hm : m < 18446744073709551616) : IntKind.u64.wrap ↑(BitVec.ofInt IntKind.u64.bits (n : Int) &&& BitVec.ofInt IntKind.u64.bits (m : Int)).toNat = ((n &&& m : Nat) : Int) := by
  show IntKind.u64.wrap ↑(BitVec.ofInt 64 (n : Int) &&& BitVec.ofInt 64 (m : Int)).toNat = _
  rw [BitVec.toNat_and, ofInt_nat n hn, ofInt_nat m hm]
  exact wrap_nat _ (Nat.lt_of_le_of_lt Nat.and_le_left hn)
theorem and1 (n : Nat) : n &&& 1 = n % 2 := Nat.and_one_is_mod n
theorem and4 (n : Nat) : n &&& 4 = n / 4 % 2 * 4 := by
  apply Nat.eq_of_testBit_eq
  intro i
  have e4 : (4 : Nat) = 1 * 2 ^ 2 := rfl
  rw [Nat.testBit_and]
  rw [show n / 4 % 2 * 4 = (n / 2 ^ 2 % 2 ^ 1) * 2 ^ 2 from rfl, Nat.testBit_mul_two_pow, Nat.testBit_mod_two_pow, Nat.testBit_div_two_pow]
  rw [show (4 : Nat).testBit i = (decide (2 ≤ i) && (1 : Nat).testBit (i - 2)) from by rw [show (4 : Nat) = 1 * 2 ^ 2 from rfl, Nat.testBit_mul_two_pow]]
  by_cases h : 2 ≤ i
  · have e : i - 2 + 2 = i := by omega
    rw [show (1 : Nat) = 2 ^ 1 - 1 from rfl, Nat.testBit_two_pow_sub_one]
    simp [h]
    exact Bool.and_comm _ _
  · simp [h]
theorem and31 (n : Nat) : n &&& 507904 = n / 16384 % 32 * 16384 := by
  apply Nat.eq_of_testBit_eq
  intro i
  rw [Nat.testBit_and]
  rw [show n / 16384 % 32 * 16384 = (n / 2 ^ 14 % 2 ^ 5) * 2 ^ 14 from rfl, Nat.testBit_mul_two_pow, Nat.testBit_mod_two_pow, Nat.testBit_div_two_pow]
  rw [show (507904 : Nat).testBit i = (decide (14 ≤ i) && (31 : Nat).testBit (i - 14)) from by rw [show (507904 : Nat) = 31 * 2 ^ 14 from rfl, Nat.testBit_mul_two_pow]]
  by_cases h : 14 ≤ i
  · have e : i - 14 + 14 = i := by omega
    rw [show (31 : Nat) = 2 ^ 5 - 1 from rfl, Nat.testBit_two_pow_sub_one]
    simp [h]
    exact Bool.and_comm _ _
  · simp [h]
def fragB (fl : Int) : Bool := decide (fl % 2 = 1)
def wholeB (fl : Int) : Bool := decide (fl / 4 % 2 = 1)
def repB (fl : Int) : Bool := decide (fl / 16384 % 32 ≠ 0)
theorem op_and1 (q : EqK) (fl : Int) (h0 : 0 ≤ fl) (h1 : fl ≤ 18446744073709551615) : binV .and q (.int .u64 fl) (.int .u64 1) = some (.int .u64 (if fragB fl then 1 else 0)) := by
  obtain ⟨n, rfl⟩ := Int.eq_ofNat_of_zero_le h0
  have := and_nat n 1 (by omega) (by omega)
  rw [bin_and]
  rw [show ((1 : Int)) = ((1 : Nat) : Int) from rfl, this, and1]
  congr 2
  unfold fragB
  by_cases c : n % 2 = 1
  · rw [if_pos (by simp; omega)]; omega
  · rw [if_neg (by simp; omega)]; omega
theorem op_and4 (q : EqK) (fl : Int) (h0 : 0 ≤ fl) (h1 : fl ≤ 18446744073709551615) : binV .and q (.int .u64 fl) (.int .u64 4) = some (.int .u64 (if wholeB fl then 4 else 0)) := by
  obtain ⟨n, rfl⟩ := Int.eq_ofNat_of_zero_le h0
  have := and_nat n 4 (by omega) (by omega)
  rw [bin_and]
  rw [show ((4 : Int)) = ((4 : Nat) : Int) from rfl, this, and4]
  congr 2
  unfold wholeB
  by_cases c : n / 4 % 2 = 1
  · rw [if_pos (by simp; omega)]; omega
  · rw [if_neg (by simp; omega)]; omega
theorem op_and31 (q : EqK) (fl : Int) (h0 : 0 ≤ fl) (h1 : fl ≤ 18446744073709551615) : ∃ z : Int, binV .and q (.int .u64 fl) (.int .u64 507904) = some (.int .u64 z) ∧ (z = 0 ↔ repB fl = false) := by
  obtain ⟨n, rfl⟩ := Int.eq_ofNat_of_zero_le h0
  have := and_nat n 507904 (by omega) (by omega)
  refine ⟨_, by rw [bin_and, show ((507904 : Int)) = ((507904 : Nat) : Int) from rfl, this, and31], ?_⟩
  unfold repB
  simp
  omega
theorem Fragment_run (p : PP) (h0 : 0 ≤ p.fl) (h1 : p.fl ≤ 18446744073709551615) (h : Heap) : ∃ h', Run T f_primary_Fragment [p.v] h (.bool (fragB p.fl)) h' := by
  refine Run.startE t_primary_Fragment ?_
  unfold k_primary_Fragment PP.v
  have o1 := op_and1 .int p.fl h0 h1
  cases hF : fragB p.fl <;> rw [hF] at o1 <;> simp (disch := omega) [o1]
theorem Bit_run (fl w : Int) (h0 : 0 ≤ fl) (hw : 0 < w) (hw2 : w ≤ 100000) (h1 : fl ≤ 18446744073709551615) (h : Heap) : ∃ h', Run T f_ref10_Bit [.int .u64 fl, .int .u64 w] h (.bool (decide (fl / w % 2 = 1))) h' := by
  refine Run.startE t_ref10_Bit ?_
  unfold k_ref10_Bit
  have e1 : fl.tdiv w = fl / w := Int.tdiv_eq_ediv_of_nonneg h0
  have e3 : 0 ≤ fl / w := Int.ediv_nonneg h0 (by omega)
  have e4 : fl / w ≤ fl := Int.ediv_le_self _ h0
  have e5 : (fl / w).tmod 2 = fl / w % 2 := Int.tmod_eq_emod_of_nonneg e3
  have e6 : IntKind.u64.wrap (fl / w) = fl / w := by
    obtain ⟨n, hn⟩ := Int.eq_ofNat_of_zero_le e3
    rw [hn]; exact wrap_nat n (by omega)
  have hz : ¬ w = 0 := by omega
  simp (disch := omega) [e1, e5, e6, hz]
/-- What is wrong with a first block. -/
def chkP (p : PP) : Int :=
  if p.crc < 0 ∨ 2 < p.crc ∨ ¬ (rightE p.d.sc p.d.nm p.d.nd p.d.sv = true ∧ rightE p.s.sc p.s.nm p.s.nd p.s.sv = true ∧ rightE p.r.sc p.r.nm p.r.nd p.r.sv = true) ∨ 2097152 ≤ p.fl then 2
  else if (fragB p.fl = true ∧ (wholeB p.fl = true ∨ p.tot ≤ p.off)) ∨ (fragB p.fl = false ∧ (p.off ≠ 0 ∨ p.tot ≠ 0)) then 6
  else if p.s.sc = 1 ∧ p.s.nm = [] ∧ (wholeB p.fl = false ∨ fragB p.fl = true ∨ repB p.fl = true) then 6 else 0
structure PPok (p : PP) : Prop where
  f0 : 0 ≤ p.fl
  f1 : p.fl ≤ 18446744073709551615
  o0 : 0 ≤ p.off
  t0 : 0 ≤ p.tot
  n1 : p.d.nm.length ≤ 140737488351232
  n2 : p.s.nm.length ≤ 140737488351232
  n3 : p.r.nm.length ≤ 140737488351232
theorem pp_eta (p : PP) : PP.v ⟨p.fl, p.crc, ⟨p.d.sc, p.d.nm, p.d.nd, p.d.sv⟩, ⟨p.s.sc, p.s.nm, p.s.nd, p.s.sv⟩, ⟨p.r.sc, p.r.nm, p.r.nd, p.r.sv⟩, p.st, p.sq, p.life, p.off, p.tot⟩ = p.v := rfl
def badA (p : PP) : Prop := p.crc < 0 ∨ 2 < p.crc ∨ ¬ (rightE p.d.sc p.d.nm p.d.nd p.d.sv = true ∧ rightE p.s.sc p.s.nm p.s.nd p.s.sv = true ∧ rightE p.r.sc p.r.nm p.r.nd p.r.sv = true) ∨ 2097152 ≤ p.fl
def badB (p : PP) : Prop := (fragB p.fl = true ∧ (wholeB p.fl = true ∨ p.tot ≤ p.off)) ∨ (fragB p.fl = false ∧ (p.off ≠ 0 ∨ p.tot ≠ 0))
def badC (p : PP) : Prop := p.s.sc = 1 ∧ p.s.nm = [] ∧ (wholeB p.fl = false ∨ fragB p.fl = true ∨ repB p.fl = true)
theorem chk_a {p : PP} (h : badA p) : chkP p = 2 := by unfold badA at h; unfold chkP; rw [if_pos h]
theorem chk_b {p : PP} (h : ¬ badA p) (h2 : badB p) : chkP p = 6 := by unfold badA at h; unfold badB at h2; unfold chkP; rw [if_neg h, if_pos h2]
theorem chk_c {p : PP} (h : ¬ badA p) (h2 : ¬ badB p) (h3 : badC p) : chkP p = 6 := by unfold badA at h; unfold badB at h2; unfold badC at h3; unfold chkP; rw [if_neg h, if_neg h2, if_pos h3]
theorem chk_0 {p : PP} (h : ¬ badA p) (h2 : ¬ badB p) (h3 : ¬ badC p) : chkP p = 0 := by unfold badA at h; unfold badB at h2; unfold badC at h3; unfold chkP; rw [if_neg h, if_neg h2, if_neg h3]
theorem CheckP_run (p : PP) (ok : PPok p) (h : Heap) : ∃ h', Run T f_primary_Check [p.v] h (.int .i64 (chkP p)) h' := by
  obtain ⟨_, rF⟩ := Fragment_run p ok.f0 ok.f1 []
  obtain ⟨_, r1⟩ := eidRight_run p.d.sc p.d.nm p.d.nd p.d.sv ok.n1 []
  obtain ⟨_, r2⟩ := eidRight_run p.s.sc p.s.nm p.s.nd p.s.sv ok.n2 []
  obtain ⟨_, r3⟩ := eidRight_run p.r.sc p.r.nm p.r.nd p.r.sv ok.n3 []
  obtain ⟨_, rN⟩ := None_run []
  have o4 := op_and4 .int p.fl ok.f0 ok.f1
  obtain ⟨z, o31, oz⟩ := op_and31 .int p.fl ok.f0 ok.f1
  have o0 := ok.o0
  have t0 := ok.t0
  have q2 := @rightE_cases p.s.sc p.s.nm p.s.nd p.s.sv
  refine Run.startE t_primary_Check ?_
  unfold k_primary_Check PP.v
  simp (disch := omega)
  simp only [pp_fold, pp_eta]
  rw [Xp_run rF (by simp [PP.hf]) rfl (by simp)]
  simp (disch := omega)
  simp only [eid_fold]
  rw [Xp_run r1 (by simp [eid_hf]) rfl (by simp)]
  cases h1 : rightE p.d.sc p.d.nm p.d.nd p.d.sv with
  | false =>
    have e2 := chk_a (p := p) (.inr (.inr (.inl (fun k => by rw [h1] at k; cases k.1))))
    by_cases c1 : p.crc < 0
    · simp (disch := first | omega | assumption) [c1, h1, e2]
    · by_cases c2 : 2 < p.crc
      · simp (disch := first | omega | assumption) [c1, c2, h1, e2]
      · simp (disch := first | omega | assumption) [c1, c2, h1, e2]
  | true =>
    simp (disch := omega)
    simp only [eid_fold]
    rw [Xp_run r2 (by simp [eid_hf]) rfl (by simp)]
    cases h2 : rightE p.s.sc p.s.nm p.s.nd p.s.sv with
    | false =>
      have e2 := chk_a (p := p) (.inr (.inr (.inl (fun k => by rw [h2] at k; cases k.2.1))))
      by_cases c1 : p.crc < 0
      · simp (disch := first | omega | assumption) [c1, h1, e2]
      · by_cases c2 : 2 < p.crc
        · simp (disch := first | omega | assumption) [c1, c2, h1, e2]
        · simp (disch := first | omega | assumption) [c1, c2, h1, e2]
    | true =>
      simp (disch := omega)
      simp only [eid_fold]
      rw [Xp_run r3 (by simp [eid_hf]) rfl (by simp)]
      cases h3 : rightE p.r.sc p.r.nm p.r.nd p.r.sv with
      | false =>
        have e2 := chk_a (p := p) (.inr (.inr (.inl (fun k => by rw [h3] at k; cases k.2.2))))
        by_cases c1 : p.crc < 0
        · simp (disch := first | omega | assumption) [c1, h1, e2]
        · by_cases c2 : 2 < p.crc
          · simp (disch := first | omega | assumption) [c1, c2, h1, e2]
          · simp (disch := first | omega | assumption) [c1, c2, h1, e2]
      | true =>
        by_cases c1 : p.crc < 0
        · have e2 := chk_a (p := p) (.inl c1)
          simp (disch := first | omega | assumption) [c1, e2]
        by_cases c2 : 2 < p.crc
        · have e2 := chk_a (p := p) (.inr (.inl c2))
          simp (disch := first | omega | assumption) [c1, c2, e2]
        by_cases c3 : 2097152 ≤ p.fl
        · have e2 := chk_a (p := p) (.inr (.inr (.inr c3)))
          simp (disch := first | omega | assumption) [c1, c2, c3, e2]
        have nA : ¬ badA p := fun k => by rcases k with k | k | k | k; exact c1 k; exact c2 k; exact k ⟨h1, h2, h3⟩; exact c3 k
        simp (disch := first | omega | assumption) [c1, c2, c3]
        have q2 := q2 h2
        cases hF : fragB p.fl with
        | true =>
          cases hW : wholeB p.fl with
          | true =>
            have e2 := chk_b nA (.inl ⟨hF, .inl hW⟩)
            rw [hW] at o4
            simp (disch := first | omega | assumption) [o4, e2]
          | false =>
            rw [hW] at o4
            by_cases c4 : p.tot ≤ p.off
            · have e2 := chk_b nA (.inl ⟨hF, .inr c4⟩)
              simp (disch := first | omega | assumption) [o4, c4, e2]
            · have nB : ¬ badB p := fun k => by rcases k with k | k; rcases k.2 with k | k; rw [hW] at k; cases k; exact c4 k; rw [hF] at k; cases k.1
              simp (disch := first | omega | assumption) [o4, c4]
              rw [Xp_run rN (by simp) (by simp [eidV]) (by simp)]
              by_cases c5 : p.s.sc = 1 ∧ p.s.nm = []
              · have e2 := chk_c nA nB ⟨c5.1, c5.2, .inl hW⟩
                rcases q2 with q | q
                · omega
                · simp (disch := first | omega | assumption) [eidV, c5.1, c5.2, q.2.1, q.2.2.1, o4, e2]
              · have e2 := chk_0 nA nB (fun k => c5 ⟨k.1, k.2.1⟩)
                by_cases c6 : p.s.sc = 1
                · have c7 : ¬ p.s.nm = [] := fun k => c5 ⟨c6, k⟩
                  simp (disch := first | omega | assumption) [eidV, c6, c7, e2]
                · simp (disch := first | omega | assumption) [eidV, c6, e2]
        | false =>
          by_cases c4 : p.off = 0
          · by_cases c5 : p.tot = 0
            · have nB : ¬ badB p := fun k => by rcases k with k | k; rw [hF] at k; cases k.1; rcases k.2 with k | k; exact k c4; exact k c5
              simp (disch := first | omega | assumption) [c4, c5]
              rw [Xp_run rN (by simp) (by simp [eidV]) (by simp)]
              by_cases c6 : p.s.sc = 1 ∧ p.s.nm = []
              · rcases q2 with q | q
                · omega
                · cases hW : wholeB p.fl with
                  | false =>
                    have e2 := chk_c nA nB ⟨c6.1, c6.2, .inl hW⟩
                    rw [hW] at o4
                    simp (disch := first | omega | assumption) [eidV, c6.1, c6.2, q.2.1, q.2.2.1, o4, e2]
                  | true =>
                    rw [hW] at o4
                    cases hR : repB p.fl with
                    | true =>
                      have zz : ¬ z = 0 := fun k => by have := oz.1 k; rw [hR] at this; cases this
                      have e2 := chk_c nA nB ⟨c6.1, c6.2, .inr (.inr hR)⟩
                      simp (disch := first | omega | assumption) [eidV, c6.1, c6.2, q.2.1, q.2.2.1, o4, o31, zz, e2]
                    | false =>
                      have zz : z = 0 := oz.2 hR
                      have e2 := chk_0 nA nB (fun k => by rcases k.2.2 with k | k | k; rw [hW] at k; cases k; rw [hF] at k; cases k; rw [hR] at k; cases k)
                      simp (disch := first | omega | assumption) [eidV, c6.1, c6.2, q.2.1, q.2.2.1, o4, o31, zz, e2]
              · have e2 := chk_0 nA nB (fun k => c6 ⟨k.1, k.2.1⟩)
                by_cases c7 : p.s.sc = 1
                · have c8 : ¬ p.s.nm = [] := fun k => c6 ⟨c7, k⟩
                  simp (disch := first | omega | assumption) [eidV, c7, c8, e2]
                · simp (disch := first | omega | assumption) [eidV, c7, e2]
            · have e2 := chk_b nA (.inr ⟨hF, .inr c5⟩)
              simp (disch := first | omega | assumption) [c4, c5, e2]
          · have e2 := chk_b nA (.inr ⟨hF, .inl c4⟩)
            simp (disch := first | omega | assumption) [c4, e2]
theorem CheckR_run (p : PP) (ok : PPok p) (h : Heap) : ∃ h', Run T f_ref10_Check [p.v] h (.int .i64 (chkP p)) h' := by
  obtain ⟨_, r1⟩ := R7Right_run p.d.sc p.d.nm p.d.nd p.d.sv ok.n1 []
  obtain ⟨_, r2⟩ := R7Right_run p.s.sc p.s.nm p.s.nd p.s.sv ok.n2 []
  obtain ⟨_, r3⟩ := R7Right_run p.r.sc p.r.nm p.r.nd p.r.sv ok.n3 []
  obtain ⟨_, b1⟩ := Bit_run p.fl 1 ok.f0 (by omega) (by omega) ok.f1 []
  obtain ⟨_, b4⟩ := Bit_run p.fl 4 ok.f0 (by omega) (by omega) ok.f1 []
  rw [Int.ediv_one] at b1
  have eF : decide (p.fl % 2 = 1) = fragB p.fl := rfl
  have eW : decide (p.fl / 4 % 2 = 1) = wholeB p.fl := rfl
  rw [eF] at b1
  rw [eW] at b4
  have f0 := ok.f0
  have f1 := ok.f1
  have o0 := ok.o0
  have t0 := ok.t0
  have e1 : p.fl.tdiv 16384 = p.fl / 16384 := Int.tdiv_eq_ediv_of_nonneg ok.f0
  have e5 : (p.fl / 16384).tmod 32 = p.fl / 16384 % 32 := Int.tmod_eq_emod_of_nonneg (by omega)
  have e6 : IntKind.u64.wrap (p.fl / 16384) = p.fl / 16384 := by
    obtain ⟨n, hn⟩ := Int.eq_ofNat_of_zero_le (show 0 ≤ p.fl / 16384 by omega)
    rw [hn]; exact wrap_nat n (by omega)
  refine Run.startE t_ref10_Check ?_
  unfold k_ref10_Check PP.v
  by_cases c1 : p.crc < 0
  · have e2 := chk_a (p := p) (.inl c1)
    simp (disch := first | omega | assumption) [c1, e2]
  by_cases c2 : 2 < p.crc
  · have e2 := chk_a (p := p) (.inr (.inl c2))
    simp (disch := first | omega | assumption) [c1, c2, e2]
  simp (disch := first | omega | assumption) [c1, c2]
  simp only [eid_fold]
  rw [Xp_run r1 (by simp [eid_hf]) rfl (by simp)]
  cases h1 : rightE p.d.sc p.d.nm p.d.nd p.d.sv with
  | false =>
    have e2 := chk_a (p := p) (.inr (.inr (.inl (fun k => by rw [h1] at k; cases k.1))))
    simp (disch := first | omega | assumption) [e2]
  | true =>
    simp (disch := first | omega | assumption)
    simp only [eid_fold]
    rw [Xp_run r2 (by simp [eid_hf]) rfl (by simp)]
    cases h2 : rightE p.s.sc p.s.nm p.s.nd p.s.sv with
    | false =>
      have e2 := chk_a (p := p) (.inr (.inr (.inl (fun k => by rw [h2] at k; cases k.2.1))))
      simp (disch := first | omega | assumption) [e2]
    | true =>
      simp (disch := first | omega | assumption)
      simp only [eid_fold]
      rw [Xp_run r3 (by simp [eid_hf]) rfl (by simp)]
      cases h3 : rightE p.r.sc p.r.nm p.r.nd p.r.sv with
      | false =>
        have e2 := chk_a (p := p) (.inr (.inr (.inl (fun k => by rw [h3] at k; cases k.2.2))))
        simp (disch := first | omega | assumption) [e2]
      | true =>
        by_cases c3 : 2097152 ≤ p.fl
        · have e2 := chk_a (p := p) (.inr (.inr (.inr c3)))
          simp (disch := first | omega | assumption) [c3, e2]
        have nA : ¬ badA p := fun k => by rcases k with k | k | k | k; exact c1 k; exact c2 k; exact k ⟨h1, h2, h3⟩; exact c3 k
        simp (disch := first | omega | assumption) [c3]
        rw [Xp_run b1 (by simp) rfl (by simp)]
        simp (disch := first | omega | assumption)
        rw [Xp_run b4 (by simp) rfl (by simp)]
        simp (disch := first | omega | assumption)
        have last : ¬ badB p → (wholeB p.fl = false ∨ fragB p.fl = true ∨ repB p.fl = true) → p.s.sc = 1 → p.s.nm = [] → chkP p = 6 := fun nB k a b => chk_c nA nB ⟨a, b, k⟩
        have last0 : ¬ badB p → ¬ (wholeB p.fl = false ∨ fragB p.fl = true ∨ repB p.fl = true) → chkP p = 0 := fun nB k => chk_0 nA nB (fun q => k q.2.2)
        have last1 : ¬ badB p → ¬ (p.s.sc = 1 ∧ p.s.nm = []) → chkP p = 0 := fun nB k => chk_0 nA nB (fun q => k ⟨q.1, q.2.1⟩)
        cases hF : fragB p.fl with
        | true =>
          cases hW : wholeB p.fl with
          | true =>
            have e2 := chk_b nA (.inl ⟨hF, .inl hW⟩)
            simp (disch := first | omega | assumption) [e2]
          | false =>
            by_cases c4 : p.tot ≤ p.off
            · have e2 := chk_b nA (.inl ⟨hF, .inr c4⟩)
              simp (disch := first | omega | assumption) [c4, e2]
            · have nB : ¬ badB p := fun k => by rcases k with k | k; rcases k.2 with k | k; rw [hW] at k; cases k; exact c4 k; rw [hF] at k; cases k.1
              by_cases c5 : p.s.sc = 1
              · by_cases c6 : p.s.nm = []
                · have e2 := last nB (.inl hW) c5 c6
                  simp (disch := first | omega | assumption) [c4, c5, c6, e2]
                · have e2 := last1 nB (fun k => c6 k.2)
                  simp (disch := first | omega | assumption) [c4, c5, c6, e2]
              · have e2 := last1 nB (fun k => c5 k.1)
                simp (disch := first | omega | assumption) [c4, c5, e2]
        | false =>
          by_cases c4 : p.off = 0
          · have c4' : ¬ 0 < p.off := by omega
            by_cases c5 : p.tot = 0
            · have c5' : ¬ 0 < p.tot := by omega
              have nB : ¬ badB p := fun k => by rcases k with k | k; rw [hF] at k; cases k.1; rcases k.2 with k | k; exact k c4; exact k c5
              by_cases c6 : p.s.sc = 1
              · by_cases c7 : p.s.nm = []
                · cases hW : wholeB p.fl with
                  | false =>
                    have e2 := last nB (.inl hW) c6 c7
                    simp (disch := first | omega | assumption) [c4, c5, c6, c7, e2]
                  | true =>
                    by_cases hR : p.fl / 16384 % 32 = 0
                    · have hR2 : repB p.fl = false := by simp [repB, hR]
                      have e2 := last0 nB (fun k => by rcases k with k | k | k; rw [hW] at k; cases k; rw [hF] at k; cases k; rw [hR2] at k; cases k)
                      simp (disch := first | omega | assumption) [c4, c5, c6, c7, e1, e5, e6, hR, e2]
                    · have hR2 : repB p.fl = true := by simp [repB, hR]
                      have e2 := last nB (.inr (.inr hR2)) c6 c7
                      simp (disch := first | omega | assumption) [c4, c5, c6, c7, e1, e5, e6, hR, e2]
                · have e2 := last1 nB (fun k => c7 k.2)
                  simp (disch := first | omega | assumption) [c4, c5, c6, c7, e2]
              · have e2 := last1 nB (fun k => c6 k.1)
                simp (disch := first | omega | assumption) [c4, c5, c6, e2]
            · have c5' : 0 < p.tot := by omega
              have e2 := chk_b nA (.inr ⟨hF, .inr c5⟩)
              simp (disch := first | omega | assumption) [c4, c5, c5', e2]
          · have c4' : 0 < p.off := by omega
            have e2 := chk_b nA (.inr ⟨hF, .inl c4⟩)
            simp (disch := first | omega | assumption) [c4, c4', e2]
def stT (a b : Int) : T6 := node [num6 a, num6 b]
def primL8 (p : PP) : List T6 := [num6 7, num6 p.fl, num6 p.crc, eidT p.d.sc p.d.nm p.d.nd p.d.sv, eidT p.s.sc p.s.nm p.s.nd p.s.sv, eidT p.r.sc p.r.nm p.r.nd p.r.sv, stT p.st p.sq, num6 p.life]
/-- A first block's values. -/
def primL (p : PP) : List T6 := primL8 p ++ (if fragB p.fl then [num6 p.off, num6 p.tot] else [])
/-- A list with its sum. -/
def refL (l : List T6) (k : Nat) : T6 := if k = 0 then node l else node (l ++ [byt6 (sumB k (enc (node (l ++ [byt6 (List.replicate (widthN k) 0)]))))])
theorem encRefL (l : List T6) (k : Nat) (hk : k ≠ 0) : sealB l k = enc (refL l k) := by unfold refL; rw [if_neg hk]; rfl
theorem SealL_run (l : List T6) (k : Nat) (h : Heap) (hl : GoodL l) (hk : k ≤ 2) : ∃ h', Run T f_block_Seal [.ps 1 (anys l), .int .i64 k] h (.tup [.ps 1 (bys (enc (refL l k))), .int .i64 0]) h' := by
  by_cases c : k = 0
  · subst c; exact Seal0_run l h hl
  · rw [← encRefL l k c]; exact Seal_run l k h hl (by omega)
theorem R9SealL_run (l : List T6) (k : Nat) (h : Heap) (hl : GoodL l) (hk : k ≤ 2) : ∃ h', Run T f_ref09_Seal [.ps 4 (T6.vs l), .int .i64 k] h (refL l k).v h' := by
  unfold refL
  by_cases c : k = 0
  · subst c; rw [if_pos rfl]; exact R9Seal0_run l h hl
  · rw [if_neg c]; exact R9Seal_run l k h hl (by omega)
theorem refL_good {l : List T6} {k : Nat} (hl : GoodL l) (hk : k ≤ 2) : Good (refL l k) := by
  unfold refL
  by_cases c : k = 0
  · rw [if_pos c]; exact hl.node
  · rw [if_neg c]
    have := widthN_le k
    exact hl.snoc _ (by rw [sumB_len]; omega)
theorem stampValue_run (a b : Int) (h : Heap) : ∃ h', Run T f_stamp_Value [.agg [.int .u64 a, .int .u64 b]] h (anyV (stT a b)) h' := by
  refine Run.startE t_stamp_Value ?_
  unfold k_stamp_Value
  simp (disch := omega) [stT, anyV, anys]
theorem row_app2 {H t : Heap} {b : Nat} (h : b < H.length) : Heap.row (H ++ t) b = Heap.row H b := by
  simp [Heap.row, List.getElem?_append_left h]
def E4.cells (e : E4) : List V := [.int .i64 e.sc, .str e.nm, .int .u64 e.nd, .int .u64 e.sv]
theorem Put1_run (e : E4) (hs : e.nm.length ≤ 140737488351232) (hr : rightE e.sc e.nm e.nd e.sv = true) (H : Heap) (b c n : Nat) (L : List V) (hb : H.row b = some [.hs 1 c 0 n]) (hc : H.row c = some L) (hl : L.length = n) (hn : n ≤ 1000) (hbl : b < H.length) (hcl : c < H.length) (hne : b ≠ c) :
    Run T f_primary_Put_1 [eidV e.sc e.nm e.nd e.sv, .ptr b 0] H (.tup []) (((H ++ [some e.cells]).set c none ++ [some (L ++ [anyV (eidT e.sc e.nm e.nd e.sv)])]).set b (some [.hs 1 (H.length + 1) 0 (n + 1)])) := by
  obtain ⟨_, r1⟩ := eidValue_run e.sc e.nm e.nd e.sv hs hr []
  have ah := anyV_hf (eidT e.sc e.nm e.nd e.sv)
  have ac := anyV_cells (eidT e.sc e.nm e.nd e.sv)
  have ao := anyV_one (eidT e.sc e.nm e.nd e.sv)
  generalize anyV (eidT e.sc e.nm e.nd e.sv) = X at *
  refine Run.start t_primary_Put_1 ?_
  unfold k_primary_Put_1 eidV E4.cells
  have q1 : ∀ t : Heap, Heap.row (H ++ t) b = some [.hs 1 c 0 n] := fun t => by rw [row_app2 hbl]; exact hb
  have q2 : ∀ t : Heap, Heap.row (H ++ t) c = some L := fun t => by rw [row_app2 hcl]; exact hc
  simp (disch := omega)
  simp only [eid_fold]
  rw [Xp_run r1 (by simp [eid_hf]) (by simp [ah]) (by simp)]
  simp (disch := first | omega | assumption) [q1, q2, ac, ao]
  have q3 : ∀ t : Heap, Heap.row (List.set H c none ++ t) b = some [.hs 1 c 0 n] := fun t => by
    rw [row_app2 (by simpa using hbl)]
    unfold Heap.row
    rw [List.getElem?_set_ne (fun k => hne k.symm)]
    exact hb
  simp (disch := first | omega | assumption) [q3]
theorem chk0_spec {p : PP} (h : chkP p = 0) : 0 ≤ p.crc ∧ p.crc ≤ 2 ∧ rightE p.d.sc p.d.nm p.d.nd p.d.sv = true ∧ rightE p.s.sc p.s.nm p.s.nd p.s.sv = true ∧ rightE p.r.sc p.r.nm p.r.nd p.r.sv = true := by
  unfold chkP at h
  split at h
  · cases h
  · rename_i c
    have c1 : ¬ p.crc < 0 := fun k => c (.inl k)
    have c2 : ¬ 2 < p.crc := fun k => c (.inr (.inl k))
    have c3 := Decidable.not_not.1 (fun k => c (.inr (.inr (.inl k))))
    exact ⟨by omega, by omega, c3.1, c3.2.1, c3.2.2⟩
theorem primL8_any (p : PP) : anys (primL8 p) = [.iface 22 (.int .u64 7), .iface 22 (.int .u64 p.fl), .iface 22 (.int .u64 p.crc), anyV (eidT p.d.sc p.d.nm p.d.nd p.d.sv), anyV (eidT p.s.sc p.s.nm p.s.nd p.s.sv), anyV (eidT p.r.sc p.r.nm p.r.nd p.r.sv), anyV (stT p.st p.sq), .iface 22 (.int .u64 p.life)] := rfl
theorem PutP_run (p : PP) (ok : PPok p) (hc : chkP p = 0) (hl : GoodL (primL p)) : ∃ h', Run T f_primary_Put [p.v] [] (.tup [.ps 1 (bys (enc (refL (primL p) p.crc.toNat))), .int .i64 0]) h' := by
  obtain ⟨k0, k2, h1, h2, h3⟩ := chk0_spec hc
  obtain ⟨_, r1⟩ := CheckP_run p ok []
  rw [hc] at r1
  obtain ⟨k, hk⟩ := Int.eq_ofNat_of_zero_le k0
  have ek : p.crc.toNat = k := by omega
  rw [ek]
  obtain ⟨_, rS⟩ := SealL_run (primL p) k [] hl (by omega)
  obtain ⟨_, rF⟩ := Fragment_run p ok.f0 ok.f1 []
  obtain ⟨_, rT⟩ := stampValue_run p.st p.sq []
  have hf : T.free f_primary_Put_1 = true := rfl
  refine Run.startE t_primary_Put ?_
  unfold k_primary_Put PP.v
  simp (disch := omega)
  simp only [pp_fold, pp_eta]
  rw [Xp_run r1 (by simp [PP.hf]) rfl (by simp)]
  simp (disch := omega)
  simp only [eid_fold]
  have ew : IntKind.u64.wrap p.crc = p.crc := by rw [hk]; exact wrap_nat k (by omega)
  rw [Xf_run (Put1_run p.d ok.n1 h1 _ 2 1 3 [.iface 22 (.int .u64 7), .iface 22 (.int .u64 p.fl), .iface 22 (.int .u64 p.crc)] rfl rfl rfl (by omega) (by simp) (by simp) (by omega))]
  have a1 := anyV_one (eidT p.d.sc p.d.nm p.d.nd p.d.sv)
  have a2 := anyV_one (eidT p.s.sc p.s.nm p.s.nd p.s.sv)
  have a3 := anyV_one (eidT p.r.sc p.r.nm p.r.nd p.r.sv)
  have a4 := anyV_one (stT p.st p.sq)
  have a5 := anyV_cells (stT p.st p.sq)
  have a6 := anyV_hf (stT p.st p.sq)
  have lA : primL p = primL8 p ++ (if fragB p.fl then [num6 p.off, num6 p.tot] else []) := rfl
  have l8 := primL8_any p
  simp (disch := omega) [E4.cells]
  simp only [eid_fold]
  rw [Xf_run (Put1_run p.s ok.n2 h2 _ 2 4 4 [.iface 22 (.int .u64 7), .iface 22 (.int .u64 p.fl), .iface 22 (.int .u64 p.crc), anyV (eidT p.d.sc p.d.nm p.d.nd p.d.sv)] rfl rfl rfl (by omega) (by simp) (by simp) (by omega))]
  simp (disch := omega) [E4.cells]
  simp only [eid_fold]
  rw [Xf_run (Put1_run p.r ok.n3 h3 _ 2 6 5 [.iface 22 (.int .u64 7), .iface 22 (.int .u64 p.fl), .iface 22 (.int .u64 p.crc), anyV (eidT p.d.sc p.d.nm p.d.nd p.d.sv), anyV (eidT p.s.sc p.s.nm p.s.nd p.s.sv)] rfl rfl rfl (by omega) (by simp) (by simp) (by omega))]
  simp (disch := omega) [E4.cells]
  rw [Xp_run rT (by simp) (by simp [a6]) (by simp)]
  simp (disch := omega) [a4, a5]
  simp only [pp_fold, pp_eta]
  rw [Xp_run rF (by simp [PP.hf]) rfl (by simp)]
  cases hF : fragB p.fl with
  | false =>
    rw [hF] at lA
    simp only [Bool.false_eq_true, if_false, List.append_nil] at lA
    rw [lA] at rS ⊢
    rw [l8] at rS
    have a7 := anyV_hf (eidT p.d.sc p.d.nm p.d.nd p.d.sv)
    have a8 := anyV_hf (eidT p.s.sc p.s.nm p.s.nd p.s.sv)
    have a9 := anyV_hf (eidT p.r.sc p.r.nm p.r.nd p.r.sv)
    have fz : ∀ H : Heap, H.row 9 = some [V.iface 22 (.int .u64 7), .iface 22 (.int .u64 p.fl), .iface 22 (.int .u64 p.crc), anyV (eidT p.d.sc p.d.nm p.d.nd p.d.sv), anyV (eidT p.s.sc p.s.nm p.s.nd p.s.sv), anyV (eidT p.r.sc p.r.nm p.r.nd p.r.sv), anyV (stT p.st p.sq), .iface 22 (.int .u64 p.life)] → freeze1 false (.hs 1 9 0 8) H = some (.ps 1 [V.iface 22 (.int .u64 7), .iface 22 (.int .u64 p.fl), .iface 22 (.int .u64 p.crc), anyV (eidT p.d.sc p.d.nm p.d.nd p.d.sv), anyV (eidT p.s.sc p.s.nm p.s.nd p.s.sv), anyV (eidT p.r.sc p.r.nm p.r.nd p.r.sv), anyV (stT p.st p.sq), .iface 22 (.int .u64 p.life)], H.set 9 none) := fun H hr => freeze_hs hr (by simp [a1, a2, a3, a4])
    simp (disch := omega)
    rw [fz _ rfl]
    simp (disch := omega)
    rw [← hk] at rS
    rw [Xp_run rS (by simp [a6, a7, a8, a9]) (by simp [bys_hfs]) (by simp)]
    simp (disch := omega)
  | true =>
    rw [hF] at lA
    simp only [if_true] at lA
    rw [lA] at rS ⊢
    rw [anys_app, l8] at rS
    have l2 : anys [num6 p.off, num6 p.tot] = [.iface 22 (.int .u64 p.off), .iface 22 (.int .u64 p.tot)] := rfl
    rw [l2] at rS
    have a7 := anyV_hf (eidT p.d.sc p.d.nm p.d.nd p.d.sv)
    have a8 := anyV_hf (eidT p.s.sc p.s.nm p.s.nd p.s.sv)
    have a9 := anyV_hf (eidT p.r.sc p.r.nm p.r.nd p.r.sv)
    simp only [List.cons_append, List.nil_append] at rS
    have fz : ∀ H : Heap, H.row 10 = some [V.iface 22 (.int .u64 7), .iface 22 (.int .u64 p.fl), .iface 22 (.int .u64 p.crc), anyV (eidT p.d.sc p.d.nm p.d.nd p.d.sv), anyV (eidT p.s.sc p.s.nm p.s.nd p.s.sv), anyV (eidT p.r.sc p.r.nm p.r.nd p.r.sv), anyV (stT p.st p.sq), .iface 22 (.int .u64 p.life), .iface 22 (.int .u64 p.off), .iface 22 (.int .u64 p.tot)] → freeze1 false (.hs 1 10 0 10) H = some (.ps 1 [V.iface 22 (.int .u64 7), .iface 22 (.int .u64 p.fl), .iface 22 (.int .u64 p.crc), anyV (eidT p.d.sc p.d.nm p.d.nd p.d.sv), anyV (eidT p.s.sc p.s.nm p.s.nd p.s.sv), anyV (eidT p.r.sc p.r.nm p.r.nd p.r.sv), anyV (stT p.st p.sq), .iface 22 (.int .u64 p.life), .iface 22 (.int .u64 p.off), .iface 22 (.int .u64 p.tot)], H.set 10 none) := fun H hr => freeze_hs hr (by simp [a1, a2, a3, a4])
    simp (disch := omega)
    rw [fz _ rfl]
    simp (disch := omega)
    rw [← hk] at rS
    rw [Xp_run rS (by simp [a6, a7, a8, a9]) (by simp [bys_hfs]) (by simp)]
    simp (disch := omega)
theorem R10Value_run (p : PP) (ok : PPok p) (k : Nat) (hk : p.crc = k) (hk2 : k ≤ 2) (h1 : rightE p.d.sc p.d.nm p.d.nd p.d.sv = true) (h2 : rightE p.s.sc p.s.nm p.s.nd p.s.sv = true) (h3 : rightE p.r.sc p.r.nm p.r.nd p.r.sv = true) (hl : GoodL (primL p)) :
    ∃ h', Run T f_ref10_Value [p.v] [] (refL (primL p) k).v h' := by
  obtain ⟨_, r1⟩ := R7Value_run p.d.sc p.d.nm p.d.nd p.d.sv ok.n1 h1 []
  obtain ⟨_, r2⟩ := R7Value_run p.s.sc p.s.nm p.s.nd p.s.sv ok.n2 h2 []
  obtain ⟨_, r3⟩ := R7Value_run p.r.sc p.r.nm p.r.nd p.r.sv ok.n3 h3 []
  obtain ⟨_, b1⟩ := Bit_run p.fl 1 ok.f0 (by omega) (by omega) ok.f1 []
  rw [Int.ediv_one] at b1
  have eF : decide (p.fl % 2 = 1) = fragB p.fl := rfl
  rw [eF] at b1
  obtain ⟨_, rS⟩ := R9SealL_run (primL p) k [] hl hk2
  have q1 := T6.v_hf (eidT p.d.sc p.d.nm p.d.nd p.d.sv)
  have q2 := T6.v_hf (eidT p.s.sc p.s.nm p.s.nd p.s.sv)
  have q3 := T6.v_hf (eidT p.r.sc p.r.nm p.r.nd p.r.sv)
  have w1 := T6.cells_len (eidT p.d.sc p.d.nm p.d.nd p.d.sv)
  have w2 := T6.cells_len (eidT p.s.sc p.s.nm p.s.nd p.s.sv)
  have w3 := T6.cells_len (eidT p.r.sc p.r.nm p.r.nd p.r.sv)
  have ve := v_eq (refL (primL p) k)
  have vh := T6.v_hf (refL (primL p) k)
  have one4 : ∀ t : T6, ∀ x ∈ t.v.cells, x.one = true := fun t => by rw [v_eq]; simp
  have o1 := one4 (eidT p.d.sc p.d.nm p.d.nd p.d.sv)
  have o2 := one4 (eidT p.s.sc p.s.nm p.s.nd p.s.sv)
  have o3 := one4 (eidT p.r.sc p.r.nm p.r.nd p.r.sv)
  have lA : primL p = primL8 p ++ (if fragB p.fl then [num6 p.off, num6 p.tot] else []) := rfl
  have l8 : T6.vs (primL8 p) = [.agg [.int .i64 0, .int .u64 7, .str [], .ps 4 []], .agg [.int .i64 0, .int .u64 p.fl, .str [], .ps 4 []], .agg [.int .i64 0, .int .u64 p.crc, .str [], .ps 4 []], (eidT p.d.sc p.d.nm p.d.nd p.d.sv).v, (eidT p.s.sc p.s.nm p.s.nd p.s.sv).v, (eidT p.r.sc p.r.nm p.r.nd p.r.sv).v, .agg [.int .i64 4, .int .u64 0, .str [], .ps 4 [.agg [.int .i64 0, .int .u64 p.st, .str [], .ps 4 []], .agg [.int .i64 0, .int .u64 p.sq, .str [], .ps 4 []]]], .agg [.int .i64 0, .int .u64 p.life, .str [], .ps 4 []]] := rfl
  have rS' := rS
  generalize (eidT p.d.sc p.d.nm p.d.nd p.d.sv).v = X1 at *
  generalize (eidT p.s.sc p.s.nm p.s.nd p.s.sv).v = X2 at *
  generalize (eidT p.r.sc p.r.nm p.r.nd p.r.sv).v = X3 at *
  refine Run.startE t_ref10_Value ?_
  unfold k_ref10_Value PP.v
  have ek : IntKind.u64.wrap p.crc = p.crc := by rw [hk]; exact wrap_nat k (by omega)
  simp (disch := omega)
  simp only [eid_fold]
  rw [Xp_run r1 (by simp [eid_hf]) q1 (by simp)]
  simp (disch := omega)
  simp only [eid_fold]
  rw [Xp_run r2 (by simp [eid_hf]) q2 (by simp)]
  simp (disch := omega)
  simp only [eid_fold]
  rw [Xp_run r3 (by simp [eid_hf]) q3 (by simp)]
  simp (disch := first | omega | assumption) [w1, w2, w3, o1, o2, o3]
  rw [if_pos ⟨o1, o2, o3⟩]
  simp (disch := omega)
  rw [Xp_run b1 (by simp) rfl (by simp)]
  have qS : V.hfs [V.agg [.int .i64 0, .int .u64 p.st, .str [], .ps 4 []], .agg [.int .i64 0, .int .u64 p.sq, .str [], .ps 4 []]] = true := rfl
  cases hF : fragB p.fl with
  | false =>
    rw [hF] at lA
    simp only [Bool.false_eq_true, if_false, List.append_nil] at lA
    rw [lA] at rS vh ve ⊢
    rw [l8, ← hk] at rS
    simp (disch := omega)
    rw [Xp_run rS (by simp [q1, q2, q3]) vh (by simp)]
    rw [ve]
    simp (disch := omega)
  | true =>
    rw [hF] at lA
    simp only [if_true] at lA
    rw [lA] at rS vh ve ⊢
    rw [vs_app, l8, ← hk] at rS
    have l2 : T6.vs [num6 p.off, num6 p.tot] = [.agg [.int .i64 0, .int .u64 p.off, .str [], .ps 4 []], .agg [.int .i64 0, .int .u64 p.tot, .str [], .ps 4 []]] := rfl
    rw [l2] at rS
    simp only [List.cons_append, List.nil_append] at rS
    simp (disch := omega)
    rw [Xp_run rS (by simp [q1, q2, q3]) vh (by simp)]
    rw [ve]
    simp (disch := omega)
def u64B (n : Int) : Prop := 0 ≤ n ∧ n ≤ 18446744073709551615
theorem u0 : u64B 0 := ⟨by omega, by omega⟩
structure E4.B (e : E4) : Prop where
  nd : u64B e.nd
  sv : u64B e.sv
  r : rightE e.sc e.nm e.nd e.sv = true
structure PPB (p : PP) : Prop where
  fl : u64B p.fl
  c0 : 0 ≤ p.crc
  c2 : p.crc ≤ 2
  d : p.d.B
  s : p.s.B
  r : p.r.B
  st : u64B p.st
  sq : u64B p.sq
  life : u64B p.life
  off : u64B p.off
  tot : u64B p.tot
theorem plain_valid (s : List UInt8) (h : plainS s = true) : valid s = true := by
  have : Asc s.length s := by
    intro i hi
    have := List.all_eq_true.1 h s[i] (List.getElem_mem hi)
    simp only [plainB, Bool.and_eq_true, decide_eq_true_eq] at this
    rw [List.getD_eq_getElem?_getD, List.getElem?_eq_getElem hi]
    simp only [Option.getD_some]
    omega
  rw [← valid_asc s.length s (Nat.le_refl _) this, List.drop_length]
  exact valid_nil
theorem named_len {s : List UInt8} (h : namedS s = true) : s.length ≤ 64 ∧ plainS s = true := by
  simp only [namedS, Bool.and_eq_true, decide_eq_true_eq] at h
  exact ⟨h.1.1.2, h.2⟩
structure Small (l : List T6) (a b c : Nat) : Prop where
  w : T6.ws l ≤ a
  ok : T6.oks l
  r : rgts l = true
  d : dps l ≤ b
  c : cnts l ≤ c
theorem Small.app {l m : List T6} {a b c a' b' c' : Nat} (h : Small l a b c) (k : Small m a' b' c') : Small (l ++ m) (a + a') (max b b') (c + c') where
  w := by have := h.w; have := k.w; rw [ws_app]; omega
  ok := (oks_app _ _).2 ⟨h.ok, k.ok⟩
  r := by rw [rgts_app, h.r, k.r]; rfl
  d := by have := h.d; have := k.d; rw [dps_app]; omega
  c := by have := h.c; have := k.c; rw [cnts_app]; omega
theorem small_num {n : Int} (h : u64B n) : Small [num6 n] 1 1 1 where
  w := by simp [T6.ws, T6.w]
  ok := ⟨⟨by omega, h, by simp, trivial⟩, trivial⟩
  r := by simp [rgts, rgt]
  d := by simp [dps, dp]; omega
  c := by simp [cnts, cnt]
theorem Small.node {l : List T6} {a b c : Nat} (h : Small l a b c) : Small [Ev.node l] (a + 1) (b + 1) (c + 1) where
  w := by have := h.w; simp only [T6.ws, T6.w, List.length_nil]; omega
  ok := ⟨⟨by omega, by omega, by simp, h.ok⟩, trivial⟩
  r := by simp [rgts, rgt, h.r]
  d := by have := h.d; have := dps_le l; simp only [dps, dp, if_true]; omega
  c := by have := h.c; simp only [cnts, cnt, if_true]; omega
theorem small_txt {s : List UInt8} (h : namedS s = true) : Small [txt6 s] 65 1 1 where
  w := by have := (named_len h).1; simp only [txt6, T6.ws, T6.w]; omega
  ok := ⟨⟨by omega, by omega, by have := (named_len h).1; omega, trivial⟩, trivial⟩
  r := by have := plain_valid s (named_len h).2; simp [txt6, rgts, rgt, this]
  d := by simp [txt6, dps, dp]; omega
  c := by simp [txt6, cnts, cnt]
theorem Small.up {l : List T6} {a b c a' b' c' : Nat} (h : Small l a b c) (h1 : a ≤ a') (h2 : b ≤ b') (h3 : c ≤ c') : Small l a' b' c' where
  w := Nat.le_trans h.w h1
  ok := h.ok
  r := h.r
  d := by have := h.d; omega
  c := Nat.le_trans h.c h3
theorem small_eid {e : E4} (h : e.B) : Small [eidT e.sc e.nm e.nd e.sv] 70 4 5 := by
  unfold eidT
  rcases rightE_cases h.r with ⟨e1, e2⟩ | ⟨e1, e2, e3, e4⟩
  · rw [if_pos e1, e1]
    exact (((small_num (n := 2) ⟨by omega, by omega⟩).app ((small_num h.nd).app (small_num h.sv)).node).node).up (by omega) (by omega) (by omega)
  · rw [if_neg (by omega), e1]
    by_cases hz : e.nm = []
    · rw [if_pos hz]
      exact (((small_num (n := 1) ⟨by omega, by omega⟩).app (small_num (n := 0) ⟨by omega, by omega⟩)).node).up (by omega) (by omega) (by omega)
    · rw [if_neg hz]
      exact (((small_num (n := 1) ⟨by omega, by omega⟩).app (small_txt (by rcases e4 with k | k; exact absurd k hz; exact k))).node).up (by omega) (by omega) (by omega)
theorem prim_small {p : PP} (b : PPB p) : Small (primL p) 1000 10 100 := by
  have h8 : Small (primL8 p) 500 8 50 := ((small_num (n := 7) ⟨by omega, by omega⟩).app ((small_num b.fl).app ((small_num (n := p.crc) ⟨b.c0, by have := b.c2; omega⟩).app ((small_eid b.d).app ((small_eid b.s).app ((small_eid b.r).app ((((small_num b.st).app (small_num b.sq)).node).app (small_num b.life)))))))).up (by omega) (by omega) (by omega)
  unfold primL
  split
  · exact (h8.app ((small_num b.off).app (small_num b.tot))).up (by omega) (by omega) (by omega)
  · rw [List.append_nil]; exact h8.up (by omega) (by omega) (by omega)
theorem prim_good {p : PP} (b : PPB p) : GoodL (primL p) := by
  have h := prim_small b
  exact ⟨by have := h.w; omega, h.ok, h.r, by have := h.d; omega, by have := h.c; omega⟩
theorem E4.B.len {e : E4} (h : e.B) : e.nm.length ≤ 140737488351232 := by
  rcases rightE_cases h.r with ⟨_, e2⟩ | ⟨_, _, _, e4⟩
  · rw [e2]; simp
  · rcases e4 with k | k
    · rw [k]; simp
    · have := (named_len k).1; omega
def ofE (t : T6) : E4 × Int :=
  if t.k = 4 ∧ t.l.length = 2 ∧ (el t 0).k = 0 then
    (if asN (el t 0) = 1 ∧ (el t 1).k = 0 then (if asN (el t 1) = 0 then (⟨1, [], 0, 0⟩, 0) else (⟨0, [], 0, 0⟩, 6))
    else if asN (el t 0) = 1 ∧ (el t 1).k = 3 then (if asS (el t 1) ≠ [] ∧ rightE 1 (asS (el t 1)) 0 0 = true then (⟨1, asS (el t 1), 0, 0⟩, 0) else (⟨0, [], 0, 0⟩, 6))
    else if asN (el t 0) = 2 ∧ (el t 1).k = 4 ∧ (el t 1).l.length = 2 ∧ (el (el t 1) 0).k = 0 ∧ (el (el t 1) 1).k = 0 then (⟨2, [], asN (el (el t 1) 0), asN (el (el t 1) 1)⟩, 0)
    else (⟨0, [], 0, 0⟩, 18))
  else (⟨0, [], 0, 0⟩, 18)
def E4.v (e : E4) : V := eidV e.sc e.nm e.nd e.sv
theorem ofV_eq (t : T6) : ofV t = .tup [(ofE t).1.v, .int .i64 (ofE t).2] := by
  unfold ofV ofE zeid
  (repeat' split) <;> rfl
theorem list_el2 (t : T6) (h : t.k = 4) (hl : t.l.length = 2) : t.l = [el t 0, el t 1] := by
  obtain ⟨k, n, s, l⟩ := t
  simp only [el, if_pos h]
  change l.length = 2 at hl
  match l, hl with
  | [a, b], _ => rfl
theorem any_eqt (t : T6) (h : t.k = 3) : anyV t = anyV (txt6 (asS t)) ∧ enc t = enc (txt6 (asS t)) := by
  obtain ⟨k, n, s, l⟩ := t
  have : k = 3 := h
  subst this
  exact ⟨rfl, by simp [asS, T6.k, T6.s, enc, txt6]⟩
theorem el_ok (t : T6) (i : Nat) (ok : t.ok) : (el t i).ok := by
  rcases el_mem t i with h | h
  · rw [h]; exact ⟨by decide, by decide, by decide, trivial⟩
  · have : T6.oks t.l := by cases t; exact ok.2.2.2
    exact T6.oks_mem this h
theorem node2 {a b a' b' : T6} (h1 : anyV a = anyV a' ∧ enc a = enc a') (h2 : anyV b = anyV b' ∧ enc b = enc b') : anyV (node [a, b]) = anyV (node [a', b']) ∧ enc (node [a, b]) = enc (node [a', b']) := by
  constructor
  · rw [any_node, any_node]; simp only [anys, h1.1, h2.1]
  · rw [enc_node, enc_node]; simp only [encs, h1.2, h2.2, List.length_cons, List.length_nil]
/-- A value that an endpoint can be read of is that endpoint's. -/
theorem ofE_spec (t : T6) (ok : t.ok) (h : (ofE t).2 = 0) : (ofE t).1.B ∧ anyV t = anyV (eidT (ofE t).1.sc (ofE t).1.nm (ofE t).1.nd (ofE t).1.sv) ∧ enc t = enc (eidT (ofE t).1.sc (ofE t).1.nm (ofE t).1.nd (ofE t).1.sv) := by
  have n0 := el_n (el t 1) 0 (el_ok t 1 ok)
  have n1 := el_n (el t 1) 1 (el_ok t 1 ok)
  unfold ofE at h ⊢
  by_cases c0' : ¬ (t.k = 4 ∧ t.l.length = 2 ∧ (el t 0).k = 0)
  · rw [if_neg c0'] at h; cases h
  have c0 := Decidable.not_not.1 c0'
  rw [if_pos c0] at h ⊢
  have l2 := list_el2 t c0.1 c0.2.1
  have q := any_eql t c0.1
  rw [l2] at q
  have q0 := any_eq _ c0.2.2
  by_cases c1 : asN (el t 0) = 1 ∧ (el t 1).k = 0
  · rw [if_pos c1] at h ⊢
    by_cases c2 : asN (el t 1) = 0
    · rw [if_pos c2] at h ⊢
      have q1 := any_eq _ c1.2
      rw [c2] at q1
      rw [c1.1] at q0
      have := node2 q0 q1
      exact ⟨⟨u0, u0, rfl⟩, q.1.trans this.1, q.2.trans this.2⟩
    · rw [if_neg c2] at h; cases h
  rw [if_neg c1] at h ⊢
  by_cases c2 : asN (el t 0) = 1 ∧ (el t 1).k = 3
  · rw [if_pos c2] at h ⊢
    by_cases c3 : asS (el t 1) ≠ [] ∧ rightE 1 (asS (el t 1)) 0 0 = true
    · rw [if_pos c3] at h ⊢
      have q1 := any_eqt _ c2.2
      rw [c2.1] at q0
      have := node2 q0 q1
      have e1 : eidT 1 (asS (el t 1)) 0 0 = node [num6 1, txt6 (asS (el t 1))] := by
        unfold eidT; rw [if_neg (by omega), if_neg c3.1]
      refine ⟨⟨u0, u0, c3.2⟩, ?_, ?_⟩
      · show anyV t = anyV (eidT 1 (asS (el t 1)) 0 0)
        rw [e1]; exact q.1.trans this.1
      · show enc t = enc (eidT 1 (asS (el t 1)) 0 0)
        rw [e1]; exact q.2.trans this.2
    · rw [if_neg c3] at h; cases h
  rw [if_neg c2] at h ⊢
  by_cases c3 : asN (el t 0) = 2 ∧ (el t 1).k = 4 ∧ (el t 1).l.length = 2 ∧ (el (el t 1) 0).k = 0 ∧ (el (el t 1) 1).k = 0
  · rw [if_pos c3] at h ⊢
    have lx := list_el2 (el t 1) c3.2.1 c3.2.2.1
    have qx := any_eql (el t 1) c3.2.1
    rw [lx] at qx
    have y := node2 (any_eq _ c3.2.2.2.1) (any_eq _ c3.2.2.2.2)
    have qy : anyV (el t 1) = anyV (node [num6 (asN (el (el t 1) 0)), num6 (asN (el (el t 1) 1))]) ∧ enc (el t 1) = enc (node [num6 (asN (el (el t 1) 0)), num6 (asN (el (el t 1) 1))]) := ⟨qx.1.trans y.1, qx.2.trans y.2⟩
    rw [c3.1] at q0
    have := node2 q0 qy
    exact ⟨⟨n0, n1, rfl⟩, q.1.trans this.1, q.2.trans this.2⟩
  · rw [if_neg c3] at h; cases h
end Ev
