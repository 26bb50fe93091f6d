/- The reference's blocks: what is wrong, and lists with their sums. Each theorem states its own conditions. -/
import Derived.Test.YtienkohkbihdoaaDoorLR3
set_option linter.all false
namespace Ev
open Go
set_option maxRecDepth 10000
attribute [-simp] getElem?_pos getElem?_neg List.drop_one

theorem R9Check_run (ty nu fl k : Int) (s : List UInt8) (h : Heap) : ∃ h', Run T f_ref09_Check [blkV ty nu fl k s] h (.int .i64 (chkS nu k s)) h' := by
  refine Run.startE t_ref09_Check ?_
  unfold k_ref09_Check blkV chkS
  by_cases c1 : nu = 0
  · simp (disch := omega) [c1]
  · by_cases c2 : k < 0
    · simp (disch := omega) [c1, c2]
    · by_cases c3 : 2 < k
      · simp (disch := omega) [c1, c2, c3]
      · by_cases c4 : 65536 < s.length
        · have c5 : (65536 : Int) < s.length := by omega
          simp (disch := omega) [c1, c2, c3, c4, c5]
        · have c5 : ¬ ((65536 : Int) < s.length) := by omega
          simp (disch := omega) [c1, c2, c3, c4, c5]
theorem zero_loop (L kd p4 p5 : V) (w : Nat) (hw : w ≤ 4) (h : Heap) : ∀ (m i : Nat), i + m = w → ∀ ks Q (e : Env),
    (∀ e, Xk T ks (.x 0) ([(0, L), (1, kd), (4, p4), (5, p5), (6, .int .i64 w), (7, .str (List.replicate w 0))] ++ e) h Q) →
    Xc T l_ref09_Seal_0 ks ([(0, L), (1, kd), (4, p4), (5, p5), (6, .int .i64 w), (7, .str (List.replicate i 0)), (8, .int .i64 i)] ++ e) h Q := by
  intro m
  induction m with
  | zero =>
    intro i hi ks Q e hQ
    rw [L_ref09_Seal_0]; unfold bl_ref09_Seal_0
    have e0 : i = w := by omega
    subst e0
    simp (disch := omega)
    exact hQ _
  | succ m ih =>
    intro i hi ks Q e hQ
    rw [L_ref09_Seal_0]; unfold bl_ref09_Seal_0
    have e1 : (i : Int) < w := by omega
    have := ih (i + 1) (by omega) ks Q [] hQ
    rw [List.replicate_succ'] at this
    have hl : (List.replicate i (0 : UInt8)).length = i := List.length_replicate
    generalize List.replicate i (0 : UInt8) = Z at *
    simp (disch := (first | omega | (simp; omega))) [e1]
    simpa using this
theorem vs_app (a b : List T6) : T6.vs (a ++ b) = T6.vs a ++ T6.vs b := by simp [T6.vs_map]
theorem vs_agg (l : List T6) : (T6.vs l).all (fun v => v.cells.length == 4) = true := by
  rw [T6.vs_map, List.all_map, List.all_eq_true]
  intro x _
  simp [T6.cells_len]
theorem flat_vs_len : ∀ l : List T6, (flat (T6.vs l)).length = l.length * 4
  | [] => rfl
  | x :: r => by
    have := flat_vs_len r
    have h : flat (T6.vs (x :: r)) = x.v.cells ++ flat (T6.vs r) := rfl
    rw [h, List.length_append, T6.cells_len, this, List.length_cons]
    omega
theorem flat_vs_app (a b : List T6) : flat (T6.vs (a ++ b)) = flat (T6.vs a) ++ flat (T6.vs b) := by
  rw [vs_app]; unfold flat; rw [List.flatMap_append]
theorem chunk_vs : ∀ l : List T6, chunk 4 true l.length (flat (T6.vs l)) = T6.vs l
  | [] => rfl
  | x :: r => by
    have h : flat (T6.vs (x :: r)) = x.v.cells ++ flat (T6.vs r) := rfl
    have hc := T6.cells_len x
    have ht : (x.v.cells ++ flat (T6.vs r)).take 4 = x.v.cells.take 4 := by rw [List.take_append_of_le_length (by omega)]
    have hd : (x.v.cells ++ flat (T6.vs r)).drop 4 = flat (T6.vs r) := by rw [← hc, List.drop_left]
    rw [h, List.length_cons, chunk, if_pos rfl, ht, hd, T6.agg_v, chunk_vs r]
    rfl
theorem frz_vs {H : Heap} {b : Nat} {l : List T6} (hr : H.row b = some (flat (T6.vs l))) (ag : Bool) : freeze1 (ag || decide (1 < 4)) (.hs 4 b 0 l.length) H = some (.ps 4 (T6.vs l), H.set b none) := by
  have hl := flat_vs_len l
  have hc := hs_cells (s := 4) (off := 0) (len := l.length) hr (by omega)
  rw [List.drop_zero, List.take_of_length_le (by omega)] at hc
  have e : (ag || decide (1 < 4)) = true := by cases ag <;> rfl
  rw [e]
  simp only [freeze1, hc, Option.bind_some, chunkOk, Bool.true_or, if_true, chunk_vs]
theorem R9Seal_run (l : List T6) (k : Nat) (h : Heap) (hl : GoodL l) (hk : k = 1 ∨ k = 2) : ∃ h', Run T f_ref09_Seal [.ps 4 (T6.vs l), .int .i64 k] h ((node (l ++ [byt6 (sumB k (enc (node (l ++ [byt6 (List.replicate (widthN k) 0)]))))])).v) h' := by
  refine Run.startE t_ref09_Seal ?_
  unfold k_ref09_Seal
  have wk : widthN k = 2 * k := by rcases hk with rfl | rfl <;> rfl
  have b5 := T6.ws_len l
  have b6 := hl.w
  have kz : ¬ ((k : Int) = 0) := by omega
  have kz' : ¬ (k = 0) := by omega
  by_cases hz : l = []
  · subst hz
    have f0 : flat (T6.vs []) = [] := rfl
    have v00 : T6.vs [] = [] := rfl
    have Z0 := zero_loop (.ps 4 []) (.int .i64 k) (.ptr h.length 0) (.ptr (h.length + 1) 0) (2 * k) (by omega)
    simp (disch := omega) [T6.vs_len, kz, kz', f0, v00]
    rw [wk]
    have g0 := hl.snoc (List.replicate (2 * k) 0) (by simp; omega)
    obtain ⟨h6, r6⟩ := R6Put_run _ _ (Nat.le_refl _) g0.w g0.ok g0.r
    have v0 : (node ([] ++ [byt6 (List.replicate (2 * k) 0)])).v = .agg [.int .i64 4, .int .u64 0, .str [], .ps 4 [.agg [.int .i64 2, .int .u64 0, .str (List.replicate (2 * k) 0), .ps 4 []]]] := rfl
    have el := enc_len (node ([] ++ [byt6 (List.replicate (2 * k) 0)]))
    have hw := g0.w
    rw [v0] at r6
    simp only [List.nil_append] at r6 el hw ⊢
    generalize enc (node [byt6 (List.replicate (2 * k) 0)]) = E0 at *
    refine Z0 _ (2 * k) 0 (by omega) _ _ [] (fun e => ?_)
    have v1 : ∀ S : List UInt8, (node [byt6 S]).v = .agg [.int .i64 4, .int .u64 0, .str [], .ps 4 [.agg [.int .i64 2, .int .u64 0, .str S, .ps 4 []]]] := fun S => rfl
    have rO := R3Of_run k E0 [] (by omega)
    have hcl := crcN_lt k E0
    have hcl2 : crcN k E0 < 18446744073709551616 := Nat.lt_of_lt_of_le hcl (by rw [wk]; rcases hk with rfl | rfl <;> decide)
    have rB := R1Bytes_run (2 * k) (crcN k E0) (by omega) hcl2 []
    have eS : sumB k E0 = beB (2 * k) (crcN k E0) := by unfold sumB; rw [wk]
    rw [eS, v1]
    generalize beB (2 * k) (crcN k E0) = S at *
    generalize List.replicate (2 * k) (0 : UInt8) = Z at *
    simp (disch := omega)
    rw [Xp_run r6 (by simp) (by simp [bys_hfs]) (by simp)]
    simp (disch := omega)
    rw [Xp_run rO (by simp [bys_hfs]) rfl (by simp [scalar])]
    simp (disch := omega)
    have rB2 : Run T f_ref01_Bytes [.int .i64 (2 * (k : Int)), .int .u64 (crcN k E0 : Nat)] [] (.ps 1 (bys S)) [] := by simpa using rB
    rw [Xp_run rB2 (by simp) (by simp [bys_hfs]) (by simp)]
    simp (disch := omega) [bys_back]
    have hr : ∀ (a b c : List V), Heap.row (h ++ [some a, some b, some c, some [.int .i64 2, .int .u64 0, .str S, .ps 4 []]]) (h.length + 3) = some (flat (T6.vs [byt6 S])) := fun a b c => by
      simp [Heap.row, List.getElem?_append_right]; rfl
    have fz4 := fun a b c => frz_vs (hr a b c) true
    have hvv : T6.vs [byt6 S] = [V.agg [.int .i64 2, .int .u64 0, .str S, .ps 4 []]] := rfl
    rw [hvv] at fz4
    simp only [List.length_singleton] at fz4
    simp only [freezeC, fz4, Option.bind_some]
    simp (disch := omega)
  have hl0 : 0 < l.length := List.length_pos_iff.2 hz
  have fl := flat_vs_len l
  have fz : ¬ (flat (T6.vs l) = []) := by intro e; rw [e] at fl; simp at fl; omega
  have fd : l.length * 4 / 4 = l.length := by omega
  have Z0 := zero_loop (.ps 4 (T6.vs l)) (.int .i64 k) (.ptr h.length 0) (.ptr (h.length + 2) 0) (2 * k) (by omega)
  simp (disch := omega) [T6.vs_len, kz, kz', fz, fl, fd]
  rw [wk]
  have g0 := hl.snoc (List.replicate (2 * k) 0) (by simp; omega)
  obtain ⟨h6, r6⟩ := R6Put_run _ _ (Nat.le_refl _) g0.w g0.ok g0.r
  have v0 : (node (l ++ [byt6 (List.replicate (2 * k) 0)])).v = .agg [.int .i64 4, .int .u64 0, .str [], .ps 4 (T6.vs l ++ [.agg [.int .i64 2, .int .u64 0, .str (List.replicate (2 * k) 0), .ps 4 []]])] := by
    simp only [T6.v, vs_app]; rfl
  have el := enc_len (node (l ++ [byt6 (List.replicate (2 * k) 0)]))
  have hw := g0.w
  generalize enc (node (l ++ [byt6 (List.replicate (2 * k) 0)])) = E0 at *
  refine Z0 _ (2 * k) 0 (by omega) _ _ [] (fun e => ?_)
  rw [v0] at r6
  have hvs := T6.vs_hfs l
  have vl := T6.vs_len l
  have v1 : ∀ S : List UInt8, (node (l ++ [byt6 S])).v = .agg [.int .i64 4, .int .u64 0, .str [], .ps 4 (T6.vs l ++ [.agg [.int .i64 2, .int .u64 0, .str S, .ps 4 []]])] := fun S => by
    simp only [T6.v, vs_app]; rfl
  have rO := R3Of_run k E0 [] (by omega)
  have hcl := crcN_lt k E0
  have hcl2 : crcN k E0 < 18446744073709551616 := Nat.lt_of_lt_of_le hcl (by rw [wk]; rcases hk with rfl | rfl <;> decide)
  have rB := R1Bytes_run (2 * k) (crcN k E0) (by omega) hcl2 []
  have eS : sumB k E0 = beB (2 * k) (crcN k E0) := by unfold sumB; rw [wk]
  rw [eS, v1]
  generalize beB (2 * k) (crcN k E0) = S at *
  generalize List.replicate (2 * k) (0 : UInt8) = Z at *
  simp (disch := omega) [vl, T6.cells_len]
  rw [Xp_run r6 (by simp [hvs]) (by simp [bys_hfs]) (by simp)]
  simp (disch := omega)
  rw [Xp_run rO (by simp [bys_hfs]) rfl (by simp [scalar])]
  simp (disch := omega)
  have rB2 : Run T f_ref01_Bytes [.int .i64 (2 * (k : Int)), .int .u64 (crcN k E0 : Nat)] [] (.ps 1 (bys S)) [] := by simpa using rB
  rw [Xp_run rB2 (by simp) (by simp [bys_hfs]) (by simp)]
  simp (disch := omega) [bys_back]
  have hF : flat (T6.vs l) ++ [V.int .i64 2, .int .u64 0, .str S, .ps 4 []] = flat (T6.vs (l ++ [byt6 S])) := by rw [flat_vs_app]; rfl
  rw [hF]
  have hr : ∀ (a b c : List V), Heap.row (h ++ [some a, none, some b, some c, some (flat (T6.vs (l ++ [byt6 S])))]) (h.length + 4) = some (flat (T6.vs (l ++ [byt6 S]))) := fun a b c => by
    simp [Heap.row, List.getElem?_append_right]
  have hl1 : l.length + 1 = (l ++ [byt6 S]).length := by simp
  have hvv : T6.vs l ++ [V.agg [.int .i64 2, .int .u64 0, .str S, .ps 4 []]] = T6.vs (l ++ [byt6 S]) := by rw [vs_app]; rfl
  rw [hl1, hvv]
  have fz4 := fun a b c => frz_vs (hr a b c) true
  simp only [freezeC, fz4, Option.bind_some]
  simp (disch := omega)
theorem R9Seal0_run (l : List T6) (h : Heap) (hl : GoodL l) : ∃ h', Run T f_ref09_Seal [.ps 4 (T6.vs l), .int .i64 0] h ((node l).v) h' := by
  refine Run.startE t_ref09_Seal ?_
  unfold k_ref09_Seal
  have b5 := T6.ws_len l
  have b6 := hl.w
  by_cases hz : l = []
  · subst hz
    have f0 : flat (T6.vs []) = [] := rfl
    have v00 : T6.vs [] = [] := rfl
    have v1 : (node []).v = .agg [.int .i64 4, .int .u64 0, .str [], .ps 4 []] := rfl
    rw [v1]
    simp (disch := omega) [T6.vs_len, f0, v00, freezeC]
  have hl0 : 0 < l.length := List.length_pos_iff.2 hz
  have fl := flat_vs_len l
  have fz : ¬ (flat (T6.vs l) = []) := by intro e; rw [e] at fl; simp at fl; omega
  have fd : l.length * 4 / 4 = l.length := by omega
  have v1 : (node l).v = .agg [.int .i64 4, .int .u64 0, .str [], .ps 4 (T6.vs l)] := by simp only [T6.v]
  rw [v1]
  have hr : ∀ (a b : List V), Heap.row (h ++ [some a, some (flat (T6.vs l)), some b]) (h.length + 1) = some (flat (T6.vs l)) := fun a b => by
    simp [Heap.row, List.getElem?_append_right]
  have fz4 := fun a b => frz_vs (hr a b) true
  simp (disch := omega) [T6.vs_len, fz, fl, fd, freezeC]
  have fz5 := fun a b => fz4 a b
  simp only [Bool.true_or] at fz5
  rw [fz5]
  simp (disch := omega)
/-- A block's value, as the reference has it. -/
def refT (ty nu fl : Int) (k : Nat) (s : List UInt8) : T6 := if k = 0 then node (vals ty nu fl k s) else blkT ty nu fl k s (sumB k (enc (blkT ty nu fl k s (List.replicate (widthN k) 0))))
theorem R9Seal_any (ty nu fl : Int) (k : Nat) (s : List UInt8) (hl : GoodL (vals ty nu fl k s)) (hk : k ≤ 2) : ∃ h', Run T f_ref09_Seal [.ps 4 (T6.vs (vals ty nu fl k s)), .int .i64 k] [] ((refT ty nu fl k s).v) h' := by
  unfold refT
  by_cases c : k = 0
  · subst c; rw [if_pos rfl]; exact R9Seal0_run _ [] hl
  · rw [if_neg c]; exact R9Seal_run _ k [] hl (by omega)
theorem R9Value_run (ty nu fl : Int) (k : Nat) (s : List UInt8) (hl : GoodL (vals ty nu fl k s)) (hk : k ≤ 2) : ∃ h', Run T f_ref09_Value [blkV ty nu fl k s] [] ((refT ty nu fl k s).v) h' := by
  obtain ⟨h1, r1⟩ := R9Seal_any ty nu fl k s hl hk
  have e1 : T6.vs (vals ty nu fl k s) = [.agg [.int .i64 0, .int .u64 ty, .str [], .ps 4 []], .agg [.int .i64 0, .int .u64 nu, .str [], .ps 4 []], .agg [.int .i64 0, .int .u64 fl, .str [], .ps 4 []], .agg [.int .i64 0, .int .u64 k, .str [], .ps 4 []], .agg [.int .i64 2, .int .u64 0, .str s, .ps 4 []]] := rfl
  have hv := T6.v_hf (refT ty nu fl k s)
  have hvs := T6.vs_hfs (vals ty nu fl k s)
  rw [e1] at r1 hvs
  have hc := T6.cells_len (refT ty nu fl k s)
  have hag := T6.agg_v (refT ty nu fl k s)
  have vv := v_eq (refT ty nu fl k s)
  refine Run.startE t_ref09_Value ?_
  unfold k_ref09_Value blkV
  simp (disch := omega)
  rw [Xp_run r1 (by simpa using hvs) hv (by simp)]
  rw [vv]
  simp (disch := omega)
end Ev
