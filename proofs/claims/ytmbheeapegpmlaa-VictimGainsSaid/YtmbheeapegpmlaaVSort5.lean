/- The partial insertion sort, and the partitions. Each theorem states its own conditions. -/
import Derived.Test.YtmbheeapegpmlaaVSort4
set_option linter.all false
namespace Ev
open Go
set_option maxRecDepth 10000
attribute [-simp] getElem?_pos getElem?_neg
section
variable {h0 h : Heap} {b f : Nat} {cap : List V} {c : Int → Int → Int}
theorem scanS_le (lt : Int → Int → Bool) (d : Array Int) (e : Nat) : ∀ (m i : Nat), e - i ≤ m → i ≤ e → i ≤ Sort.scanSorted lt d e i ∧ Sort.scanSorted lt d e i ≤ e := by
  intro m
  induction m with
  | zero =>
    intro i h1 h2
    unfold Sort.scanSorted
    rw [if_neg (by simp; omega)]
    omega
  | succ m ih =>
    intro i h1 h2
    unfold Sort.scanSorted
    split
    · rename_i h3
      simp at h3
      have := ih (i + 1) (by omega) (by omega)
      omega
    · omega
theorem scanS_loop (hc : Cmp h0 b f cap c) (ha : Agree h0 b h) (a e n : Nat) (d : Array Int) (hd : d.size = n) (hn : n < 1152921504606846976) (he : e ≤ n) (z : V) : ∀ (m i : Nat), e - i ≤ m → 0 < i → ∀ tl ks Q,
    Xk T ks (.x 2) [(0, .hs 1 b 0 n), (1, .int .i64 a), (2, .int .i64 e), (3, .fn f cap), (9, .int .i64 (Sort.scanSorted (ltC c) d e i : Nat)), (10, z), (36, .bool false)] (SD h b d) Q →
    Xc T l_slices_partialInsertionSortCmpFunc_int_0 ks ([(0, .hs 1 b 0 n), (1, .int .i64 a), (2, .int .i64 e), (3, .fn f cap), (9, .int .i64 i), (10, z)] ++ tl) (SD h b d) Q := by
  intro m
  have hb := hc.hb ha
  have hf := hc.free
  have r1 := SD_row hb d
  induction m with
  | zero =>
    intro i hm hi tl ks Q hx
    rw [L_slices_partialInsertionSortCmpFunc_int_0]; unfold bl_slices_partialInsertionSortCmpFunc_int_0
    have c1 : ¬ (i : Int) < e := by omega
    have c2 : ¬ i < e := by omega
    unfold Sort.scanSorted at hx
    rw [if_neg (by simp; omega)] at hx
    simp (disch := omega) [c1, c2]
    simpa [c2] using hx
  | succ m ih =>
    intro i hm hi tl ks Q hx
    rw [L_slices_partialInsertionSortCmpFunc_int_0]; unfold bl_slices_partialInsertionSortCmpFunc_int_0
    unfold Sort.scanSorted at hx
    by_cases c2 : i < e
    · have g0 := SD_getN d i (by omega)
      have g1 := SD_getN d (i - 1) (by omega)
      have i1 : ((i : Int) - 1).toNat = i - 1 := by omega
      simp (disch := omega) [c2, i1, r1, g0, g1, hf]
      rw [Xf_run (hc.sd ha d _ _)]
      simp (disch := omega)
      apply Xb_decn
      · intro c3
        have hl : ltC c d[i]! d[i - 1]! = false := decide_eq_false c3
        rw [if_pos (by simp only [hl]; simp [c2])] at hx
        simp (disch := omega)
        have := ih (i + 1) (by omega) (by omega) [] ks Q hx
        simpa using this
      · intro c3
        have hl : ltC c d[i]! d[i - 1]! = true := decide_eq_true c3
        rw [if_neg (by simp only [hl]; simp)] at hx
        simp (disch := omega)
        simpa [c3] using hx
    · have c1 : ¬ (i : Int) < e := by omega
      rw [if_neg (by simp; omega)] at hx
      simp (disch := omega) [c1, c2]
      simpa [c2] using hx
theorem pins_small (lt : Int → Int → Bool) (d : Array Int) (a e : Nat) (h : e - a < 50) : Sort.partialInsertionSort lt d a e = (d, decide (Sort.scanSorted lt d e (a + 1) = e)) := by
  unfold Sort.partialInsertionSort Sort.partialIns
  dsimp only
  split
  · rename_i h1; simp [h1]
  · rename_i h1; simp [h1]
theorem pins_run (hc : Cmp h0 b f cap c) (ha : Agree h0 b h) (d : Array Int) (a e : Nat) (hn : d.size < 50) (hae : a < e) (he : e ≤ d.size) :
    Run T f_slices_partialInsertionSortCmpFunc_int [.hs 1 b 0 d.size, .int .i64 a, .int .i64 e, .fn f cap] (SD h b d) (.bool (Sort.partialInsertionSort (ltC c) d a e).2) (SD h b (Sort.partialInsertionSort (ltC c) d a e).1) := by
  refine Run.start t_slices_partialInsertionSortCmpFunc_int ?_
  unfold k_slices_partialInsertionSortCmpFunc_int
  rw [pins_small _ _ _ _ (by omega)]
  simp (disch := omega)
  rw [L_slices_partialInsertionSortCmpFunc_int_3]; unfold bl_slices_partialInsertionSortCmpFunc_int_3
  simp (disch := omega)
  have := scanS_loop hc ha a e d.size d rfl (by omega) he (.int .i64 0) (e - (a + 1)) (a + 1) (by omega) (by omega) [(16, .bool true)]
  simp at this
  refine this _ _ ?_
  have h2 := scanS_le (ltC c) d e _ (a + 1) (Nat.le_refl _) (by omega)
  generalize Sort.scanSorted (ltC c) d e (a + 1) = i at h2
  simp (disch := omega)
  have c3 : (e : Int) - a < 50 := by omega
  by_cases c1 : i = e
  · simp (disch := omega) [c1]
  · have c2 : ¬ (i : Int) = e := by omega
    simp (disch := omega) [c1, c2, c3]
end
end Ev
