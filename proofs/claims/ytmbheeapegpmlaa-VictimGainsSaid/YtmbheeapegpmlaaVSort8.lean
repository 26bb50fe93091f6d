/- The partition of equals. Each theorem states its own conditions. -/
import Derived.Test.YtmbheeapegpmlaaVSort7
set_option linter.all false
namespace Ev
open Go
set_option maxRecDepth 10000
attribute [-simp] getElem?_pos getElem?_neg
section
variable {h0 h : Heap} {b f : Nat} {cap : List V} {c : Int → Int → Int}
theorem pe_loop (hc : Cmp h0 b f cap c) (ha : Agree h0 b h) (a n : Nat) (hn : n < 1152921504606846976) (han : a < n) : ∀ (m i j : Nat) (d : Array Int), j + 1 - i ≤ m → a < i → i ≤ n → j < n → d.size = n → ∀ tl ks Q,
    (∀ j' e, Xk T ks (.x 0) ([(0, .hs 1 b 0 n), (1, .int .i64 a), (4, .fn f cap), (11, .int .i64 ((Sort.partEqLoop (ltC c) a i j d).1 : Nat)), (12, .int .i64 j')] ++ e) (SD h b (Sort.partEqLoop (ltC c) a i j d).2) Q) →
    Xc T l_slices_partitionEqualCmpFunc_int_2 ks ([(0, .hs 1 b 0 n), (1, .int .i64 a), (4, .fn f cap), (11, .int .i64 i), (12, .int .i64 j)] ++ tl) (SD h b d) Q := by
  intro m
  have hb := hc.hb ha
  have hf := hc.free
  induction m with
  | zero =>
    intro i j d hm hai hi hj hd tl ks Q hx
    rw [L_slices_partitionEqualCmpFunc_int_2]; unfold bl_slices_partitionEqualCmpFunc_int_2
    rw [Sort.partEqLoop_eq] at hx
    have u1 := Sort.scanUp_ge (fun x => !ltC c d[a]! x) d j i
    have u2 := scanUp_len (fun x => !ltC c d[a]! x) d j n hj i hi
    simp (disch := omega)
    have hu := eq0 hc ha a n d hd hn han j hj (fun x => !ltC c d[a]! x) hneg2 _ i (Nat.le_refl _) hi []
    simp only [List.append_nil] at hu
    refine hu _ _ ?_
    generalize Sort.scanUp (fun x => !ltC c d[a]! x) d j i = i2 at *
    simp (disch := omega)
    refine eq1 hc ha a n d hd hn han i2 (by omega) (by omega) (fun x => ltC c d[a]! x) hpos2 j hj [(47, .bool false)] _ _ ?_
    have v1 := Sort.scanDown_le (fun x => ltC c d[a]! x) d i2 j
    generalize Sort.scanDown (fun x => ltC c d[a]! x) d i2 j = j2 at *
    rw [if_pos (show i2 > j2 by omega)] at hx
    have c1 : (j2 : Int) < i2 := by omega
    simp (disch := omega) [c1]
    have := hx j2 [(70, .bool true)]
    simpa using this
  | succ m ih =>
    intro i j d hm hai hi hj hd tl ks Q hx
    rw [L_slices_partitionEqualCmpFunc_int_2]; unfold bl_slices_partitionEqualCmpFunc_int_2
    rw [Sort.partEqLoop_eq] at hx
    have u1 := Sort.scanUp_ge (fun x => !ltC c d[a]! x) d j i
    have u2 := scanUp_len (fun x => !ltC c d[a]! x) d j n hj i hi
    simp (disch := omega)
    have hu := eq0 hc ha a n d hd hn han j hj (fun x => !ltC c d[a]! x) hneg2 _ i (Nat.le_refl _) hi []
    simp only [List.append_nil] at hu
    refine hu _ _ ?_
    generalize Sort.scanUp (fun x => !ltC c d[a]! x) d j i = i2 at *
    simp (disch := omega)
    refine eq1 hc ha a n d hd hn han i2 (by omega) (by omega) (fun x => ltC c d[a]! x) hpos2 j hj [(47, .bool false)] _ _ ?_
    have v1 := Sort.scanDown_le (fun x => ltC c d[a]! x) d i2 j
    generalize Sort.scanDown (fun x => ltC c d[a]! x) d i2 j = j2 at *
    by_cases c2 : i2 > j2
    · rw [if_pos c2] at hx
      have c1 : (j2 : Int) < i2 := by omega
      simp (disch := omega) [c1]
      have := hx j2 [(70, .bool true)]
      simpa using this
    · rw [if_neg c2] at hx
      have c1 : ¬ (j2 : Int) < i2 := by omega
      have c3 : ¬ j2 < i2 := by omega
      have r1 := SD_row hb d
      have gl := SD_ints d
      have hbs := SD_lt hb d
      have g0 := SD_getN d i2 (by omega)
      have g1 := SD_getN d j2 (by omega)
      have e1 : (j2 : Int) - 1 = ((j2 - 1 : Nat) : Int) := by omega
      simp (disch := omega) [c1, c3, r1, g0, g1, gl]
      have := ih (i2 + 1) (j2 - 1) (Sort.swp d i2 j2) (by omega) (by omega) (by omega) (by omega) (by rw [swp_size]; exact hd) [] ks Q hx
      rw [e1]
      simpa using this
theorem parteq_run (hc : Cmp h0 b f cap c) (ha : Agree h0 b h) (d : Array Int) (a e pv : Nat) (hn : d.size < 1152921504606846976) (hae : a + 2 < e) (he : e ≤ d.size) (hpa : a ≤ pv) (hpe : pv < e) :
    Run T f_slices_partitionEqualCmpFunc_int [.hs 1 b 0 d.size, .int .i64 a, .int .i64 e, .int .i64 pv, .fn f cap] (SD h b d)
      (.int .i64 ((Sort.partitionEqual (ltC c) d a e pv).1 : Nat)) (SD h b (Sort.partitionEqual (ltC c) d a e pv).2) := by
  generalize hP : Sort.partitionEqual (ltC c) d a e pv = P
  refine Run.start t_slices_partitionEqualCmpFunc_int ?_
  unfold k_slices_partitionEqualCmpFunc_int
  unfold Sort.partitionEqual at hP
  have hb := hc.hb ha
  have r1 := SD_row hb d
  have gl := SD_ints d
  have hbs := SD_lt hb d
  have g0 := SD_getN d a (by omega)
  have g1 := SD_getN d pv (by omega)
  obtain ⟨j, hj⟩ : ∃ j, j = e - 1 := ⟨_, rfl⟩
  have e1 : (e : Int) - 1 = (j : Int) := by omega
  simp only [← hj] at hP
  simp (disch := omega) [r1, g0, g1, gl, e1]
  have hd : (Sort.swp d a pv).size = d.size := swp_size _ _ _
  generalize Sort.swp d a pv = d1 at *
  generalize d.size = n at *
  have hl := pe_loop hc ha a n hn (by omega) (j + 1 - (a + 1)) (a + 1) j d1 (by omega) (by omega) (by omega) (by omega) hd []
  simp only [Int.natCast_add, Int.cast_ofNat_Int, List.append_nil] at hl
  refine hl _ _ ?_
  rw [hP]
  intro j' tl
  simp (disch := omega)
end
end Ev
