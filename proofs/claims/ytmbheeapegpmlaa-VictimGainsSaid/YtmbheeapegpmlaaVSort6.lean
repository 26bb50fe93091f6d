/- The partitions. Each theorem states its own conditions. -/
import Derived.Test.YtmbheeapegpmlaaVSort5
set_option linter.all false
namespace Ev
open Go
set_option maxRecDepth 10000
attribute [-simp] getElem?_pos getElem?_neg
section
variable {h0 h : Heap} {b f : Nat} {cap : List V} {c : Int → Int → Int}
theorem up0 (hc : Cmp h0 b f cap c) (ha : Agree h0 b h) (a n : Nat) (d : Array Int) (hd : d.size = n) (hn : n < 1152921504606846976) (han : a < n) (j : Nat) (hj : j < n) (p : Int → Bool) (hp : ∀ x, p x = ltC c x (atD d a)) : ∀ (m i : Nat), j + 1 - i ≤ m → i ≤ n → ∀ tl ks Q,
    Xk T ks (.x 0) [(0, .hs 1 b 0 n), (1, .int .i64 a), (4, .fn f cap), (12, .int .i64 (Sort.scanUp p d j i : Nat)), (13, .int .i64 j), (47, .bool false)] (SD h b d) Q →
    Xc T l_slices_partitionCmpFunc_int_0 ks ([(0, .hs 1 b 0 n), (1, .int .i64 a), (4, .fn f cap), (12, .int .i64 i), (13, .int .i64 j)] ++ tl) (SD h b d) Q := by
  intro m
  have hb := hc.hb ha
  have hf := hc.free
  have r1 := SD_row hb d
  have ga := SD_getN d a (by omega)
  induction m with
  | zero =>
    intro i hm hi tl ks Q hx
    rw [L_slices_partitionCmpFunc_int_0]; unfold bl_slices_partitionCmpFunc_int_0
    have c1 : ¬ (i : Int) ≤ j := by omega
    have c2 : ¬ i ≤ j := by omega
    unfold Sort.scanUp at hx
    rw [if_neg (by simp; omega)] at hx
    simp (disch := omega) [c1, c2]
    simpa [c2] using hx
  | succ m ih =>
    intro i hm hi tl ks Q hx
    rw [L_slices_partitionCmpFunc_int_0]; unfold bl_slices_partitionCmpFunc_int_0
    unfold Sort.scanUp at hx
    by_cases c2 : i ≤ j
    · have g0 := SD_getN d i (by omega)
      simp (disch := omega) [c2, r1, g0, ga, hf]
      rw [Xf_run (hc.sd ha d _ _)]
      simp (disch := omega)
      apply Xb_dec
      · intro c3
        have hl : p d[i]! = true := by rw [hp]; exact decide_eq_true c3
        rw [if_pos (by simp only [hl]; simp [c2])] at hx
        simp (disch := omega)
        have := ih (i + 1) (by omega) (by omega) [] ks Q hx
        simpa using this
      · intro c3
        have hl : p d[i]! = false := by rw [hp]; exact decide_eq_false c3
        rw [if_neg (by simp only [hl]; simp)] at hx
        simp (disch := omega)
        simpa [c3] using hx
    · have c1 : ¬ (i : Int) ≤ j := by omega
      rw [if_neg (by simp; omega)] at hx
      simp (disch := omega) [c1, c2]
      simpa [c2] using hx
theorem up2 (hc : Cmp h0 b f cap c) (ha : Agree h0 b h) (a n : Nat) (d : Array Int) (hd : d.size = n) (hn : n < 1152921504606846976) (han : a < n) (j : Nat) (hj : j < n) (p : Int → Bool) (hp : ∀ x, p x = ltC c x (atD d a)) : ∀ (m i : Nat), j + 1 - i ≤ m → i ≤ n → ∀ tl ks Q,
    Xk T ks (.x 6) [(0, .hs 1 b 0 n), (1, .int .i64 a), (4, .fn f cap), (12, .int .i64 (Sort.scanUp p d j i : Nat)), (13, .int .i64 j), (120, .bool false)] (SD h b d) Q →
    Xc T l_slices_partitionCmpFunc_int_2 ks ([(0, .hs 1 b 0 n), (1, .int .i64 a), (4, .fn f cap), (12, .int .i64 i), (13, .int .i64 j)] ++ tl) (SD h b d) Q := by
  intro m
  have hb := hc.hb ha
  have hf := hc.free
  have r1 := SD_row hb d
  have ga := SD_getN d a (by omega)
  induction m with
  | zero =>
    intro i hm hi tl ks Q hx
    rw [L_slices_partitionCmpFunc_int_2]; unfold bl_slices_partitionCmpFunc_int_2
    have c1 : ¬ (i : Int) ≤ j := by omega
    have c2 : ¬ i ≤ j := by omega
    unfold Sort.scanUp at hx
    rw [if_neg (by simp; omega)] at hx
    simp (disch := omega) [c1, c2]
    simpa [c2] using hx
  | succ m ih =>
    intro i hm hi tl ks Q hx
    rw [L_slices_partitionCmpFunc_int_2]; unfold bl_slices_partitionCmpFunc_int_2
    unfold Sort.scanUp at hx
    by_cases c2 : i ≤ j
    · have g0 := SD_getN d i (by omega)
      simp (disch := omega) [c2, r1, g0, ga, hf]
      rw [Xf_run (hc.sd ha d _ _)]
      simp (disch := omega)
      apply Xb_dec
      · intro c3
        have hl : p d[i]! = true := by rw [hp]; exact decide_eq_true c3
        rw [if_pos (by simp only [hl]; simp [c2])] at hx
        simp (disch := omega)
        have := ih (i + 1) (by omega) (by omega) [] ks Q hx
        simpa using this
      · intro c3
        have hl : p d[i]! = false := by rw [hp]; exact decide_eq_false c3
        rw [if_neg (by simp only [hl]; simp)] at hx
        simp (disch := omega)
        simpa [c3] using hx
    · have c1 : ¬ (i : Int) ≤ j := by omega
      rw [if_neg (by simp; omega)] at hx
      simp (disch := omega) [c1, c2]
      simpa [c2] using hx
theorem dn1 (hc : Cmp h0 b f cap c) (ha : Agree h0 b h) (a n : Nat) (d : Array Int) (hd : d.size = n) (hn : n < 1152921504606846976) (han : a < n) (i : Nat) (hi : 1 ≤ i) (hin : i ≤ n) (p : Int → Bool) (hp : ∀ x, p x = (!ltC c x (atD d a))) : ∀ (j : Nat), j < n → ∀ tl ks Q,
    Xk T ks (.x 2) [(0, .hs 1 b 0 n), (1, .int .i64 a), (4, .fn f cap), (12, .int .i64 i), (13, .int .i64 (Sort.scanDown p d i j : Nat)), (66, .bool false)] (SD h b d) Q →
    Xc T l_slices_partitionCmpFunc_int_1 ks ([(0, .hs 1 b 0 n), (1, .int .i64 a), (4, .fn f cap), (12, .int .i64 i), (13, .int .i64 j)] ++ tl) (SD h b d) Q := by
  intro j
  have hb := hc.hb ha
  have hf := hc.free
  have r1 := SD_row hb d
  have ga := SD_getN d a (by omega)
  induction j with
  | zero =>
    intro hj tl ks Q hx
    rw [L_slices_partitionCmpFunc_int_1]; unfold bl_slices_partitionCmpFunc_int_1
    have c1 : ¬ (i : Int) ≤ (0 : Nat) := by omega
    have c2 : ¬ i = 0 := by omega
    have c4 : ¬ (i : Int) ≤ 0 := by omega
    unfold Sort.scanDown at hx
    simp (disch := omega) [c1, c2, c4]
    simpa [c2] using hx
  | succ j ih =>
    intro hj tl ks Q hx
    rw [L_slices_partitionCmpFunc_int_1]; unfold bl_slices_partitionCmpFunc_int_1
    unfold Sort.scanDown at hx
    by_cases c2 : i ≤ j + 1
    · have g0 := SD_getN d (j + 1) (by omega)
      have i1 : ((j : Int) + 1).toNat = j + 1 := by omega
      have c1 : (i : Int) ≤ j + 1 := by omega
      simp (disch := omega) [c1, c2, r1, g0, ga, hf, i1]
      rw [Xf_run (hc.sd ha d _ _)]
      simp (disch := omega)
      apply Xb_decn
      · intro c3
        have hl : p d[j + 1]! = true := by rw [hp]; have h9 : ltC c (atD d (j + 1)) (atD d a) = false := decide_eq_false c3; exact congrArg Bool.not h9
        rw [if_pos (by simp only [hl]; simp [c2])] at hx
        have e1 : (j : Int) + 1 - 1 = j := by omega
        simp (disch := omega) [e1]
        have := ih (by omega) [] ks Q hx
        simpa using this
      · intro c3
        have hl : p d[j + 1]! = false := by rw [hp]; have h9 : ltC c (atD d (j + 1)) (atD d a) = true := decide_eq_true c3; exact congrArg Bool.not h9
        rw [if_neg (by simp only [hl]; simp)] at hx
        simp (disch := omega)
        simpa [c3] using hx
    · have c1 : ¬ (i : Int) ≤ j + 1 := by omega
      rw [if_neg (by simp; omega)] at hx
      simp (disch := omega) [c1, c2]
      simpa [c2] using hx
theorem dn3 (hc : Cmp h0 b f cap c) (ha : Agree h0 b h) (a n : Nat) (d : Array Int) (hd : d.size = n) (hn : n < 1152921504606846976) (han : a < n) (i : Nat) (hi : 1 ≤ i) (hin : i ≤ n) (p : Int → Bool) (hp : ∀ x, p x = (!ltC c x (atD d a))) : ∀ (j : Nat), j < n → ∀ tl ks Q,
    Xk T ks (.x 8) [(0, .hs 1 b 0 n), (1, .int .i64 a), (4, .fn f cap), (12, .int .i64 i), (13, .int .i64 (Sort.scanDown p d i j : Nat)), (139, .bool false)] (SD h b d) Q →
    Xc T l_slices_partitionCmpFunc_int_3 ks ([(0, .hs 1 b 0 n), (1, .int .i64 a), (4, .fn f cap), (12, .int .i64 i), (13, .int .i64 j)] ++ tl) (SD h b d) Q := by
  intro j
  have hb := hc.hb ha
  have hf := hc.free
  have r1 := SD_row hb d
  have ga := SD_getN d a (by omega)
  induction j with
  | zero =>
    intro hj tl ks Q hx
    rw [L_slices_partitionCmpFunc_int_3]; unfold bl_slices_partitionCmpFunc_int_3
    have c1 : ¬ (i : Int) ≤ (0 : Nat) := by omega
    have c2 : ¬ i = 0 := by omega
    have c4 : ¬ (i : Int) ≤ 0 := by omega
    unfold Sort.scanDown at hx
    simp (disch := omega) [c1, c2, c4]
    simpa [c2] using hx
  | succ j ih =>
    intro hj tl ks Q hx
    rw [L_slices_partitionCmpFunc_int_3]; unfold bl_slices_partitionCmpFunc_int_3
    unfold Sort.scanDown at hx
    by_cases c2 : i ≤ j + 1
    · have g0 := SD_getN d (j + 1) (by omega)
      have i1 : ((j : Int) + 1).toNat = j + 1 := by omega
      have c1 : (i : Int) ≤ j + 1 := by omega
      simp (disch := omega) [c1, c2, r1, g0, ga, hf, i1]
      rw [Xf_run (hc.sd ha d _ _)]
      simp (disch := omega)
      apply Xb_decn
      · intro c3
        have hl : p d[j + 1]! = true := by rw [hp]; have h9 : ltC c (atD d (j + 1)) (atD d a) = false := decide_eq_false c3; exact congrArg Bool.not h9
        rw [if_pos (by simp only [hl]; simp [c2])] at hx
        have e1 : (j : Int) + 1 - 1 = j := by omega
        simp (disch := omega) [e1]
        have := ih (by omega) [] ks Q hx
        simpa using this
      · intro c3
        have hl : p d[j + 1]! = false := by rw [hp]; have h9 : ltC c (atD d (j + 1)) (atD d a) = true := decide_eq_true c3; exact congrArg Bool.not h9
        rw [if_neg (by simp only [hl]; simp)] at hx
        simp (disch := omega)
        simpa [c3] using hx
    · have c1 : ¬ (i : Int) ≤ j + 1 := by omega
      rw [if_neg (by simp; omega)] at hx
      simp (disch := omega) [c1, c2]
      simpa [c2] using hx
theorem eq0 (hc : Cmp h0 b f cap c) (ha : Agree h0 b h) (a n : Nat) (d : Array Int) (hd : d.size = n) (hn : n < 1152921504606846976) (han : a < n) (j : Nat) (hj : j < n) (p : Int → Bool) (hp : ∀ x, p x = (!ltC c (atD d a) x)) : ∀ (m i : Nat), j + 1 - i ≤ m → i ≤ n → ∀ tl ks Q,
    Xk T ks (.x 2) [(0, .hs 1 b 0 n), (1, .int .i64 a), (4, .fn f cap), (11, .int .i64 (Sort.scanUp p d j i : Nat)), (12, .int .i64 j), (47, .bool false)] (SD h b d) Q →
    Xc T l_slices_partitionEqualCmpFunc_int_0 ks ([(0, .hs 1 b 0 n), (1, .int .i64 a), (4, .fn f cap), (11, .int .i64 i), (12, .int .i64 j)] ++ tl) (SD h b d) Q := by
  intro m
  have hb := hc.hb ha
  have hf := hc.free
  have r1 := SD_row hb d
  have ga := SD_getN d a (by omega)
  induction m with
  | zero =>
    intro i hm hi tl ks Q hx
    rw [L_slices_partitionEqualCmpFunc_int_0]; unfold bl_slices_partitionEqualCmpFunc_int_0
    have c1 : ¬ (i : Int) ≤ j := by omega
    have c2 : ¬ i ≤ j := by omega
    unfold Sort.scanUp at hx
    rw [if_neg (by simp; omega)] at hx
    simp (disch := omega) [c1, c2]
    simpa [c2] using hx
  | succ m ih =>
    intro i hm hi tl ks Q hx
    rw [L_slices_partitionEqualCmpFunc_int_0]; unfold bl_slices_partitionEqualCmpFunc_int_0
    unfold Sort.scanUp at hx
    by_cases c2 : i ≤ j
    · have g0 := SD_getN d i (by omega)
      simp (disch := omega) [c2, r1, g0, ga, hf]
      rw [Xf_run (hc.sd ha d _ _)]
      simp (disch := omega)
      apply Xb_decn
      · intro c3
        have hl : p d[i]! = true := by rw [hp]; have h9 : ltC c (atD d a) (atD d i) = false := decide_eq_false c3; exact congrArg Bool.not h9
        rw [if_pos (by simp only [hl]; simp [c2])] at hx
        simp (disch := omega)
        have := ih (i + 1) (by omega) (by omega) [] ks Q hx
        simpa using this
      · intro c3
        have hl : p d[i]! = false := by rw [hp]; have h9 : ltC c (atD d a) (atD d i) = true := decide_eq_true c3; exact congrArg Bool.not h9
        rw [if_neg (by simp only [hl]; simp)] at hx
        simp (disch := omega)
        simpa [c3] using hx
    · have c1 : ¬ (i : Int) ≤ j := by omega
      rw [if_neg (by simp; omega)] at hx
      simp (disch := omega) [c1, c2]
      simpa [c2] using hx
theorem eq1 (hc : Cmp h0 b f cap c) (ha : Agree h0 b h) (a n : Nat) (d : Array Int) (hd : d.size = n) (hn : n < 1152921504606846976) (han : a < n) (i : Nat) (hi : 1 ≤ i) (hin : i ≤ n) (p : Int → Bool) (hp : ∀ x, p x = ltC c (atD d a) x) : ∀ (j : Nat), j < n → ∀ tl ks Q,
    Xk T ks (.x 4) [(0, .hs 1 b 0 n), (1, .int .i64 a), (4, .fn f cap), (11, .int .i64 i), (12, .int .i64 (Sort.scanDown p d i j : Nat)), (65, .bool false)] (SD h b d) Q →
    Xc T l_slices_partitionEqualCmpFunc_int_1 ks ([(0, .hs 1 b 0 n), (1, .int .i64 a), (4, .fn f cap), (11, .int .i64 i), (12, .int .i64 j)] ++ tl) (SD h b d) Q := by
  intro j
  have hb := hc.hb ha
  have hf := hc.free
  have r1 := SD_row hb d
  have ga := SD_getN d a (by omega)
  induction j with
  | zero =>
    intro hj tl ks Q hx
    rw [L_slices_partitionEqualCmpFunc_int_1]; unfold bl_slices_partitionEqualCmpFunc_int_1
    have c1 : ¬ (i : Int) ≤ (0 : Nat) := by omega
    have c2 : ¬ i = 0 := by omega
    have c4 : ¬ (i : Int) ≤ 0 := by omega
    unfold Sort.scanDown at hx
    simp (disch := omega) [c1, c2, c4]
    simpa [c2] using hx
  | succ j ih =>
    intro hj tl ks Q hx
    rw [L_slices_partitionEqualCmpFunc_int_1]; unfold bl_slices_partitionEqualCmpFunc_int_1
    unfold Sort.scanDown at hx
    by_cases c2 : i ≤ j + 1
    · have g0 := SD_getN d (j + 1) (by omega)
      have i1 : ((j : Int) + 1).toNat = j + 1 := by omega
      have c1 : (i : Int) ≤ j + 1 := by omega
      simp (disch := omega) [c1, c2, r1, g0, ga, hf, i1]
      rw [Xf_run (hc.sd ha d _ _)]
      simp (disch := omega)
      apply Xb_dec
      · intro c3
        have hl : p d[j + 1]! = true := by rw [hp]; exact decide_eq_true c3
        rw [if_pos (by simp only [hl]; simp [c2])] at hx
        have e1 : (j : Int) + 1 - 1 = j := by omega
        simp (disch := omega) [e1]
        have := ih (by omega) [] ks Q hx
        simpa using this
      · intro c3
        have hl : p d[j + 1]! = false := by rw [hp]; exact decide_eq_false c3
        rw [if_neg (by simp only [hl]; simp)] at hx
        simp (disch := omega)
        simpa [c3] using hx
    · have c1 : ¬ (i : Int) ≤ j + 1 := by omega
      rw [if_neg (by simp; omega)] at hx
      simp (disch := omega) [c1, c2]
      simpa [c2] using hx
end
end Ev
