/- The partitions, joined. Each theorem states its own conditions. -/
import Derived.Test.YtmbheeapegpmlaaVSort6
set_option linter.all false
namespace Ev
open Go
set_option maxRecDepth 10000
attribute [-simp] getElem?_pos getElem?_neg
theorem hpos1 {c : Int → Int → Int} {d : Array Int} {a : Nat} : ∀ x, (fun x => ltC c x d[a]!) x = ltC c x (atD d a) := fun _ => rfl
theorem hneg1 {c : Int → Int → Int} {d : Array Int} {a : Nat} : ∀ x, (fun x => !ltC c x d[a]!) x = !ltC c x (atD d a) := fun _ => rfl
theorem hneg2 {c : Int → Int → Int} {d : Array Int} {a : Nat} : ∀ x, (fun x => !ltC c d[a]! x) x = !ltC c (atD d a) x := fun _ => rfl
theorem hpos2 {c : Int → Int → Int} {d : Array Int} {a : Nat} : ∀ x, (fun x => ltC c d[a]! x) x = ltC c (atD d a) x := fun _ => rfl
theorem scanUp_len (p : Int → Bool) (d : Array Int) (j n : Nat) (hj : j < n) (i : Nat) (hi : i ≤ n) : Sort.scanUp p d j i ≤ n := by
  by_cases h : i ≤ j + 1
  · have := (Sort.scanUp_spec p d j _ i rfl).2.1 h
    omega
  · unfold Sort.scanUp
    rw [if_neg (by simp; omega)]
    exact hi
section
variable {h0 h : Heap} {b f : Nat} {cap : List V} {c : Int → Int → Int}
theorem pl_loop (hc : Cmp h0 b f cap c) (ha : Agree h0 b h) (a n : Nat) (hn : n < 1152921504606846976) (han : a < n) : ∀ (m i j : Nat) (d : Array Int), j + 1 - i ≤ m → a < i → i ≤ n → j < n → d.size = n → ∀ tl ks Q,
    (∀ i' e, (Sort.partLoop (ltC c) a i j d).1 < n → (Sort.partLoop (ltC c) a i j d).2.size = n → Xk T ks (.x 4) ([(0, .hs 1 b 0 n), (1, .int .i64 a), (4, .fn f cap), (12, .int .i64 i'), (13, .int .i64 ((Sort.partLoop (ltC c) a i j d).1 : Nat))] ++ e) (SD h b (Sort.partLoop (ltC c) a i j d).2) Q) →
    Xc T l_slices_partitionCmpFunc_int_4 ks ([(0, .hs 1 b 0 n), (1, .int .i64 a), (4, .fn f cap), (12, .int .i64 i), (13, .int .i64 j)] ++ tl) (SD h b d) Q := by
  intro m
  have hb := hc.hb ha
  have hf := hc.free
  induction m with
  | zero =>
    intro i j d hm hai hi hj hd tl ks Q hx
    rw [L_slices_partitionCmpFunc_int_4]; unfold bl_slices_partitionCmpFunc_int_4
    rw [Sort.partLoop_eq] at hx
    have u1 := Sort.scanUp_ge (fun x => ltC c x d[a]!) d j i
    have u2 := scanUp_len (fun x => ltC c x d[a]!) d j n hj i hi
    simp (disch := omega)
    have hu := up2 hc ha a n d hd hn han j hj (fun x => ltC c x d[a]!) hpos1 _ i (Nat.le_refl _) hi []
    simp only [List.append_nil] at hu
    refine hu _ _ ?_
    generalize Sort.scanUp (fun x => ltC c x d[a]!) d j i = i2 at *
    simp (disch := omega)
    refine dn3 hc ha a n d hd hn han i2 (by omega) (by omega) (fun x => !ltC c x d[a]!) hneg1 j hj [(120, .bool false)] _ _ ?_
    have v1 := Sort.scanDown_le (fun x => !ltC c x d[a]!) d i2 j
    generalize Sort.scanDown (fun x => !ltC c x d[a]!) d i2 j = j2 at *
    rw [if_pos (show i2 > j2 by omega)] at hx
    have c1 : (j2 : Int) < i2 := by omega
    simp (disch := omega) [c1]
    have := hx i2 [(144, .bool true)] (by omega) hd
    simpa using this
  | succ m ih =>
    intro i j d hm hai hi hj hd tl ks Q hx
    rw [L_slices_partitionCmpFunc_int_4]; unfold bl_slices_partitionCmpFunc_int_4
    rw [Sort.partLoop_eq] at hx
    have u1 := Sort.scanUp_ge (fun x => ltC c x d[a]!) d j i
    have u2 := scanUp_len (fun x => ltC c x d[a]!) d j n hj i hi
    simp (disch := omega)
    have hu := up2 hc ha a n d hd hn han j hj (fun x => ltC c x d[a]!) hpos1 _ i (Nat.le_refl _) hi []
    simp only [List.append_nil] at hu
    refine hu _ _ ?_
    generalize Sort.scanUp (fun x => ltC c x d[a]!) d j i = i2 at *
    simp (disch := omega)
    refine dn3 hc ha a n d hd hn han i2 (by omega) (by omega) (fun x => !ltC c x d[a]!) hneg1 j hj [(120, .bool false)] _ _ ?_
    have v1 := Sort.scanDown_le (fun x => !ltC c x d[a]!) d i2 j
    generalize Sort.scanDown (fun x => !ltC c x d[a]!) d i2 j = j2 at *
    by_cases c2 : i2 > j2
    · rw [if_pos c2] at hx
      have c1 : (j2 : Int) < i2 := by omega
      simp (disch := omega) [c1]
      have := hx i2 [(144, .bool true)] (by omega) hd
      simpa using this
    · rw [if_neg c2] at hx
      have c1 : ¬ (j2 : Int) < i2 := by omega
      have c3 : ¬ j2 < i2 := by omega
      have r1 := SD_row hb d
      have gl := SD_ints d
      have hbs := SD_lt hb d
      have g0 := SD_getN d i2 (by omega)
      have g1 := SD_getN d j2 (by omega)
      have e1 : (j2 : Int) - 1 = ((j2 - 1 : Nat) : Int) := by omega
      simp (disch := omega) [c1, c3, r1, g0, g1, gl]
      have := ih (i2 + 1) (j2 - 1) (Sort.swp d i2 j2) (by omega) (by omega) (by omega) (by omega) (by rw [swp_size]; exact hd) [] ks Q hx
      rw [e1]
      simpa using this
theorem partn_run (hc : Cmp h0 b f cap c) (ha : Agree h0 b h) (d : Array Int) (a e pv : Nat) (hn : d.size < 1152921504606846976) (hae : a + 2 < e) (he : e ≤ d.size) (hpa : a ≤ pv) (hpe : pv < e) :
    Run T f_slices_partitionCmpFunc_int [.hs 1 b 0 d.size, .int .i64 a, .int .i64 e, .int .i64 pv, .fn f cap] (SD h b d)
      (.tup [.int .i64 ((Sort.partition (ltC c) d a e pv).1 : Nat), .bool (Sort.partition (ltC c) d a e pv).2.1]) (SD h b (Sort.partition (ltC c) d a e pv).2.2) := by
  generalize hP : Sort.partition (ltC c) d a e pv = P
  refine Run.start t_slices_partitionCmpFunc_int ?_
  unfold k_slices_partitionCmpFunc_int
  unfold Sort.partition at hP
  have hb := hc.hb ha
  have r1 := SD_row hb d
  have gl := SD_ints d
  have hbs := SD_lt hb d
  have g0 := SD_getN d a (by omega)
  have g1 := SD_getN d pv (by omega)
  obtain ⟨j, hj⟩ : ∃ j, j = e - 1 := ⟨_, rfl⟩
  have e1 : (e : Int) - 1 = (j : Int) := by omega
  simp only [← hj] at hP
  simp (disch := omega) [r1, g0, g1, gl, e1]
  have hd : (Sort.swp d a pv).size = d.size := swp_size _ _ _
  generalize Sort.swp d a pv = d1 at *
  generalize d.size = n at *
  clear g0 g1 r1 gl hbs
  have u1 := Sort.scanUp_ge (fun x => ltC c x d1[a]!) d1 j (a + 1)
  have u2 := scanUp_len (fun x => ltC c x d1[a]!) d1 j n (by omega) (a + 1) (by omega)
  have hu := up0 hc ha a n d1 hd hn (by omega) j (by omega) (fun x => ltC c x d1[a]!) hpos1 _ (a + 1) (Nat.le_refl _) (by omega) []
  simp only [List.append_nil] at hu
  simp only [Int.natCast_add, Int.cast_ofNat_Int] at hu
  refine hu _ _ ?_
  generalize Sort.scanUp (fun x => ltC c x d1[a]!) d1 j (a + 1) = i2 at *
  simp (disch := omega)
  refine dn1 hc ha a n d1 hd hn (by omega) i2 (by omega) (by omega) (fun x => !ltC c x d1[a]!) hneg1 j (by omega) [(47, .bool false)] _ _ ?_
  have v1 := Sort.scanDown_le (fun x => !ltC c x d1[a]!) d1 i2 j
  generalize Sort.scanDown (fun x => !ltC c x d1[a]!) d1 i2 j = j2 at *
  have r1 := SD_row hb d1
  have gl := SD_ints d1
  have hbs := SD_lt hb d1
  have g0 := SD_getN d1 a (by omega)
  have g1 := SD_getN d1 j2 (by omega)
  by_cases c2 : i2 > j2
  · have c1 : (j2 : Int) < i2 := by omega
    have c3 : j2 < i2 := by omega
    rw [if_pos c2] at hP
    subst hP
    simp (disch := omega) [c1, c3, r1, g0, g1, gl]
  · have c1 : ¬ (j2 : Int) < i2 := by omega
    have c3 : ¬ j2 < i2 := by omega
    rw [if_neg c2] at hP
    have g2 := SD_getN d1 i2 (by omega)
    have e2 : (j2 : Int) - 1 = ((j2 - 1 : Nat) : Int) := by omega
    simp (disch := omega) [c1, c3, r1, g0, g1, g2, gl, e2]
    have hl := pl_loop hc ha a n hn (by omega) (j2 + 1 - i2) (i2 + 1) (j2 - 1) (Sort.swp d1 i2 j2) (by omega) (by omega) (by omega) (by omega) (by rw [swp_size]; exact hd) []
    simp only [Int.natCast_add, Int.cast_ofNat_Int, List.append_nil] at hl
    refine hl _ _ ?_
    generalize Sort.partLoop (ltC c) a (i2 + 1) (j2 - 1) (Sort.swp d1 i2 j2) = r at *
    subst hP
    intro i' tl k1 k2
    have r1 := SD_row hb r.2
    have gl := SD_ints r.2
    have hbs := SD_lt hb r.2
    have g0 := SD_getN r.2 a (by omega)
    have g1 := SD_getN r.2 r.1 (by omega)
    simp (disch := omega) [r1, g0, g1, gl]
end
end Ev
