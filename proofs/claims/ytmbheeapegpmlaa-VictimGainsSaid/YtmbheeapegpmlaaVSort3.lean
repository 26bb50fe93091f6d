/- The pivot's choice, turning a range about, and breaking patterns. Each theorem states its own conditions. -/
import Derived.Test.YtmbheeapegpmlaaVSort2
set_option linter.all false
namespace Ev
open Go
set_option maxRecDepth 10000
attribute [-simp] getElem?_pos getElem?_neg
section
variable {h0 h : Heap} {b f : Nat} {cap : List V} {c : Int → Int → Int}
theorem SD_app (hb : b < h.length) (d : Array Int) (k : Heap) : SD h b d ++ k = SD (h ++ k) b d := by
  unfold SD; rw [List.set_append_left _ _ hb]
theorem SW_app (z z' : Int) : SW (h ++ [some [.int .i64 z]]) h.length z' = h ++ [some [.int .i64 z']] := by
  unfold SW; rw [List.set_append_right _ _ (Nat.le_refl _)]; simp
def hintN : Sort.Hint → Int
  | .unknown => 0
  | .increasing => 1
  | .decreasing => 2
theorem tdiv4 (a : Int) (h : 0 ≤ a) : a.tdiv 4 = a / 4 := Int.tdiv_eq_ediv_of_nonneg h
theorem choose_run (hc : Cmp h0 b f cap c) (ha : Agree h0 b h) (d : Array Int) (a e : Nat) (hn : d.size < 50) (hae : a + 12 < e) (he : e ≤ d.size) :
    ∃ z : Int, Run T f_slices_choosePivotCmpFunc_int [.hs 1 b 0 d.size, .int .i64 a, .int .i64 e, .fn f cap] (SD h b d)
      (.tup [.int .i64 ((Sort.choosePivot (ltC c) d a e).1 : Nat), .int .i64 (hintN (Sort.choosePivot (ltC c) d a e).2)]) (SD (h ++ [some [.int .i64 z]]) b d) := by
  have hb := hc.hb ha
  have hr : ∀ (x y z : Nat), x < d.size → y < d.size → z < 1000 → (Sort.order2 (ltC c) d x y z).1 < d.size ∧ (Sort.order2 (ltC c) d x y z).2.1 < d.size ∧ (Sort.order2 (ltC c) d x y z).2.2 ≤ z + 1 := by
    intro x y z h1 h2 h3
    unfold Sort.order2
    split <;> refine ⟨?_, ?_, ?_⟩ <;> simp <;> omega
  obtain ⟨q, hq⟩ : ∃ q, q = (e - a) / 4 := ⟨_, rfl⟩
  have hcp : Sort.choosePivot (ltC c) d a e = ((Sort.median (ltC c) d (a + q * 1) (a + q * 2) (a + q * 3) 0).1, if (Sort.median (ltC c) d (a + q * 1) (a + q * 2) (a + q * 3) 0).2 = 0 then .increasing else if (Sort.median (ltC c) d (a + q * 1) (a + q * 2) (a + q * 3) 0).2 = 12 then .decreasing else .unknown) := by
    unfold Sort.choosePivot
    dsimp only
    rw [if_pos (show e - a ≥ 8 by omega), if_neg (show ¬ e - a ≥ 50 by omega), ← hq]
  rw [hcp]
  obtain ⟨x, hx⟩ : ∃ x, x = a + q * 1 := ⟨_, rfl⟩
  obtain ⟨y, hy⟩ : ∃ y, y = a + q * 2 := ⟨_, rfl⟩
  obtain ⟨w, hw⟩ : ∃ w, w = a + q * 3 := ⟨_, rfl⟩
  rw [← hx, ← hy, ← hw]
  refine ⟨((Sort.median (ltC c) d x y w 0).2 : Nat), ?_⟩
  refine Run.start t_slices_choosePivotCmpFunc_int ?_
  unfold k_slices_choosePivotCmpFunc_int
  obtain ⟨l, hl⟩ : ∃ l, l = e - a := ⟨_, rfl⟩
  have e1 : (e : Int) - a = (l : Int) := by omega
  have e2 : (l : Int).tdiv 4 = (q : Int) := by rw [tdiv4 _ (by omega)]; omega
  have e3 : (a : Int) + q * 2 = y := by omega
  have e4 : (a : Int) + q * 3 = w := by omega
  have e5 : (a : Int) + q = x := by omega
  have c1 : (8 : Int) ≤ l := by omega
  have c2 : ¬ (50 : Int) ≤ l := by omega
  have hh : SD h b d ++ [some [.int .i64 0]] = SD (SW (h ++ [some [.int .i64 0]]) h.length ((0 : Nat) : Int)) b d := by rw [SD_app hb]; simp [SW_app]
  simp (disch := omega) [e1, e2, e3, e4, e5, c1, c2, SD_len, hh]
  have haa := ha.app [some [.int .i64 0]]
  rw [Xf_run (by simpa using median_run hc haa h.length (by simp) ha.1 d x y w 0 (by omega) (by omega) (by omega) (by omega) (by omega))]
  generalize Sort.median (ltC c) d x y w 0 = r
  have hsb : h.length ≠ b := by omega
  have r2 : ∀ z : Int, (SD (h ++ [some [.int .i64 z]]) b d).row h.length = some [.int .i64 z] := fun z => by rw [row_SD hsb, row_new]
  by_cases c3 : r.2 = 0
  · simp (disch := omega) [c3, hintN, SW_app, r2]
  · by_cases c4 : r.2 = 12
    · simp (disch := omega) [c4, hintN, SW_app, r2]
    · have c5 : ¬ (r.2 : Int) = 12 := by omega
      simp (disch := omega) [c3, c4, c5, hintN, SW_app, r2]

theorem rev_loop (hb : b < h.length) (n : Nat) (hn : n < 1152921504606846976) : ∀ (m i j : Nat) (d : Array Int), j - i ≤ m → j < n → d.size = n → ∀ ks Q,
    (∀ e, Xk T ks (.x 0) e (SD h b (Sort.reverseLoop i j d)) Q) →
    Xc T l_slices_reverseRangeCmpFunc_int_0 ks [(0, .hs 1 b 0 n), (8, .int .i64 i), (9, .int .i64 j)] (SD h b d) Q := by
  intro m
  induction m with
  | zero =>
    intro i j d hm hj hd ks Q hx
    rw [L_slices_reverseRangeCmpFunc_int_0]; unfold bl_slices_reverseRangeCmpFunc_int_0
    unfold Sort.reverseLoop at hx
    rw [if_neg (by omega)] at hx
    have c1 : ¬ (i : Int) < j := by omega
    have c2 : ¬ i < j := by omega
    simp (disch := omega) [c1, c2]
    exact hx _
  | succ m ih =>
    intro i j d hm hj hd ks Q hx
    rw [L_slices_reverseRangeCmpFunc_int_0]; unfold bl_slices_reverseRangeCmpFunc_int_0
    unfold Sort.reverseLoop at hx
    by_cases c2 : i < j
    · rw [if_pos c2] at hx
      have r1 := SD_row hb d
      have gl := SD_ints d
      have hbs := SD_lt hb d
      have g0 := SD_getN d i (by omega)
      have g1 := SD_getN d j (by omega)
      have e1 : (j : Int) - 1 = ((j - 1 : Nat) : Int) := by omega
      simp (disch := omega) [c2, r1, g0, g1, gl]
      have := ih (i + 1) (j - 1) (Sort.swp d i j) (by omega) (by omega) (by rw [swp_size]; exact hd) ks Q hx
      rw [e1]
      simpa using this
    · rw [if_neg c2] at hx
      have c1 : ¬ (i : Int) < j := by omega
      simp (disch := omega) [c1, c2]
      exact hx _
theorem rev_run (hb : b < h.length) (d : Array Int) (a e : Nat) (hn : d.size < 1152921504606846976) (hae : a < e) (he : e ≤ d.size) :
    Run T f_slices_reverseRangeCmpFunc_int [.hs 1 b 0 d.size, .int .i64 a, .int .i64 e, .fn f cap] (SD h b d) (.tup []) (SD h b (Sort.reverseRange d a e)) := by
  refine Run.start t_slices_reverseRangeCmpFunc_int ?_
  unfold k_slices_reverseRangeCmpFunc_int Sort.reverseRange
  obtain ⟨j, hj⟩ : ∃ j, j = e - 1 := ⟨_, rfl⟩
  have e1 : (e : Int) - 1 = (j : Int) := by omega
  rw [← hj]
  simp (disch := omega) [e1]
  refine rev_loop hb d.size hn (j - a) a j d (by omega) (by omega) rfl _ _ fun e => ?_
  simp
end
end Ev
