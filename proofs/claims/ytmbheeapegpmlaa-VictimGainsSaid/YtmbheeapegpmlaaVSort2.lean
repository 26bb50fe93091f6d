/- Heap sort of the library with a comparison, and the helpers that choose. Each theorem states its own conditions. -/
import Derived.Test.YtmbheeapegpmlaaVSort
set_option linter.all false
namespace Ev
open Go
set_option maxRecDepth 10000
attribute [-simp] getElem?_pos getElem?_neg
section
variable {h0 h : Heap} {b f : Nat} {cap : List V} {c : Int → Int → Int}
theorem build_size (lt : Int → Int → Bool) (hi first : Nat) : ∀ (k : Nat) (d : Array Int), (Sort.heapBuild lt hi first k d).size = d.size
  | 0, d => rfl
  | k + 1, d => by
    unfold Sort.heapBuild
    rw [build_size lt hi first k, siftDown_size _ _ _ _ _ _ (Nat.le_refl _)]
theorem pop_size (lt : Int → Int → Bool) (first : Nat) : ∀ (k : Nat) (d : Array Int), (Sort.heapPop lt first k d).size = d.size
  | 0, d => rfl
  | k + 1, d => by
    unfold Sort.heapPop
    rw [pop_size lt first k, siftDown_size _ _ _ _ _ _ (Nat.le_refl _), swp_size]
theorem heapSort_size (lt : Int → Int → Bool) (d : Array Int) (a e : Nat) : (Sort.heapSort lt d a e).size = d.size := by
  unfold Sort.heapSort; rw [pop_size, build_size]
theorem pop_loop (hc : Cmp h0 b f cap c) (ha : Agree h0 b h) (first n : Nat) (hn : n < 1152921504606846976) : ∀ (k : Nat) (d : Array Int), d.size = n → first + k ≤ n → ∀ ks Q,
    (∀ e, Xk T ks (.x 2) e (SD h b (Sort.heapPop (ltC c) first k d)) Q) →
    Xc T l_slices_heapSortCmpFunc_int_1 ks [(0, .hs 1 b 0 n), (3, .fn f cap), (8, .int .i64 first), (9, .int .i64 0), (12, .int .i64 ((k : Int) - 1))] (SD h b d) Q := by
  intro k
  have hb := hc.hb ha
  induction k with
  | zero =>
    intro d hd hk ks Q hx
    rw [L_slices_heapSortCmpFunc_int_1]; unfold bl_slices_heapSortCmpFunc_int_1
    simp (disch := omega)
    exact hx _
  | succ k ih =>
    intro d hd hk ks Q hx
    rw [L_slices_heapSortCmpFunc_int_1]; unfold bl_slices_heapSortCmpFunc_int_1
    have e1 : ((k : Int) + 1 - 1) = k := by omega
    have r1 := SD_row hb d
    have gl := SD_ints d
    have hbs := SD_lt hb d
    have g0 := SD_getN d first (by omega)
    have g1 := SD_getN d (first + k) (by omega)
    have i1 : ((first : Int) + k).toNat = first + k := by omega
    simp (disch := omega) [e1, i1, r1, g0, g1, gl]
    have hsz : (Sort.swp d first (first + k)).size = n := by rw [swp_size]; exact hd
    subst hsz
    rw [Xf_run (by simpa using sift_run hc ha (Sort.swp d first (first + k)) 0 k first hn (by omega) (by omega))]
    simp (disch := omega)
    have := ih (Sort.siftDown (ltC c) k first 0 (Sort.swp d first (first + k))) (siftDown_size _ _ _ _ _ _ (Nat.le_refl _)) (by omega) ks Q hx
    simpa using this
theorem tdiv2 (a : Int) (h : 0 ≤ a) : a.tdiv 2 = a / 2 := Int.tdiv_eq_ediv_of_nonneg h
theorem heap_run (hc : Cmp h0 b f cap c) (ha : Agree h0 b h) (d : Array Int) (a e : Nat) (hn : d.size < 1152921504606846976) (hae : a < e) (he : e ≤ d.size) :
    Run T f_slices_heapSortCmpFunc_int [.hs 1 b 0 d.size, .int .i64 a, .int .i64 e, .fn f cap] (SD h b d) (.tup []) (SD h b (Sort.heapSort (ltC c) d a e)) := by
  refine Run.start t_slices_heapSortCmpFunc_int ?_
  unfold k_slices_heapSortCmpFunc_int
  obtain ⟨m, hm⟩ : ∃ m, m = e - a := ⟨_, rfl⟩
  obtain ⟨k, hk⟩ : ∃ k, k = (m - 1) / 2 + 1 := ⟨_, rfl⟩
  have e1 : (e : Int) - a = (m : Int) := by omega
  have e2 : ((m : Int) - 1).tdiv 2 = ((k : Int) - 1) := by
    rw [tdiv2 _ (by omega)]; omega
  unfold Sort.heapSort
  rw [← hm, ← hk]
  simp (disch := omega) [e1, e2]
  refine build_loop hc ha m a d.size hn (by omega) k d rfl (by omega) _ _ fun tl => ?_
  simp (disch := omega)
  refine pop_loop hc ha a d.size hn m _ (build_size _ _ _ _ _) (by omega) _ _ fun e => ?_
  simp (disch := omega)

/-! ### Choosing -/
/-- A heap with the row that is sorted and a counter. -/
theorem row_SD {r : Nat} (hr : r ≠ b) (d : Array Int) : (SD h b d).row r = h.row r := by unfold SD; exact row_ne (fun e => hr e.symm)
theorem set_SD {r : Nat} (hr : r ≠ b) (d : Array Int) (X : Option (List V)) : (SD h b d).set r X = SD (h.set r X) b d := by
  unfold SD; exact (List.set_comm _ _ (fun e => hr e.symm))
/-- A counter's cell, at row s. -/
def SW (h : Heap) (s : Nat) (z : Int) : Heap := h.set s (some [.int .i64 z])
theorem SW_len (s : Nat) (z : Int) : (SW h s z).length = h.length := by simp [SW]
theorem SW_row {s : Nat} (hs : s < h.length) (z : Int) : (SW h s z).row s = some [.int .i64 z] := by unfold SW; rw [row_set hs]
theorem SW_set {s : Nat} (z z' : Int) : (SW h s z).set s (some [.int .i64 z']) = SW h s z' := by unfold SW; rw [List.set_set]
theorem Agree.sw {g : Heap} (ha : Agree h0 b g) {s : Nat} (hs : h0.length ≤ s) (z : Int) : Agree h0 b (SW g s z) := ⟨by rw [SW_len]; exact ha.1, fun r h1 h2 => by
  unfold SW; rw [row_ne (by omega)]; exact ha.2 r h1 h2⟩
theorem ord2_run (hc : Cmp h0 b f cap c) (ha : Agree h0 b h) (s : Nat) (hs : s < h.length) (hs0 : h0.length ≤ s) (d : Array Int) (x y z : Nat) (hx : x < d.size) (hy : y < d.size) (hn : d.size < 1152921504606846976) (hz : z < 1000) :
    Run T f_slices_order2CmpFunc_int [.hs 1 b 0 d.size, .int .i64 x, .int .i64 y, .ptr s 0, .fn f cap] (SD (SW h s z) b d)
      (.tup [.int .i64 ((Sort.order2 (ltC c) d x y z).1 : Nat), .int .i64 ((Sort.order2 (ltC c) d x y z).2.1 : Nat)]) (SD (SW h s ((Sort.order2 (ltC c) d x y z).2.2 : Nat)) b d) := by
  refine Run.start t_slices_order2CmpFunc_int ?_
  unfold k_slices_order2CmpFunc_int
  have haw := fun z => ha.sw hs0 z
  have hb := hc.hb (haw z)
  have r1 := SD_row hb d
  have g0 := SD_getN d x hx
  have g1 := SD_getN d y hy
  have hf := hc.free
  have hsb : s ≠ b := by have := hc.lt; omega
  have r2 : (SD (SW h s z) b d).row s = some [.int .i64 z] := by rw [row_SD hsb, SW_row hs]
  have hlt : s < List.length (SD (SW h s z) b d) := by rw [SD_len, SW_len]; exact hs
  simp (disch := omega) [r1, g0, g1, hf]
  rw [Xf_run (hc.sd (haw z) d _ _)]
  simp (disch := omega)
  apply Xb_dec
  · intro c3
    have hl : ltC c d[y]! d[x]! = true := decide_eq_true c3
    have ho : Sort.order2 (ltC c) d x y z = (y, x, z + 1) := by unfold Sort.order2; rw [if_pos hl]
    simp (disch := omega) [r2, hlt]
    rw [set_SD hsb, SW_set, ho]
    simp
  · intro c3
    have hl : ltC c d[y]! d[x]! = false := decide_eq_false c3
    have ho : Sort.order2 (ltC c) d x y z = (x, y, z) := by unfold Sort.order2; rw [if_neg (by rw [hl]; simp)]
    simp (disch := omega) [ho]
theorem median_run (hc : Cmp h0 b f cap c) (ha : Agree h0 b h) (s : Nat) (hs : s < h.length) (hs0 : h0.length ≤ s) (d : Array Int) (x y w z : Nat) (hx : x < d.size) (hy : y < d.size) (hw : w < d.size) (hn : d.size < 1152921504606846976) (hz : z < 900) :
    Run T f_slices_medianCmpFunc_int [.hs 1 b 0 d.size, .int .i64 x, .int .i64 y, .int .i64 w, .ptr s 0, .fn f cap] (SD (SW h s z) b d)
      (.int .i64 ((Sort.median (ltC c) d x y w z).1 : Nat)) (SD (SW h s ((Sort.median (ltC c) d x y w z).2 : Nat)) b d) := by
  refine Run.start t_slices_medianCmpFunc_int ?_
  unfold k_slices_medianCmpFunc_int Sort.median
  have hr : ∀ (x y z : Nat), x < d.size → y < d.size → z < 1000 → (Sort.order2 (ltC c) d x y z).1 < d.size ∧ (Sort.order2 (ltC c) d x y z).2.1 < d.size ∧ (Sort.order2 (ltC c) d x y z).2.2 ≤ z + 1 := by
    intro x y z h1 h2 h3
    unfold Sort.order2
    split <;> refine ⟨?_, ?_, ?_⟩ <;> simp <;> omega
  simp (disch := omega)
  rw [Xf_run (ord2_run hc ha s hs hs0 d x y z hx hy hn (by omega))]
  have k1 := hr x y z hx hy (by omega)
  generalize Sort.order2 (ltC c) d x y z = r1 at k1
  obtain ⟨k1, k2, k3⟩ := k1
  simp (disch := omega)
  rw [Xf_run (ord2_run hc ha s hs hs0 d r1.2.1 w r1.2.2 k2 hw hn (by omega))]
  have l1 := hr r1.2.1 w r1.2.2 k2 hw (by omega)
  generalize Sort.order2 (ltC c) d r1.2.1 w r1.2.2 = r2 at l1
  obtain ⟨l1, l2, l3⟩ := l1
  simp (disch := omega)
  rw [Xf_run (ord2_run hc ha s hs hs0 d r1.1 r2.1 r2.2.2 k1 l1 hn (by omega))]
  simp (disch := omega)

end
end Ev
