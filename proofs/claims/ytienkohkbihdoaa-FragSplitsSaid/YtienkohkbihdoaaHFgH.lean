/- Pairs that stand in falling order, sorted. Each theorem states its own conditions. -/
import Derived.Test.YtienkohkbihdoaaHCode
import Derived.Test.YtienkohkbihdoaaHFg
set_option linter.all false
namespace Ev
open Go
set_option maxRecDepth 10000
attribute [-simp] getElem?_pos getElem?_neg
theorem FgTab : ∀ m, m < 256 → 1 ≤ m → (([0, 1, 2, 2, 3, 3, 3, 3, 4, 4, 4, 4, 4, 4, 4, 4, 5, 5, 5, 5, 5, 5, 5, 5, 5, 5, 5, 5, 5, 5, 5, 5, 6, 6, 6, 6, 6, 6, 6, 6, 6, 6, 6, 6, 6, 6, 6, 6, 6, 6, 6, 6, 6, 6, 6, 6, 6, 6, 6, 6, 6, 6, 6, 6, 7, 7, 7, 7, 7, 7, 7, 7, 7, 7, 7, 7, 7, 7, 7, 7, 7, 7, 7, 7, 7, 7, 7, 7, 7, 7, 7, 7, 7, 7, 7, 7, 7, 7, 7, 7, 7, 7, 7, 7, 7, 7, 7, 7, 7, 7, 7, 7, 7, 7, 7, 7, 7, 7, 7, 7, 7, 7, 7, 7, 7, 7, 7, 7, 8, 8, 8, 8, 8, 8, 8, 8, 8, 8, 8, 8, 8, 8, 8, 8, 8, 8, 8, 8, 8, 8, 8, 8, 8, 8, 8, 8, 8, 8, 8, 8, 8, 8, 8, 8, 8, 8, 8, 8, 8, 8, 8, 8, 8, 8, 8, 8, 8, 8, 8, 8, 8, 8, 8, 8, 8, 8, 8, 8, 8, 8, 8, 8, 8, 8, 8, 8, 8, 8, 8, 8, 8, 8, 8, 8, 8, 8, 8, 8, 8, 8, 8, 8, 8, 8, 8, 8, 8, 8, 8, 8, 8, 8, 8, 8, 8, 8, 8, 8, 8, 8, 8, 8, 8, 8, 8, 8, 8, 8, 8, 8, 8, 8, 8, 8, 8, 8, 8, 8, 8, 8, 8, 8, 8, 8, 8, 8] : List UInt8)[m]?).any (fun y => decide (0 < y.toNat) && decide (y.toNat ≤ 8)) = true := by decide +kernel
theorem FgLen64_run (n : Nat) (h1 : 64 ≤ n) (h2 : n < 1024) (h : Heap) : ∃ k : Nat, 0 < k ∧ k < 1000 ∧ Run T f_math_bits_Len64 [.int .u64 n] h (.int .i64 k) h := by
  have c1 : ¬ (4294967296 : Int) ≤ n := by omega
  have c2 : ¬ (65536 : Int) ≤ n := by omega
  have get : ∀ m, m < 256 → 1 ≤ m → ∃ y : UInt8, ([0, 1, 2, 2, 3, 3, 3, 3, 4, 4, 4, 4, 4, 4, 4, 4, 5, 5, 5, 5, 5, 5, 5, 5, 5, 5, 5, 5, 5, 5, 5, 5, 6, 6, 6, 6, 6, 6, 6, 6, 6, 6, 6, 6, 6, 6, 6, 6, 6, 6, 6, 6, 6, 6, 6, 6, 6, 6, 6, 6, 6, 6, 6, 6, 7, 7, 7, 7, 7, 7, 7, 7, 7, 7, 7, 7, 7, 7, 7, 7, 7, 7, 7, 7, 7, 7, 7, 7, 7, 7, 7, 7, 7, 7, 7, 7, 7, 7, 7, 7, 7, 7, 7, 7, 7, 7, 7, 7, 7, 7, 7, 7, 7, 7, 7, 7, 7, 7, 7, 7, 7, 7, 7, 7, 7, 7, 7, 7, 8, 8, 8, 8, 8, 8, 8, 8, 8, 8, 8, 8, 8, 8, 8, 8, 8, 8, 8, 8, 8, 8, 8, 8, 8, 8, 8, 8, 8, 8, 8, 8, 8, 8, 8, 8, 8, 8, 8, 8, 8, 8, 8, 8, 8, 8, 8, 8, 8, 8, 8, 8, 8, 8, 8, 8, 8, 8, 8, 8, 8, 8, 8, 8, 8, 8, 8, 8, 8, 8, 8, 8, 8, 8, 8, 8, 8, 8, 8, 8, 8, 8, 8, 8, 8, 8, 8, 8, 8, 8, 8, 8, 8, 8, 8, 8, 8, 8, 8, 8, 8, 8, 8, 8, 8, 8, 8, 8, 8, 8, 8, 8, 8, 8, 8, 8, 8, 8, 8, 8, 8, 8, 8, 8, 8, 8, 8, 8] : List UInt8)[m]? = some y ∧ 0 < y.toNat ∧ y.toNat ≤ 8 := fun m a b => by
    have := FgTab m a b
    revert this
    cases ([0, 1, 2, 2, 3, 3, 3, 3, 4, 4, 4, 4, 4, 4, 4, 4, 5, 5, 5, 5, 5, 5, 5, 5, 5, 5, 5, 5, 5, 5, 5, 5, 6, 6, 6, 6, 6, 6, 6, 6, 6, 6, 6, 6, 6, 6, 6, 6, 6, 6, 6, 6, 6, 6, 6, 6, 6, 6, 6, 6, 6, 6, 6, 6, 7, 7, 7, 7, 7, 7, 7, 7, 7, 7, 7, 7, 7, 7, 7, 7, 7, 7, 7, 7, 7, 7, 7, 7, 7, 7, 7, 7, 7, 7, 7, 7, 7, 7, 7, 7, 7, 7, 7, 7, 7, 7, 7, 7, 7, 7, 7, 7, 7, 7, 7, 7, 7, 7, 7, 7, 7, 7, 7, 7, 7, 7, 7, 7, 8, 8, 8, 8, 8, 8, 8, 8, 8, 8, 8, 8, 8, 8, 8, 8, 8, 8, 8, 8, 8, 8, 8, 8, 8, 8, 8, 8, 8, 8, 8, 8, 8, 8, 8, 8, 8, 8, 8, 8, 8, 8, 8, 8, 8, 8, 8, 8, 8, 8, 8, 8, 8, 8, 8, 8, 8, 8, 8, 8, 8, 8, 8, 8, 8, 8, 8, 8, 8, 8, 8, 8, 8, 8, 8, 8, 8, 8, 8, 8, 8, 8, 8, 8, 8, 8, 8, 8, 8, 8, 8, 8, 8, 8, 8, 8, 8, 8, 8, 8, 8, 8, 8, 8, 8, 8, 8, 8, 8, 8, 8, 8, 8, 8, 8, 8, 8, 8, 8, 8, 8, 8, 8, 8, 8, 8, 8, 8] : List UInt8)[m]? with
    | none => intro q; cases q
    | some y => intro q; simp only [Option.any_some, Bool.and_eq_true, decide_eq_true_eq] at q; exact ⟨y, rfl, q⟩
  by_cases c3 : n < 256
  · obtain ⟨y, g, y0, y8⟩ := get n c3 (by omega)
    have c3' : ¬ (256 : Int) ≤ n := by omega
    refine ⟨y.toNat, y0, by omega, ?_⟩
    refine Run.start t_math_bits_Len64 ?_
    unfold k_math_bits_Len64
    simp (disch := omega) [c1, c2, c3', g, byteV]
  · obtain ⟨y, g, y0, y8⟩ := get (n / 256) (by omega) (by omega)
    have c3' : (256 : Int) ≤ n := by omega
    obtain ⟨m, hm⟩ : ∃ m, m = n / 256 := ⟨_, rfl⟩
    rw [← hm] at g
    have e1 : (n : Int).fdiv 256 = m := by rw [Int.fdiv_eq_ediv_of_nonneg _ (by omega)]; omega
    refine ⟨8 + y.toNat, by omega, by omega, ?_⟩
    refine Run.start t_math_bits_Len64 ?_
    unfold k_math_bits_Len64
    simp (disch := omega) [c1, c2, c3', g, byteV, e1, IntKind.bits]
theorem FgLen_run (n : Nat) (h1 : 64 ≤ n) (h2 : n < 1024) (h : Heap) : ∃ k : Nat, 0 < k ∧ k < 1000 ∧ Run T f_math_bits_Len [.int .u64 n] h (.int .i64 k) h := by
  obtain ⟨k, k0, k1, r⟩ := FgLen64_run n h1 h2 []
  refine ⟨k, k0, k1, Run.start t_math_bits_Len ?_⟩
  unfold k_math_bits_Len
  simp (disch := omega)
  rw [Xp_run r (by simp) (by simp) (by simp)]
  simp (disch := omega)
theorem FgLim_run (n : Nat) (h1 : 50 ≤ n) (h2 : n < 1024) (h : Heap) : ∃ k : Nat, 0 < k ∧ k < 1000 ∧ Run T f_math_bits_Len [.int .u64 n] h (.int .i64 k) h := by
  by_cases c : n < 64
  · have q : ∀ n, n < 64 → 50 ≤ n → 0 < Sort.bitsLen n := by decide +kernel
    have := bitsLen_le n c
    exact ⟨_, q n c h1, by omega, len_run h n c⟩
  · exact FgLen_run n (by omega) h2 h
section
variable {tv : List V} {h0 h : Heap} {b f : Nat} {cap : List V} {c : Pr → Pr → Int}
/-- In falling order. -/
def Dec (lt : Pr → Pr → Bool) (d : Array Pr) : Prop := ∀ i j, i < j → j < d.size → lt d[j]! d[i]! = true
theorem dec_ord2 {lt : Pr → Pr → Bool} {d : Array Pr} (hd : Dec lt d) {x y : Nat} (z : Nat) (h : x < y) (hy : y < d.size) : Sort.order2 lt d x y z = (y, x, z + 1) := by
  unfold Sort.order2; rw [if_pos (hd x y h hy)]
theorem dec_med {lt : Pr → Pr → Bool} {d : Array Pr} (hd : Dec lt d) {x y w : Nat} (z : Nat) (h1 : x < y) (h2 : y < w) (hw : w < d.size) : Sort.median lt d x y w z = (y, z + 3) := by
  unfold Sort.median
  rw [dec_ord2 hd z h1 (by omega)]
  simp only
  rw [dec_ord2 hd (z + 1) (show x < w by omega) hw]
  simp only
  rw [dec_ord2 hd (z + 1 + 1) h2 hw]
theorem FgAdj_run (hc : Cmp h0 b f cap c) (ha : Agree h0 b h) (s : Nat) (hs : s < h.length) (hs0 : h0.length ≤ s) (d : Array Pr) (hd : Dec (ltC c) d) (x z : Nat) (h1 : 1 ≤ x) (hw : x + 1 < d.size) (hn : d.size < 1152921504606846976) (hz : z < 900) :
    Run T f_slices_medianAdjacentCmpFunc_2_uint64 [.hs 2 b 0 d.size, .int .i64 x, .ptr s 0, .fn f cap] (SD tv (SW h s z) b d)
      (.int .i64 x) (SD tv (SW h s ((z + 3 : Nat) : Int)) b d) := by
  have r := median_run (tv := tv) hc ha s hs hs0 d (x - 1) x (x + 1) z (by omega) (by omega) hw hn hz
  rw [dec_med hd z (by omega) (by omega) hw] at r
  refine Run.start t_slices_medianAdjacentCmpFunc_2_uint64 ?_
  unfold k_slices_medianAdjacentCmpFunc_2_uint64
  have e1 : (x : Int) - 1 = ((x - 1 : Nat) : Int) := by omega
  simp (disch := omega) [e1]
  rw [Xf_run (by simpa using r)]
  simp (disch := omega)
theorem FgPick_run (hc : Cmp h0 b f cap c) (ha : Agree h0 b h) (d : Array Pr) (hd : Dec (ltC c) d) (h50 : 50 ≤ d.size) (hn : d.size < 1024) :
    ∃ (g : Heap) (p : Nat), Agree h0 b g ∧ p < d.size ∧ Run T f_slices_choosePivotCmpFunc_2_uint64 [.hs 2 b 0 d.size, .int .i64 0, .int .i64 d.size, .fn f cap] (SD tv h b d)
      (.tup [.int .i64 p, .int .i64 2]) (SD tv g b d) := by
  have hb := hc.hb ha
  obtain ⟨q, hq⟩ : ∃ q, q = d.size / 4 := ⟨_, rfl⟩
  have e2 : (d.size : Int).tdiv 4 = (q : Int) := by rw [tdiv4 _ (by omega)]; omega
  have c1 : (8 : Int) ≤ d.size := by omega
  have c2 : (50 : Int) ≤ d.size := by omega
  have hh : SD tv h b d ++ [some [.int .i64 0]] = SD tv (SW (h ++ [some [.int .i64 0]]) h.length ((0 : Nat) : Int)) b d := by rw [SD_app hb]; simp [SW_app]
  have haa := ha.app [some [.int .i64 0]]
  have hl : h.length < (h ++ [some [V.int .i64 0]]).length := by simp
  obtain ⟨y, hy⟩ : ∃ y, y = q * 2 := ⟨_, rfl⟩
  obtain ⟨w, hw⟩ : ∃ w, w = q * 3 := ⟨_, rfl⟩
  obtain ⟨n, hN⟩ : ∃ n, n = d.size := ⟨_, rfl⟩
  have e3 : (q : Int) * 2 = (y : Int) := by omega
  have e4 : (q : Int) * 3 = (w : Int) := by omega
  have q1 := FgAdj_run (tv := tv) hc haa h.length hl ha.1 d hd q 0 (by omega) (by omega) (by omega) (by omega)
  have q2 := FgAdj_run (tv := tv) hc haa h.length hl ha.1 d hd y 3 (by omega) (by omega) (by omega) (by omega)
  have q3 := FgAdj_run (tv := tv) hc haa h.length hl ha.1 d hd w 6 (by omega) (by omega) (by omega) (by omega)
  have q4 := median_run (tv := tv) hc haa h.length hl ha.1 d q y w 9 (by omega) (by omega) (by omega) (by omega) (by omega)
  rw [dec_med hd 9 (by omega) (by omega) (by omega)] at q4
  rw [show ((0 : Nat) : Int) = 0 from rfl, show ((0 + 3 : Nat) : Int) = 3 from rfl] at q1
  rw [show ((3 : Nat) : Int) = 3 from rfl, show ((3 + 3 : Nat) : Int) = 6 from rfl] at q2
  rw [show ((6 : Nat) : Int) = 6 from rfl, show ((6 + 3 : Nat) : Int) = 9 from rfl] at q3
  rw [show ((9 : Nat) : Int) = 9 from rfl, show (((y, 9 + 3).2 : Nat) : Int) = 12 from rfl, show ((y, 9 + 3).1 : Nat) = y from rfl] at q4
  have hsb : h.length ≠ b := by omega
  have r2 : ∀ z : Int, (SD tv (h ++ [some [.int .i64 z]]) b d).row h.length = some [.int .i64 z] := fun z => by rw [row_SD hsb, row_new]
  refine ⟨h ++ [some [.int .i64 12]], y, ha.app _, by omega, ?_⟩
  refine Run.start t_slices_choosePivotCmpFunc_2_uint64 ?_
  unfold k_slices_choosePivotCmpFunc_2_uint64
  simp (disch := omega) [e2, e3, e4, c1, c2, SD_len, hh]
  rw [Xf_run q1]
  simp (disch := omega)
  rw [Xf_run q2]
  simp (disch := omega)
  rw [Xf_run q3]
  simp (disch := omega)
  rw [Xf_run q4]
  simp (disch := omega) [SW_app, r2]
/-- Turned about. -/
theorem rev_at : ∀ (m i j : Nat) (d : Array Pr), j - i ≤ m → j < d.size → ∀ k, k < d.size → (Sort.reverseLoop i j d)[k]! = if i ≤ k ∧ k ≤ j then d[i + j - k]! else d[k]! := by
  intro m
  induction m with
  | zero =>
    intro i j d hm hj k hk
    unfold Sort.reverseLoop
    rw [if_neg (by omega)]
    split
    · have : i + j - k = k := by omega
      rw [this]
    · rfl
  | succ m ih =>
    intro i j d hm hj k hk
    unfold Sort.reverseLoop
    by_cases c : i < j
    · rw [if_pos c, ih (i + 1) (j - 1) (Sort.swp d i j) (by omega) (by rw [swp_size]; omega) k (by rw [swp_size]; exact hk)]
      by_cases c1 : i + 1 ≤ k ∧ k ≤ j - 1
      · rw [if_pos c1, if_pos (by omega), Sort.swp_other _ _ _ _ (by omega) (by omega)]
        congr 1; omega
      · rw [if_neg c1]
        by_cases c2 : k = i
        · subst c2
          rw [Sort.swp_left _ _ _ (by omega) (by omega), if_pos (by omega)]
          congr 1; omega
        · by_cases c3 : k = j
          · subst c3
            rw [Sort.swp_right _ _ _ hj, if_pos (by omega)]
            congr 1; omega
          · rw [Sort.swp_other _ _ _ _ c2 c3, if_neg (by omega)]
    · rw [if_neg c]
      split
      · have : i + j - k = k := by omega
        rw [this]
      · rfl
theorem scan_all (lt : Pr → Pr → Bool) (d : Array Pr) (n : Nat) : ∀ (m i : Nat), n - i ≤ m → i ≤ n → 0 < i → (∀ k, 0 < k → k < n → lt d[k]! d[k - 1]! = false) → Sort.scanSorted lt d n i = n := by
  intro m
  induction m with
  | zero =>
    intro i hm hi h0 h
    unfold Sort.scanSorted
    rw [if_neg (by simp; omega)]
    omega
  | succ m ih =>
    intro i hm hi h0 h
    unfold Sort.scanSorted
    by_cases c : i < n
    · rw [if_pos (by simp [c, h i h0 c])]
      exact ih (i + 1) (by omega) (by omega) (by omega) h
    · rw [if_neg (by simp [c])]; omega
theorem FgPins_run (hc : Cmp h0 b f cap c) (ha : Agree h0 b h) (d : Array Pr) (hn : d.size < 1024) (h50 : 50 ≤ d.size) (hsc : Sort.scanSorted (ltC c) d d.size 1 = d.size) :
    Run T f_slices_partialInsertionSortCmpFunc_2_uint64 [.hs 2 b 0 d.size, .int .i64 0, .int .i64 d.size, .fn f cap] (SD tv h b d) (.bool true) (SD tv h b d) := by
  refine Run.start t_slices_partialInsertionSortCmpFunc_2_uint64 ?_
  unfold k_slices_partialInsertionSortCmpFunc_2_uint64
  simp (disch := omega)
  rw [L_slices_partialInsertionSortCmpFunc_2_uint64_3]; unfold bl_slices_partialInsertionSortCmpFunc_2_uint64_3
  simp (disch := omega)
  have := scanS_loop (tv := tv) hc ha 0 d.size d.size d rfl (by omega) (Nat.le_refl _) (.int .i64 0) (d.size - 1) 1 (by omega) (by omega) [(16, .bool true)]
  simp at this
  refine this _ _ ?_
  rw [hsc]
  simp (disch := omega)
theorem FgDec_run (hc : Cmp h0 b f cap c) (ha : Agree h0 b h) (d : Array Pr) (hd : Dec (ltC c) d) (hirr : ∀ x y, ltC c x y = true → ltC c y x = false) (h50 : 50 ≤ d.size) (hn : d.size < 1024) :
    ∃ g, Agree h0 b g ∧ Run T f_slices_SortFunc_2_uint64_2_uint64 [.hs 2 b 0 d.size, .fn f cap] (SD tv h b d) (.tup []) (SD tv g b (Sort.reverseRange d 0 d.size)) := by
  obtain ⟨k, k0, k1, rk⟩ := FgLim_run d.size h50 hn []
  obtain ⟨g, p, hg, hp, rp⟩ := FgPick_run (tv := tv) hc ha d hd h50 hn
  have hb := hc.hb hg
  have rr := rev_run (tv := tv) (f := f) (cap := cap) hb d 0 d.size (by omega) (by omega) (Nat.le_refl _)
  obtain ⟨d2, hd2⟩ : ∃ d2, d2 = Sort.reverseRange d 0 d.size := ⟨_, rfl⟩
  have sz : d2.size = d.size := by rw [hd2]; exact (Sort.reverseRange_holds d 0 d.size (by omega) (Nat.le_refl _)).1
  have at2 : ∀ k, k < d.size → d2[k]! = d[d.size - 1 - k]! := fun k hk => by
    rw [hd2]
    unfold Sort.reverseRange
    rw [rev_at _ 0 (d.size - 1) d (Nat.le_refl _) (by omega) k hk, if_pos (by omega)]
    congr 1; omega
  have hsc : Sort.scanSorted (ltC c) d2 d2.size 1 = d2.size := scan_all (ltC c) d2 d2.size (d2.size - 1) 1 (by omega) (by omega) (by omega) fun k hk0 hk => by
    rw [at2 k (by omega), at2 (k - 1) (by omega)]
    exact hirr _ _ (hd _ _ (by omega) (by omega))
  have rpin := FgPins_run (tv := tv) hc hg d2 (by omega) (by omega) hsc
  rw [← hd2] at rr ⊢
  rw [sz] at rpin
  have rk := rk
  generalize d.size = n at h50 hn rk rp rr rpin ⊢
  have pq : Run T f_slices_pdqsortCmpFunc_2_uint64 [.hs 2 b 0 n, .int .i64 0, .int .i64 n, .int .i64 k, .fn f cap] (SD tv h b d) (.tup []) (SD tv g b d2) := by
    refine Run.start t_slices_pdqsortCmpFunc_2_uint64 ?_
    unfold k_slices_pdqsortCmpFunc_2_uint64
    simp (disch := omega)
    rw [L_slices_pdqsortCmpFunc_2_uint64_0]; unfold bl_slices_pdqsortCmpFunc_2_uint64_0
    have c1 : ¬ n ≤ 12 := by omega
    have c1' : ¬ (n : Int) ≤ 12 := by omega
    have c2 : ¬ k = 0 := by omega
    have c2' : ¬ (k : Int) = 0 := by omega
    simp (disch := omega) [c1, c1', c2, c2']
    rw [Xf_run rp]
    simp (disch := omega)
    rw [Xf_run (by simpa using rr)]
    simp (disch := omega)
    rw [Xf_run (by simpa using rpin)]
    simp (disch := omega)
  refine ⟨g, hg, ?_⟩
  refine Run.start t_slices_SortFunc_2_uint64_2_uint64 ?_
  unfold k_slices_SortFunc_2_uint64_2_uint64
  simp (disch := omega)
  rw [Xp_run rk (by simp) (by simp) (by simp)]
  simp (disch := omega)
  rw [Xf_run (by simpa using pq)]
  simp (disch := omega)
end
theorem canSortD (S : List Pr) (hS : S.length < 1024) (hd : S.Pairwise (fun a b => b.lo < a.lo)) : CanSort S := by
  by_cases h50 : S.length < 50
  · exact canSort S h50
  intro g o ho
  have ol := rlt ho
  have hc : Cmp g o f_frag_Holes_1 [] cmpP := ⟨rfl, ol, fun g _ x y => Holes1_run x y g⟩
  have fsz : S.toArray.size = S.length := by simp
  have dec : Dec (ltC cmpP) S.toArray := fun i j hij hj => by
    rw [fsz] at hj
    rw [ltC_p, decide_eq_true_eq]
    have := List.pairwise_iff_getElem.1 hd i j (by omega) hj hij
    rw [getElem!_pos S.toArray j (by rw [fsz]; exact hj), getElem!_pos S.toArray i (by rw [fsz]; omega)]
    simpa using this
  obtain ⟨g2, ag, rs⟩ := FgDec_run (tv := []) hc (Agree.refl) S.toArray dec (fun x y h => by rw [ltC_p] at *; simp at *; omega) (by omega) (by omega)
  obtain ⟨d', hd'⟩ : ∃ d', d' = Sort.reverseRange S.toArray 0 S.toArray.size := ⟨_, rfl⟩
  have hp := Sort.reverseRange_holds S.toArray 0 S.toArray.size (by omega) (Nat.le_refl _)
  rw [← hd'] at rs hp
  have sd : SD [] g o S.toArray = g := by
    unfold SD prt
    rw [show S.toArray.toList = S from rfl, List.append_nil]
    exact FgSet_row ho
  rw [sd, fsz] at rs
  have dsz : d'.size = S.length := by rw [hp.1, fsz]
  have perm : d'.toList.Perm S := by
    have := hp.2.2
    simp at this
    rwa [List.take_of_length_le (by simp [dsz])] at this
  have srt : d'.toList.Pairwise (fun a b => a.lo ≤ b.lo) := by
    rw [List.pairwise_iff_getElem]
    intro i j hi hj hij
    simp at hi hj
    have at2 : ∀ k, k < S.length → d'[k]! = S.toArray[S.length - 1 - k]! := fun k hk => by
      rw [hd']
      unfold Sort.reverseRange
      rw [rev_at _ 0 (S.toArray.size - 1) S.toArray (Nat.le_refl _) (by omega) k (by omega), if_pos (by omega)]
      congr 1; omega
    have q := dec (S.length - 1 - j) (S.length - 1 - i) (by omega) (by omega)
    rw [ltC_p, decide_eq_true_eq, ← at2 i (by omega), ← at2 j (by omega)] at q
    simp only [getElem!_pos d' i hi, getElem!_pos d' j hj] at q
    simp
    omega
  have b2 : o < g2.length := Nat.lt_of_lt_of_le ol ag.1
  have rw2 : Heap.row (SD [] g2 o d') o = some (prs d'.toList ++ []) := SD_row b2 d'
  rw [List.append_nil] at rw2
  exact ⟨_, _, rw2, perm, srt, rs⟩
end Ev
