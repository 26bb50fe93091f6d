/- Sorting with a comparison: the library's small sorts and helpers, held against their plain text. Each theorem states its own conditions. -/
import Derived.Test.YtmbheeapegpmlaaVR01
import Derived.Sort.AssemblyPlain
set_option linter.all false
namespace Ev
open Go
set_option maxRecDepth 10000
attribute [-simp] getElem?_pos getElem?_neg

/-- A heap with the row that is sorted. -/
def SD (h : Heap) (b : Nat) (d : Array Int) : Heap := h.set b (some (ints d.toList))
/-- The rows of h0 but row b are as they were. -/
def Agree (h0 : Heap) (b : Nat) (g : Heap) : Prop := h0.length ≤ g.length ∧ ∀ r, r < h0.length → r ≠ b → g.row r = h0.row r
/-- A comparison that turns nothing. -/
structure Cmp (h0 : Heap) (b f : Nat) (cap : List V) (c : Int → Int → Int) : Prop where
  free : T.free f = true
  lt : b < h0.length
  run : ∀ g, Agree h0 b g → ∀ (x y : Int), Run T f (.int .i64 x :: .int .i64 y :: cap) g (.int .i64 (c x y)) g
def atD (d : Array Int) (i : Nat) : Int := d[i]!
def ltC (c : Int → Int → Int) (x y : Int) : Bool := decide (c x y < 0)

section
variable {h0 h : Heap} {b f : Nat} {cap : List V} {c : Int → Int → Int}
theorem SD_len (d : Array Int) : (SD h b d).length = h.length := by simp [SD]
theorem SD_row (hb : b < h.length) (d : Array Int) : (SD h b d).row b = some (ints d.toList) := by unfold SD; rw [row_set hb]
theorem SD_get (d : Array Int) (z : Int) (h0 : 0 ≤ z) (h1 : z < d.size) : (ints d.toList)[z.toNat]? = some (.int .i64 (atD d z.toNat)) := by
  have : z.toNat < d.size := by omega
  rw [ints_get]
  simp [this, atD]
theorem SD_getN (d : Array Int) (i : Nat) (h1 : i < d.size) : (ints d.toList)[i]? = some (.int .i64 (atD d i)) := by
  rw [ints_get]
  simp [h1, atD]
theorem SD_ints (d : Array Int) : (ints d.toList).length = d.size := by simp [ints]
theorem SD_lt (hb : b < h.length) (d : Array Int) : b < List.length (SD h b d) := by rw [SD_len]; exact hb
theorem swp_size (d : Array Int) (i j : Nat) : (Sort.swp d i j).size = d.size := by simp [Sort.swp]
@[simp] theorem SD_swap (d : Array Int) (i j : Nat) : List.set (SD h b d) b (some (((ints d.toList).set i (.int .i64 (atD d j))).set j (.int .i64 (atD d i)))) = SD h b (Sort.swp d i j) := by
  unfold SD Sort.swp atD
  rw [List.set_set]
  congr 2
  simp [ints, List.map_set]

theorem Agree.sd {g : Heap} (ha : Agree h0 b g) (d : Array Int) : Agree h0 b (SD g b d) := ⟨by rw [SD_len]; exact ha.1, fun r h1 h2 => by
  unfold SD; rw [row_ne (fun e => h2 e.symm)]; exact ha.2 r h1 h2⟩
theorem Agree.app {g : Heap} (ha : Agree h0 b g) (k : Heap) : Agree h0 b (g ++ k) := ⟨by rw [List.length_append]; have := ha.1; omega, fun r h1 h2 => by
  rw [row_app (by have := ha.1; omega)]; exact ha.2 r h1 h2⟩
theorem Agree.refl : Agree h0 b h0 := ⟨Nat.le_refl _, fun _ _ _ => rfl⟩
theorem Cmp.hb (hc : Cmp h0 b f cap c) (ha : Agree h0 b h) : b < h.length := Nat.lt_of_lt_of_le hc.lt ha.1
theorem Cmp.sd (hc : Cmp h0 b f cap c) (ha : Agree h0 b h) (d : Array Int) (x y : Int) : Run T f (.int .i64 x :: .int .i64 y :: cap) (SD h b d) (.int .i64 (c x y)) (SD h b d) := hc.run _ (ha.sd d) x y

theorem ins_in (hc : Cmp h0 b f cap c) (ha : Agree h0 b h) (a n : Nat) (v1 v8 : V) (a' : Nat) (hv1 : v1 = .int .i64 a) : ∀ (j : Nat) (d : Array Int), d.size = n → n < 4611686018427387904 → j < n → ∀ ks Q,
    (∀ j', Xk T ks (.x 2) [(0, .hs 1 b 0 n), (1, v1), (2, .int .i64 a'), (3, .fn f cap), (8, v8), (9, .int .i64 j'), (34, .bool false)] (SD h b (Sort.insInner (ltC c) a j d)) Q) →
    Xc T l_slices_insertionSortCmpFunc_int_0 ks [(0, .hs 1 b 0 n), (1, v1), (2, .int .i64 a'), (3, .fn f cap), (8, v8), (9, .int .i64 j)] (SD h b d) Q := by
  intro j
  subst hv1
  have hb := hc.hb ha
  induction j with
  | zero =>
    intro d hd hn hj ks Q hQ
    rw [L_slices_insertionSortCmpFunc_int_0]; unfold bl_slices_insertionSortCmpFunc_int_0
    have c1 : ¬ (a : Int) < 0 := by omega
    simp (disch := omega) [c1]
    exact hQ 0
  | succ j ih =>
    intro d hd hn hj ks Q hQ
    rw [L_slices_insertionSortCmpFunc_int_0]; unfold bl_slices_insertionSortCmpFunc_int_0
    have e1 : j < d.size := by omega
    have e2 : j + 1 < d.size := by omega
    have g1 := SD_getN d j e1
    have g2 := SD_getN d (j + 1) e2
    have r1 := SD_row hb d
    have hf := hc.free
    have gl := SD_ints d
    have hbs := SD_lt hb d
    have e5 : ((j : Int) + 1 - 1) = j := by omega
    have e6 : ((j : Int) + 1).toNat = j + 1 := by omega
    simp (disch := omega)
    apply Xg_dec
    · intro c1
      have c2 : a < j + 1 := by omega
      simp (disch := omega) [c1, e5, e6, r1, g1, g2, hf]
      rw [Xf_run (hc.sd ha d _ _)]
      simp (disch := omega)
      apply Xb_dec
      · intro c3
        have hl : ltC c d[j + 1]! d[j]! = true := decide_eq_true c3
        have hi := ih (Sort.swp d (j + 1) j) (by rw [swp_size]; exact hd) hn (by omega) ks Q (fun j' => by
          have := hQ j'
          unfold Sort.insInner at this
          rw [if_pos (by simp [hl, c2])] at this
          exact this)
        simp (disch := omega) [e5, e6, r1, g1, g2, gl]
        exact hi
      · intro c3
        have hl : ltC c d[j + 1]! d[j]! = false := decide_eq_false c3
        have := hQ ((j : Int) + 1)
        unfold Sort.insInner at this
        rw [if_neg (by simp [hl])] at this
        simp (disch := omega) [c3]
        simpa using this
    · intro c1
      have := hQ ((j : Int) + 1)
      unfold Sort.insInner at this
      rw [if_neg (by simp; omega)] at this
      simp (disch := omega) [c1]
      simpa using this

theorem insInner_size (lt : Int → Int → Bool) (a : Nat) : ∀ (j : Nat) (d : Array Int), (Sort.insInner lt a j d).size = d.size
  | 0, d => rfl
  | j + 1, d => by
    unfold Sort.insInner
    split
    · rw [insInner_size lt a j, swp_size]
    · rfl
theorem ins_out (hc : Cmp h0 b f cap c) (ha : Agree h0 b h) (a e n : Nat) (hn : n < 4611686018427387904) (he : e ≤ n) : ∀ (m i : Nat) (d : Array Int), e - i ≤ m → d.size = n → ∀ ks Q,
    (∀ i' : Int, Xk T ks (.x 0) [(0, .hs 1 b 0 n), (1, .int .i64 a), (2, .int .i64 e), (3, .fn f cap), (8, .int .i64 i'), (14, .bool false)] (SD h b (Sort.insOuter (ltC c) a e i d)) Q) →
    Xc T l_slices_insertionSortCmpFunc_int_1 ks [(0, .hs 1 b 0 n), (1, .int .i64 a), (2, .int .i64 e), (3, .fn f cap), (8, .int .i64 i)] (SD h b d) Q := by
  intro m
  induction m with
  | zero =>
    intro i d hm hd ks Q hQ
    rw [L_slices_insertionSortCmpFunc_int_1]; unfold bl_slices_insertionSortCmpFunc_int_1
    have c1 : ¬ (i : Int) < e := by omega
    have c2 : ¬ i < e := by omega
    have := hQ i
    unfold Sort.insOuter at this
    rw [if_neg c2] at this
    simp (disch := omega) [c1, c2]
    exact this
  | succ m ih =>
    intro i d hm hd ks Q hQ
    by_cases c2 : i < e
    · rw [L_slices_insertionSortCmpFunc_int_1]; unfold bl_slices_insertionSortCmpFunc_int_1
      simp (disch := omega) [c2]
      refine ins_in hc ha a n (.int .i64 a) (.int .i64 i) e rfl i d hd hn (by omega) _ _ fun j' => ?_
      simp (disch := omega)
      have := ih (i + 1) (Sort.insInner (ltC c) a i d) (by omega) (by rw [← hd]; exact insInner_size _ _ _ _) ks Q (fun i' => by
        have := hQ i'
        unfold Sort.insOuter at this
        rw [if_pos c2] at this
        exact this)
      simpa using this
    · rw [L_slices_insertionSortCmpFunc_int_1]; unfold bl_slices_insertionSortCmpFunc_int_1
      have := hQ i
      unfold Sort.insOuter at this
      rw [if_neg c2] at this
      simp (disch := omega) [c2]
      exact this
theorem ins_run (hc : Cmp h0 b f cap c) (ha : Agree h0 b h) (d : Array Int) (a e : Nat) (hn : d.size < 4611686018427387904) (hae : a ≤ e) (he : e ≤ d.size) :
    Run T f_slices_insertionSortCmpFunc_int [.hs 1 b 0 d.size, .int .i64 a, .int .i64 e, .fn f cap] (SD h b d) (.tup []) (SD h b (Sort.insertionSort (ltC c) d a e)) := by
  refine Run.start t_slices_insertionSortCmpFunc_int ?_
  unfold k_slices_insertionSortCmpFunc_int
  simp (disch := omega)
  have := ins_out hc ha a e d.size hn he (e - (a + 1)) (a + 1) d (by omega) rfl
  simp at this
  refine this _ _ fun i' => ?_
  simp (disch := omega) [Sort.insertionSort]

theorem sift_loop (hc : Cmp h0 b f cap c) (ha : Agree h0 b h) (hi first n : Nat) (hn : n < 1152921504606846976) (hf1 : first + hi ≤ n) : ∀ (m root : Nat) (d : Array Int), hi - root ≤ m → d.size = n → (root < hi ∨ hi = 0 ∧ root = 0 ∨ hi ≤ root ∧ root ≤ n) → ∀ ks Q,
    (∀ e, Xk T ks (.x 0) e (SD h b (Sort.siftDown (ltC c) hi first root d)) Q) → (∀ e, Xk T ks .r e (SD h b (Sort.siftDown (ltC c) hi first root d)) Q) →
    Xc T l_slices_siftDownCmpFunc_int_0 ks [(0, .hs 1 b 0 n), (2, .int .i64 hi), (3, .int .i64 first), (4, .fn f cap), (10, .int .i64 root)] (SD h b d) Q := by
  intro m
  have hb := hc.hb ha
  have hf := hc.free
  induction m with
  | zero =>
    intro root d hm hd hr ks Q hx hr2
    rw [L_slices_siftDownCmpFunc_int_0]; unfold bl_slices_siftDownCmpFunc_int_0
    have c1 : (hi : Int) ≤ 2 * root + 1 := by omega
    have := fun e => hx e
    unfold Sort.siftDown at this
    simp (disch := omega) [c1]
    have h2 : 2 * root + 1 ≥ hi := by omega
    rw [dif_pos h2] at this
    exact this _
  | succ m ih =>
    intro root d hm hd hr ks Q hx hr2
    rw [L_slices_siftDownCmpFunc_int_0]; unfold bl_slices_siftDownCmpFunc_int_0
    have r1 := SD_row hb d
    have gl := SD_ints d
    have hbs := SD_lt hb d
    unfold Sort.siftDown at hx hr2
    by_cases h2 : 2 * root + 1 ≥ hi
    · have c1 : (hi : Int) ≤ 2 * root + 1 := by omega
      simp (disch := omega) [c1]
      rw [dif_pos h2] at hx
      exact hx _
    · have c1 : ¬ (hi : Int) ≤ 2 * root + 1 := by omega
      rw [dif_neg h2] at hx hr2
      have g0 := SD_getN d (first + root) (by omega)
      have g1 := SD_getN d (first + (2 * root + 1)) (by omega)
      have i0 : ((first : Int) + root).toNat = first + root := by omega
      have i1 : ((first : Int) + (2 * root + 1)).toNat = first + (2 * root + 1) := by omega
      have i2 : ((first : Int) + (2 * root + 1) + 1).toNat = first + (2 * root + 1) + 1 := by omega
      have i3 : ((first : Int) + (2 * root + 1 + 1)).toNat = first + (2 * root + 2) := by omega
      simp (disch := omega) [c1]
      refine share2 (fun (ch : Nat) (_ : List (Nat × V)) => ch < hi ∧ root < ch ∧ ∀ P : Array Int → Prop, (P (if 2 * root + 1 + 1 < hi && ltC c d[first + (2 * root + 1)]! d[first + (2 * root + 1) + 1]! then
        if !ltC c d[first + root]! d[first + (2 * root + 2)]! then d else
          if _h2 : 2 * root + 2 < hi then Sort.siftDown (ltC c) hi first (2 * root + 2) (Sort.swp d (first + root) (first + (2 * root + 2))) else d
        else
          if !ltC c d[first + root]! d[first + (2 * root + 1)]! then d else Sort.siftDown (ltC c) hi first (2 * root + 1) (Sort.swp d (first + root) (first + (2 * root + 1))))) →
        P (if !ltC c d[first + root]! d[first + ch]! then d else Sort.siftDown (ltC c) hi first ch (Sort.swp d (first + root) (first + ch)))) ?R (fun hR => ?main) ?rest
      case main =>
        apply Xg_dec
        · intro c2
          have c2' : 2 * root + 1 + 1 < hi := by omega
          have g2 := SD_getN d (first + (2 * root + 1) + 1) (by omega)
          simp (disch := omega) [c2, i1, i2, r1, g1, g2, hf]
          rw [Xf_run (hc.sd ha d _ _)]
          simp (disch := omega)
          apply Xb_dec
          · intro c3
            have hl : ltC c d[first + (2 * root + 1)]! d[first + (2 * root + 1) + 1]! = true := decide_eq_true c3
            simp (disch := omega)
            obtain ⟨ch, hch⟩ : ∃ ch, ch = 2 * root + 2 := ⟨_, rfl⟩
            rw [show (2 : Int) * root + 1 + 1 = (ch : Int) by omega]
            generalize ([] : List (Nat × V)) = tl
            refine hR ch tl ⟨by omega, by omega, fun P hP => ?_⟩
            subst hch
            rw [if_pos (by simp [hl, c2'])] at hP
            rw [dif_pos (show 2 * root + 2 < hi by omega)] at hP
            exact hP
          · intro c3
            have hl : ltC c d[first + (2 * root + 1)]! d[first + (2 * root + 1) + 1]! = false := decide_eq_false c3
            simp (disch := omega) [c3]
            obtain ⟨ch, hch⟩ : ∃ ch, ch = 2 * root + 1 := ⟨_, rfl⟩
            rw [show (2 : Int) * root + 1 = (ch : Int) by omega]
            generalize [((40 : Nat), V.bool false)] = tl
            refine hR ch tl ⟨by omega, by omega, fun P hP => ?_⟩
            subst hch
            rw [if_neg (by simp [hl])] at hP
            exact hP
        · intro c2
          have c2' : ¬ 2 * root + 1 + 1 < hi := by omega
          simp (disch := omega) [c2]
          obtain ⟨ch, hch⟩ : ∃ ch, ch = 2 * root + 1 := ⟨_, rfl⟩
          rw [show (2 : Int) * root + 1 = (ch : Int) by omega]
          generalize [((40 : Nat), V.bool false)] = tl
          refine hR ch tl ⟨by omega, by omega, fun P hP => ?_⟩
          subst hch
          rw [if_neg (by simp [c2'])] at hP
          exact hP
      case rest =>
        intro ch tl ⟨h5, h6, hP⟩
        have gc := SD_getN d (first + ch) (by omega)
        have ic : ((first : Int) + ch).toNat = first + ch := by omega
        simp (disch := omega) [i0, ic, r1, g0, gc, hf]
        rw [Xf_run (hc.sd ha d _ _)]
        simp (disch := omega)
        apply Xb_decn
        · intro c3
          have hl : ltC c d[first + root]! d[first + ch]! = false := decide_eq_false c3
          simp (disch := omega)
          have := hP (fun z => Xk T ks .r [(0, .hs 1 b 0 n), (2, .int .i64 hi), (3, .int .i64 first), (4, .fn f cap), (10, .int .i64 root), (11, .int .i64 ch), (58, .bool true)] (SD h b z) Q) (hr2 _)
          rw [if_pos (by simp [hl])] at this
          simpa [c3] using this
        · intro c3
          have hl : ltC c d[first + root]! d[first + ch]! = true := decide_eq_true c3
          simp (disch := omega) [i0, ic, r1, g0, gc, gl]
          refine ih ch (Sort.swp d (first + root) (first + ch)) (by omega) (by rw [swp_size]; exact hd) (Or.inl h5) ks Q (fun e => ?_) (fun e => ?_)
          · have := hP (fun z => Xk T ks (.x 0) e (SD h b z) Q) (hx e)
            rwa [if_neg (by simp [hl])] at this
          · have := hP (fun z => Xk T ks .r e (SD h b z) Q) (hr2 e)
            rwa [if_neg (by simp [hl])] at this
theorem sift_run (hc : Cmp h0 b f cap c) (ha : Agree h0 b h) (d : Array Int) (lo hi first : Nat) (hn : d.size < 1152921504606846976) (hf1 : first + hi ≤ d.size) (hlo : lo < hi ∨ hi = 0 ∧ lo = 0) :
    Run T f_slices_siftDownCmpFunc_int [.hs 1 b 0 d.size, .int .i64 lo, .int .i64 hi, .int .i64 first, .fn f cap] (SD h b d) (.tup []) (SD h b (Sort.siftDown (ltC c) hi first lo d)) := by
  refine Run.start t_slices_siftDownCmpFunc_int ?_
  unfold k_slices_siftDownCmpFunc_int
  simp (disch := omega)
  refine sift_loop hc ha hi first d.size hn hf1 (hi - lo) lo d (by omega) rfl (by omega) _ _ (fun e => ?_) (fun e => ?_)
  · simp
  · simp
theorem siftDown_size (lt : Int → Int → Bool) (hi first : Nat) : ∀ (m root : Nat) (d : Array Int), hi - root ≤ m → (Sort.siftDown lt hi first root d).size = d.size := by
  intro m
  induction m with
  | zero =>
    intro root d hm
    unfold Sort.siftDown
    rw [dif_pos (by omega)]
  | succ m ih =>
    intro root d hm
    unfold Sort.siftDown
    repeat' split
    all_goals first | rfl | (rw [ih _ _ (by omega), swp_size])
theorem build_loop (hc : Cmp h0 b f cap c) (ha : Agree h0 b h) (hi first n : Nat) (hn : n < 1152921504606846976) (hf1 : first + hi ≤ n) : ∀ (k : Nat) (d : Array Int), d.size = n → (k ≤ hi ∨ k = 1 ∧ hi = 0) → ∀ ks Q,
    (∀ tl, Xk T ks (.x 0) ([(0, .hs 1 b 0 n), (3, .fn f cap), (8, .int .i64 first), (9, .int .i64 0), (10, .int .i64 hi)] ++ tl) (SD h b (Sort.heapBuild (ltC c) hi first k d)) Q) →
    Xc T l_slices_heapSortCmpFunc_int_0 ks [(0, .hs 1 b 0 n), (3, .fn f cap), (8, .int .i64 first), (9, .int .i64 0), (10, .int .i64 hi), (11, .int .i64 ((k : Int) - 1))] (SD h b d) Q := by
  intro k
  induction k with
  | zero =>
    intro d hd hk ks Q hx
    rw [L_slices_heapSortCmpFunc_int_0]; unfold bl_slices_heapSortCmpFunc_int_0
    simp (disch := omega)
    exact hx _
  | succ k ih =>
    intro d hd hk ks Q hx
    rw [L_slices_heapSortCmpFunc_int_0]; unfold bl_slices_heapSortCmpFunc_int_0
    have e1 : ((k : Int) + 1 - 1) = k := by omega
    simp (disch := omega) [e1]
    subst hd
    rw [Xf_run (sift_run hc ha d k hi first hn hf1 (by omega))]
    simp (disch := omega)
    have := ih (Sort.siftDown (ltC c) hi first k d) (siftDown_size _ _ _ _ _ _ (Nat.le_refl _)) (by omega) ks Q hx
    simpa using this
end
end Ev
