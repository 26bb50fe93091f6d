/- Sorting pairs with a comparison: the library's small sorts, held against their plain text. Heap sort of the library with a comparison, and the helpers that choose. The pivot's choice, turning a range about, and breaking patterns. Breaking patterns: the bit length, the next power of two, and the shifts. The partial insertion sort, and the partitions. The partitions. The partitions, joined. The partition of equals. The sort itself. Each theorem states its own conditions. -/
import Derived.Test.YtienkohkbihdoaaHCode
import Derived.Sort.AssemblyPlain
set_option linter.all false
namespace Ev
open Go
set_option maxRecDepth 10000
attribute [-simp] getElem?_pos getElem?_neg
structure Pr where
  lo : Int
  hi : Int
  deriving Inhabited
def Pr.cs (p : Pr) : List V := [.int .u64 p.lo, .int .u64 p.hi]
def Pr.v (p : Pr) : V := .agg p.cs
def prs (l : List Pr) : List V := l.flatMap Pr.cs
theorem prs_len : ∀ (l : List Pr), (prs l).length = l.length * 2
  | [] => rfl
  | x :: r => by
    have := prs_len r
    show (x.cs ++ prs r).length = _
    rw [List.length_append, this]; simp [Pr.cs]; omega
theorem prs_drop : ∀ (l : List Pr) (i : Nat), (prs l).drop (i * 2) = prs (l.drop i)
  | [], i => by simp [prs]
  | x :: r, 0 => by simp
  | x :: r, i + 1 => by
    have h := prs_drop r i
    rw [List.drop_succ_cons]
    show (x.cs ++ prs r).drop ((i + 1) * 2) = prs (r.drop i)
    rw [List.drop_append, List.drop_eq_nil_of_le (by simp [Pr.cs]; omega), List.nil_append, ← h]
    congr 1
    simp [Pr.cs]; omega
theorem prs_take : ∀ (l : List Pr) (i : Nat), (prs l).take (i * 2) = prs (l.take i)
  | [], i => by simp [prs]
  | x :: r, 0 => by simp [prs]
  | x :: r, i + 1 => by
    have h := prs_take r i
    rw [List.take_succ_cons]
    show (x.cs ++ prs r).take ((i + 1) * 2) = x.cs ++ prs (r.take i)
    rw [List.take_append, List.take_of_length_le (by simp [Pr.cs]; omega), ← h]
    congr 2
    simp [Pr.cs]; omega
theorem prs_app (a b : List Pr) : prs (a ++ b) = prs a ++ prs b := by simp [prs]
theorem prs_part (l : List Pr) (i : Nat) (h : i < l.length) : ((prs l).drop (i * 2)).take 2 = l[i].cs := by
  rw [prs_drop, List.drop_eq_getElem_cons h]
  show (l[i].cs ++ prs _).take 2 = _
  exact List.take_left' rfl
theorem prs_set (l : List Pr) (i : Nat) (x : Pr) (h : i < l.length) : spliceL (prs l) (i * 2) x.cs = prs (l.set i x) := by
  unfold spliceL
  have xl : x.cs.length = 2 := rfl
  rw [xl, show i * 2 + 2 = (i + 1) * 2 by omega, prs_take, prs_drop, List.set_eq_take_append_cons_drop, if_pos h, prs_app, List.append_assoc]
  rfl
/-- A row: pairs that are sorted, and cells behind them. -/
def prt (tv : List V) (d : Array Pr) : List V := prs d.toList ++ tv
/-- A heap with the row that is sorted. -/
def SD (tv : List V) (h : Heap) (b : Nat) (d : Array Pr) : Heap := h.set b (some (prt tv d))
/-- The rows of h0 but row b are as they were. -/
def Agree (h0 : Heap) (b : Nat) (g : Heap) : Prop := h0.length ≤ g.length ∧ ∀ r, r < h0.length → r ≠ b → g.row r = h0.row r
/-- A comparison that turns nothing. -/
structure Cmp (h0 : Heap) (b f : Nat) (cap : List V) (c : Pr → Pr → Int) : Prop where
  free : T.free f = true
  lt : b < h0.length
  run : ∀ g, Agree h0 b g → ∀ (x y : Pr), Run T f (.agg x.cs :: .agg y.cs :: cap) g (.int .i64 (c x y)) g
def atD (d : Array Pr) (i : Nat) : Pr := d[i]!
def ltC (c : Pr → Pr → Int) (x y : Pr) : Bool := decide (c x y < 0)
section
variable {tv : List V} {h0 h : Heap} {b f : Nat} {cap : List V} {c : Pr → Pr → Int}
theorem SD_len (d : Array Pr) : (SD tv h b d).length = h.length := by simp [SD]
theorem SD_row (hb : b < h.length) (d : Array Pr) : (SD tv h b d).row b = some (prt tv d) := by unfold SD; rw [row_set hb]
theorem SD_getN (d : Array Pr) (i : Nat) (h1 : i < d.size) : ((prt tv d).drop (i * 2)).take 2 = (atD d i).cs := by
  have h2 : i < d.toList.length := by simpa using h1
  have e := prs_part d.toList i h2
  have pl := prs_len d.toList
  unfold prt
  rw [List.drop_append, List.take_append]
  have z : 2 - ((prs d.toList).drop (i * 2)).length = 0 := by rw [List.length_drop, pl]; omega
  rw [z, List.take_zero, List.append_nil, e]
  simp [atD, h1]
@[simp] theorem SD_prs (d : Array Pr) : (prt tv d).length = d.size * 2 + tv.length := by simp [prt, prs_len]
theorem SD_lt (hb : b < h.length) (d : Array Pr) : b < List.length (SD tv h b d) := by rw [SD_len]; exact hb
theorem swp_size (d : Array Pr) (i j : Nat) : (Sort.swp d i j).size = d.size := by simp [Sort.swp]
@[simp] theorem cs_len (x : Pr) : x.cs.length = 2 := rfl
@[simp] theorem cs_one (x : Pr) : x.cs.all V.one = true := rfl
theorem spl_prt (d : Array Pr) (i : Nat) (x : Pr) (h : i < d.size) : spliceL (prt tv d) (i * 2) x.cs = prt tv (d.setIfInBounds i x) := by
  have h2 : i < d.toList.length := by simpa using h
  have pl := prs_len d.toList
  have e := prs_set d.toList i x h2
  unfold prt
  rw [Array.toList_setIfInBounds, ← e]
  unfold spliceL
  rw [cs_len, List.take_append, List.drop_append]
  have z1 : i * 2 - (prs d.toList).length = 0 := by omega
  have z2 : i * 2 + 2 - (prs d.toList).length = 0 := by omega
  rw [z1, z2]
  simp
@[simp] theorem spl_len (d : Array Pr) (i : Nat) (x : Pr) (h : i < d.size) : (spliceL (prt tv d) (i * 2) x.cs).length = d.size * 2 + tv.length := by
  rw [spl_prt d i x h, SD_prs]; simp
@[simp] theorem SD_swap (d : Array Pr) (i j : Nat) (hi : i < d.size) (hj : j < d.size) : List.set (SD tv h b d) b (some (spliceL (spliceL (prt tv d) (i * 2) (atD d j).cs) (j * 2) (atD d i).cs)) = SD tv h b (Sort.swp d i j) := by
  unfold SD Sort.swp atD
  rw [List.set_set, spl_prt d i _ hi, spl_prt _ j _ (by simpa using hj)]
theorem Agree.sd {g : Heap} (ha : Agree h0 b g) (d : Array Pr) : Agree h0 b (SD tv g b d) := ⟨by rw [SD_len]; exact ha.1, fun r h1 h2 => by
  unfold SD; rw [row_ne (fun e => h2 e.symm)]; exact ha.2 r h1 h2⟩
theorem Agree.app {g : Heap} (ha : Agree h0 b g) (k : Heap) : Agree h0 b (g ++ k) := ⟨by rw [List.length_append]; have := ha.1; omega, fun r h1 h2 => by
  rw [row_app (by have := ha.1; omega)]; exact ha.2 r h1 h2⟩
theorem Agree.refl : Agree h0 b h0 := ⟨Nat.le_refl _, fun _ _ _ => rfl⟩
theorem Cmp.hb (hc : Cmp h0 b f cap c) (ha : Agree h0 b h) : b < h.length := Nat.lt_of_lt_of_le hc.lt ha.1
theorem Cmp.sd (hc : Cmp h0 b f cap c) (ha : Agree h0 b h) (d : Array Pr) (x y : Pr) : Run T f (.agg x.cs :: .agg y.cs :: cap) (SD tv h b d) (.int .i64 (c x y)) (SD tv h b d) := hc.run _ (ha.sd d) x y
theorem ins_in (hc : Cmp h0 b f cap c) (ha : Agree h0 b h) (a n : Nat) (v1 v8 : V) (a' : Nat) (hv1 : v1 = .int .i64 a) : ∀ (j : Nat) (d : Array Pr), d.size = n → n < 1152921504606846976 → j < n → ∀ ks Q,
    (∀ j', Xk T ks (.x 2) [(0, .hs 2 b 0 n), (1, v1), (2, .int .i64 a'), (3, .fn f cap), (8, v8), (9, .int .i64 j'), (34, .bool false)] (SD tv h b (Sort.insInner (ltC c) a j d)) Q) →
    Xc T l_slices_insertionSortCmpFunc_2_uint64_0 ks [(0, .hs 2 b 0 n), (1, v1), (2, .int .i64 a'), (3, .fn f cap), (8, v8), (9, .int .i64 j)] (SD tv h b d) Q := by
  intro j
  subst hv1
  have hb := hc.hb ha
  induction j with
  | zero =>
    intro d hd hn hj ks Q hQ
    rw [L_slices_insertionSortCmpFunc_2_uint64_0]; unfold bl_slices_insertionSortCmpFunc_2_uint64_0
    have c1 : ¬ (a : Int) < 0 := by omega
    simp (disch := omega) [c1]
    exact hQ 0
  | succ j ih =>
    intro d hd hn hj ks Q hQ
    rw [L_slices_insertionSortCmpFunc_2_uint64_0]; unfold bl_slices_insertionSortCmpFunc_2_uint64_0
    have e1 : j < d.size := by omega
    have e2 : j + 1 < d.size := by omega
    have g1 := SD_getN (tv := tv) d j e1
    have g2 := SD_getN (tv := tv) d (j + 1) e2
    have r1 := SD_row (tv := tv) hb d
    have hf := hc.free
    have gl := SD_prs (tv := tv) d
    have hbs := SD_lt (tv := tv) hb d
    have e5 : ((j : Int) + 1 - 1) = j := by omega
    have e6 : ((j : Int) + 1).toNat = j + 1 := by omega
    simp (disch := omega)
    apply Xg_dec
    · intro c1
      have c2 : a < j + 1 := by omega
      simp (disch := omega) [c1, e5, e6, r1, g1, g2, hf]
      rw [Xf_run (hc.sd ha d _ _)]
      simp (disch := omega)
      apply Xb_dec
      · intro c3
        have hl : ltC c d[j + 1]! d[j]! = true := decide_eq_true c3
        have hi := ih (Sort.swp d (j + 1) j) (by rw [swp_size]; exact hd) hn (by omega) ks Q (fun j' => by
          have := hQ j'
          unfold Sort.insInner at this
          rw [if_pos (by simp [hl, c2])] at this
          exact this)
        simp (disch := omega) [e5, e6, r1, g1, g2, gl]
        exact hi
      · intro c3
        have hl : ltC c d[j + 1]! d[j]! = false := decide_eq_false c3
        have := hQ ((j : Int) + 1)
        unfold Sort.insInner at this
        rw [if_neg (by simp [hl])] at this
        simp (disch := omega) [c3]
        simpa using this
    · intro c1
      have := hQ ((j : Int) + 1)
      unfold Sort.insInner at this
      rw [if_neg (by simp; omega)] at this
      simp (disch := omega) [c1]
      simpa using this
theorem insInner_size (lt : Pr → Pr → Bool) (a : Nat) : ∀ (j : Nat) (d : Array Pr), (Sort.insInner lt a j d).size = d.size
  | 0, d => rfl
  | j + 1, d => by
    unfold Sort.insInner
    split
    · rw [insInner_size lt a j, swp_size]
    · rfl
theorem ins_out (hc : Cmp h0 b f cap c) (ha : Agree h0 b h) (a e n : Nat) (hn : n < 1152921504606846976) (he : e ≤ n) : ∀ (m i : Nat) (d : Array Pr), e - i ≤ m → d.size = n → ∀ ks Q,
    (∀ i' : Int, Xk T ks (.x 0) [(0, .hs 2 b 0 n), (1, .int .i64 a), (2, .int .i64 e), (3, .fn f cap), (8, .int .i64 i'), (14, .bool false)] (SD tv h b (Sort.insOuter (ltC c) a e i d)) Q) →
    Xc T l_slices_insertionSortCmpFunc_2_uint64_1 ks [(0, .hs 2 b 0 n), (1, .int .i64 a), (2, .int .i64 e), (3, .fn f cap), (8, .int .i64 i)] (SD tv h b d) Q := by
  intro m
  induction m with
  | zero =>
    intro i d hm hd ks Q hQ
    rw [L_slices_insertionSortCmpFunc_2_uint64_1]; unfold bl_slices_insertionSortCmpFunc_2_uint64_1
    have c1 : ¬ (i : Int) < e := by omega
    have c2 : ¬ i < e := by omega
    have := hQ i
    unfold Sort.insOuter at this
    rw [if_neg c2] at this
    simp (disch := omega) [c1, c2]
    exact this
  | succ m ih =>
    intro i d hm hd ks Q hQ
    by_cases c2 : i < e
    · rw [L_slices_insertionSortCmpFunc_2_uint64_1]; unfold bl_slices_insertionSortCmpFunc_2_uint64_1
      simp (disch := omega) [c2]
      refine ins_in hc ha a n (.int .i64 a) (.int .i64 i) e rfl i d hd hn (by omega) _ _ fun j' => ?_
      simp (disch := omega)
      have := ih (i + 1) (Sort.insInner (ltC c) a i d) (by omega) (by rw [← hd]; exact insInner_size _ _ _ _) ks Q (fun i' => by
        have := hQ i'
        unfold Sort.insOuter at this
        rw [if_pos c2] at this
        exact this)
      simpa using this
    · rw [L_slices_insertionSortCmpFunc_2_uint64_1]; unfold bl_slices_insertionSortCmpFunc_2_uint64_1
      have := hQ i
      unfold Sort.insOuter at this
      rw [if_neg c2] at this
      simp (disch := omega) [c2]
      exact this
theorem ins_run (hc : Cmp h0 b f cap c) (ha : Agree h0 b h) (d : Array Pr) (a e : Nat) (hn : d.size < 1152921504606846976) (hae : a ≤ e) (he : e ≤ d.size) :
    Run T f_slices_insertionSortCmpFunc_2_uint64 [.hs 2 b 0 d.size, .int .i64 a, .int .i64 e, .fn f cap] (SD tv h b d) (.tup []) (SD tv h b (Sort.insertionSort (ltC c) d a e)) := by
  refine Run.start t_slices_insertionSortCmpFunc_2_uint64 ?_
  unfold k_slices_insertionSortCmpFunc_2_uint64
  simp (disch := omega)
  have := ins_out (tv := tv) hc ha a e d.size hn he (e - (a + 1)) (a + 1) d (by omega) rfl
  simp at this
  refine this _ _ fun i' => ?_
  simp (disch := omega) [Sort.insertionSort]
set_option maxHeartbeats 2000000 in
theorem sift_loop (hc : Cmp h0 b f cap c) (ha : Agree h0 b h) (hi first n : Nat) (hn : n < 1152921504606846976) (hf1 : first + hi ≤ n) : ∀ (m root : Nat) (d : Array Pr), hi - root ≤ m → d.size = n → (root < hi ∨ hi = 0 ∧ root = 0 ∨ hi ≤ root ∧ root ≤ n) → ∀ ks Q,
    (∀ e, Xk T ks (.x 0) e (SD tv h b (Sort.siftDown (ltC c) hi first root d)) Q) → (∀ e, Xk T ks .r e (SD tv h b (Sort.siftDown (ltC c) hi first root d)) Q) →
    Xc T l_slices_siftDownCmpFunc_2_uint64_0 ks [(0, .hs 2 b 0 n), (2, .int .i64 hi), (3, .int .i64 first), (4, .fn f cap), (10, .int .i64 root)] (SD tv h b d) Q := by
  intro m
  have hb := hc.hb ha
  have hf := hc.free
  induction m with
  | zero =>
    intro root d hm hd hr ks Q hx hr2
    rw [L_slices_siftDownCmpFunc_2_uint64_0]; unfold bl_slices_siftDownCmpFunc_2_uint64_0
    have c1 : (hi : Int) ≤ 2 * root + 1 := by omega
    have := fun e => hx e
    unfold Sort.siftDown at this
    simp (disch := omega) [c1]
    have h2 : 2 * root + 1 ≥ hi := by omega
    rw [dif_pos h2] at this
    exact this _
  | succ m ih =>
    intro root d hm hd hr ks Q hx hr2
    rw [L_slices_siftDownCmpFunc_2_uint64_0]; unfold bl_slices_siftDownCmpFunc_2_uint64_0
    have r1 := SD_row (tv := tv) hb d
    have gl := SD_prs (tv := tv) d
    have hbs := SD_lt (tv := tv) hb d
    unfold Sort.siftDown at hx hr2
    by_cases h2 : 2 * root + 1 ≥ hi
    · have c1 : (hi : Int) ≤ 2 * root + 1 := by omega
      simp (disch := omega) [c1]
      rw [dif_pos h2] at hx
      exact hx _
    · have c1 : ¬ (hi : Int) ≤ 2 * root + 1 := by omega
      rw [dif_neg h2] at hx hr2
      have g0 := SD_getN (tv := tv) d (first + root) (by omega)
      have g1 := SD_getN (tv := tv) d (first + (2 * root + 1)) (by omega)
      have i0 : ((first : Int) + root).toNat = first + root := by omega
      have i1 : ((first : Int) + (2 * root + 1)).toNat = first + (2 * root + 1) := by omega
      have i2 : ((first : Int) + (2 * root + 1) + 1).toNat = first + (2 * root + 1) + 1 := by omega
      have i3 : ((first : Int) + (2 * root + 1 + 1)).toNat = first + (2 * root + 2) := by omega
      simp (disch := omega) [c1]
      refine share2 (fun (ch : Nat) (_ : List (Nat × V)) => ch < hi ∧ root < ch ∧ ∀ P : Array Pr → Prop, (P (if 2 * root + 1 + 1 < hi && ltC c d[first + (2 * root + 1)]! d[first + (2 * root + 1) + 1]! then
        if !ltC c d[first + root]! d[first + (2 * root + 2)]! then d else
          if _h2 : 2 * root + 2 < hi then Sort.siftDown (ltC c) hi first (2 * root + 2) (Sort.swp d (first + root) (first + (2 * root + 2))) else d
        else
          if !ltC c d[first + root]! d[first + (2 * root + 1)]! then d else Sort.siftDown (ltC c) hi first (2 * root + 1) (Sort.swp d (first + root) (first + (2 * root + 1))))) →
        P (if !ltC c d[first + root]! d[first + ch]! then d else Sort.siftDown (ltC c) hi first ch (Sort.swp d (first + root) (first + ch)))) ?R (fun hR => ?main) ?rest
      case main =>
        apply Xg_dec
        · intro c2
          have c2' : 2 * root + 1 + 1 < hi := by omega
          have g2 := SD_getN (tv := tv) d (first + (2 * root + 1) + 1) (by omega)
          simp (disch := omega) [c2, i1, i2, r1, g1, g2, hf]
          rw [Xf_run (hc.sd ha d _ _)]
          simp (disch := omega)
          apply Xb_dec
          · intro c3
            have hl : ltC c d[first + (2 * root + 1)]! d[first + (2 * root + 1) + 1]! = true := decide_eq_true c3
            simp (disch := omega)
            obtain ⟨ch, hch⟩ : ∃ ch, ch = 2 * root + 2 := ⟨_, rfl⟩
            rw [show (2 : Int) * root + 1 + 1 = (ch : Int) by omega]
            generalize ([] : List (Nat × V)) = tl
            refine hR ch tl ⟨by omega, by omega, fun P hP => ?_⟩
            subst hch
            rw [if_pos (by simp [hl, c2'])] at hP
            rw [dif_pos (show 2 * root + 2 < hi by omega)] at hP
            exact hP
          · intro c3
            have hl : ltC c d[first + (2 * root + 1)]! d[first + (2 * root + 1) + 1]! = false := decide_eq_false c3
            simp (disch := omega) [c3]
            obtain ⟨ch, hch⟩ : ∃ ch, ch = 2 * root + 1 := ⟨_, rfl⟩
            rw [show (2 : Int) * root + 1 = (ch : Int) by omega]
            generalize [((40 : Nat), V.bool false)] = tl
            refine hR ch tl ⟨by omega, by omega, fun P hP => ?_⟩
            subst hch
            rw [if_neg (by simp [hl])] at hP
            exact hP
        · intro c2
          have c2' : ¬ 2 * root + 1 + 1 < hi := by omega
          simp (disch := omega) [c2]
          obtain ⟨ch, hch⟩ : ∃ ch, ch = 2 * root + 1 := ⟨_, rfl⟩
          rw [show (2 : Int) * root + 1 = (ch : Int) by omega]
          generalize [((40 : Nat), V.bool false)] = tl
          refine hR ch tl ⟨by omega, by omega, fun P hP => ?_⟩
          subst hch
          rw [if_neg (by simp [c2'])] at hP
          exact hP
      case rest =>
        intro ch tl ⟨h5, h6, hP⟩
        have gc := SD_getN (tv := tv) d (first + ch) (by omega)
        have ic : ((first : Int) + ch).toNat = first + ch := by omega
        simp (disch := omega) [i0, ic, r1, g0, gc, hf]
        rw [Xf_run (hc.sd ha d _ _)]
        simp (disch := omega)
        apply Xb_decn
        · intro c3
          have hl : ltC c d[first + root]! d[first + ch]! = false := decide_eq_false c3
          simp (disch := omega)
          have := hP (fun z => Xk T ks .r [(0, .hs 2 b 0 n), (2, .int .i64 hi), (3, .int .i64 first), (4, .fn f cap), (10, .int .i64 root), (11, .int .i64 ch), (58, .bool true)] (SD tv h b z) Q) (hr2 _)
          rw [if_pos (by simp [hl])] at this
          simpa [c3] using this
        · intro c3
          have hl : ltC c d[first + root]! d[first + ch]! = true := decide_eq_true c3
          simp (disch := omega) [i0, ic, r1, g0, gc, gl]
          refine ih ch (Sort.swp d (first + root) (first + ch)) (by omega) (by rw [swp_size]; exact hd) (Or.inl h5) ks Q (fun e => ?_) (fun e => ?_)
          · have := hP (fun z => Xk T ks (.x 0) e (SD tv h b z) Q) (hx e)
            rwa [if_neg (by simp [hl])] at this
          · have := hP (fun z => Xk T ks .r e (SD tv h b z) Q) (hr2 e)
            rwa [if_neg (by simp [hl])] at this
theorem sift_run (hc : Cmp h0 b f cap c) (ha : Agree h0 b h) (d : Array Pr) (lo hi first : Nat) (hn : d.size < 1152921504606846976) (hf1 : first + hi ≤ d.size) (hlo : lo < hi ∨ hi = 0 ∧ lo = 0) :
    Run T f_slices_siftDownCmpFunc_2_uint64 [.hs 2 b 0 d.size, .int .i64 lo, .int .i64 hi, .int .i64 first, .fn f cap] (SD tv h b d) (.tup []) (SD tv h b (Sort.siftDown (ltC c) hi first lo d)) := by
  refine Run.start t_slices_siftDownCmpFunc_2_uint64 ?_
  unfold k_slices_siftDownCmpFunc_2_uint64
  simp (disch := omega)
  refine sift_loop hc ha hi first d.size hn hf1 (hi - lo) lo d (by omega) rfl (by omega) _ _ (fun e => ?_) (fun e => ?_)
  · simp
  · simp
theorem siftDown_size (lt : Pr → Pr → Bool) (hi first : Nat) : ∀ (m root : Nat) (d : Array Pr), hi - root ≤ m → (Sort.siftDown lt hi first root d).size = d.size := by
  intro m
  induction m with
  | zero =>
    intro root d hm
    unfold Sort.siftDown
    rw [dif_pos (by omega)]
  | succ m ih =>
    intro root d hm
    unfold Sort.siftDown
    repeat' split
    all_goals first | rfl | (rw [ih _ _ (by omega), swp_size])
theorem build_loop (hc : Cmp h0 b f cap c) (ha : Agree h0 b h) (hi first n : Nat) (hn : n < 1152921504606846976) (hf1 : first + hi ≤ n) : ∀ (k : Nat) (d : Array Pr), d.size = n → (k ≤ hi ∨ k = 1 ∧ hi = 0) → ∀ ks Q,
    (∀ tl, Xk T ks (.x 0) ([(0, .hs 2 b 0 n), (3, .fn f cap), (8, .int .i64 first), (9, .int .i64 0), (10, .int .i64 hi)] ++ tl) (SD tv h b (Sort.heapBuild (ltC c) hi first k d)) Q) →
    Xc T l_slices_heapSortCmpFunc_2_uint64_0 ks [(0, .hs 2 b 0 n), (3, .fn f cap), (8, .int .i64 first), (9, .int .i64 0), (10, .int .i64 hi), (11, .int .i64 ((k : Int) - 1))] (SD tv h b d) Q := by
  intro k
  induction k with
  | zero =>
    intro d hd hk ks Q hx
    rw [L_slices_heapSortCmpFunc_2_uint64_0]; unfold bl_slices_heapSortCmpFunc_2_uint64_0
    simp (disch := omega)
    exact hx _
  | succ k ih =>
    intro d hd hk ks Q hx
    rw [L_slices_heapSortCmpFunc_2_uint64_0]; unfold bl_slices_heapSortCmpFunc_2_uint64_0
    have e1 : ((k : Int) + 1 - 1) = k := by omega
    simp (disch := omega) [e1]
    subst hd
    rw [Xf_run (sift_run hc ha d k hi first hn hf1 (by omega))]
    simp (disch := omega)
    have := ih (Sort.siftDown (ltC c) hi first k d) (siftDown_size _ _ _ _ _ _ (Nat.le_refl _)) (by omega) ks Q hx
    simpa using this
end
section
variable {tv : List V} {h0 h : Heap} {b f : Nat} {cap : List V} {c : Pr → Pr → Int}
theorem build_size (lt : Pr → Pr → Bool) (hi first : Nat) : ∀ (k : Nat) (d : Array Pr), (Sort.heapBuild lt hi first k d).size = d.size
  | 0, d => rfl
  | k + 1, d => by
    unfold Sort.heapBuild
    rw [build_size lt hi first k, siftDown_size _ _ _ _ _ _ (Nat.le_refl _)]
theorem pop_loop (hc : Cmp h0 b f cap c) (ha : Agree h0 b h) (first n : Nat) (hn : n < 1152921504606846976) : ∀ (k : Nat) (d : Array Pr), d.size = n → first + k ≤ n → ∀ ks Q,
    (∀ e, Xk T ks (.x 2) e (SD tv h b (Sort.heapPop (ltC c) first k d)) Q) →
    Xc T l_slices_heapSortCmpFunc_2_uint64_1 ks [(0, .hs 2 b 0 n), (3, .fn f cap), (8, .int .i64 first), (9, .int .i64 0), (12, .int .i64 ((k : Int) - 1))] (SD tv h b d) Q := by
  intro k
  have hb := hc.hb ha
  induction k with
  | zero =>
    intro d hd hk ks Q hx
    rw [L_slices_heapSortCmpFunc_2_uint64_1]; unfold bl_slices_heapSortCmpFunc_2_uint64_1
    simp (disch := omega)
    exact hx _
  | succ k ih =>
    intro d hd hk ks Q hx
    rw [L_slices_heapSortCmpFunc_2_uint64_1]; unfold bl_slices_heapSortCmpFunc_2_uint64_1
    have e1 : ((k : Int) + 1 - 1) = k := by omega
    have r1 := SD_row (tv := tv) hb d
    have gl := SD_prs (tv := tv) d
    have hbs := SD_lt (tv := tv) hb d
    have g0 := SD_getN (tv := tv) d first (by omega)
    have g1 := SD_getN (tv := tv) d (first + k) (by omega)
    have i1 : ((first : Int) + k).toNat = first + k := by omega
    simp (disch := omega) [e1, i1, r1, g0, g1, gl]
    have hsz : (Sort.swp d first (first + k)).size = n := by rw [swp_size]; exact hd
    subst hsz
    rw [Xf_run (by simpa using sift_run hc ha (Sort.swp d first (first + k)) 0 k first hn (by omega) (by omega))]
    simp (disch := omega)
    have := ih (Sort.siftDown (ltC c) k first 0 (Sort.swp d first (first + k))) (siftDown_size _ _ _ _ _ _ (Nat.le_refl _)) (by omega) ks Q hx
    simpa using this
theorem tdiv2 (a : Int) (h : 0 ≤ a) : a.tdiv 2 = a / 2 := Int.tdiv_eq_ediv_of_nonneg h
theorem heap_run (hc : Cmp h0 b f cap c) (ha : Agree h0 b h) (d : Array Pr) (a e : Nat) (hn : d.size < 1152921504606846976) (hae : a < e) (he : e ≤ d.size) :
    Run T f_slices_heapSortCmpFunc_2_uint64 [.hs 2 b 0 d.size, .int .i64 a, .int .i64 e, .fn f cap] (SD tv h b d) (.tup []) (SD tv h b (Sort.heapSort (ltC c) d a e)) := by
  refine Run.start t_slices_heapSortCmpFunc_2_uint64 ?_
  unfold k_slices_heapSortCmpFunc_2_uint64
  obtain ⟨m, hm⟩ : ∃ m, m = e - a := ⟨_, rfl⟩
  obtain ⟨k, hk⟩ : ∃ k, k = (m - 1) / 2 + 1 := ⟨_, rfl⟩
  have e1 : (e : Int) - a = (m : Int) := by omega
  have e2 : ((m : Int) - 1).tdiv 2 = ((k : Int) - 1) := by
    rw [tdiv2 _ (by omega)]; omega
  unfold Sort.heapSort
  rw [← hm, ← hk]
  simp (disch := omega) [e1, e2]
  refine build_loop hc ha m a d.size hn (by omega) k d rfl (by omega) _ _ fun tl => ?_
  simp (disch := omega)
  refine pop_loop hc ha a d.size hn m _ (build_size _ _ _ _ _) (by omega) _ _ fun e => ?_
  simp (disch := omega)
/-- A heap with the row that is sorted and a counter. -/
theorem row_SD {r : Nat} (hr : r ≠ b) (d : Array Pr) : (SD tv h b d).row r = h.row r := by unfold SD; exact row_ne (fun e => hr e.symm)
theorem set_SD {r : Nat} (hr : r ≠ b) (d : Array Pr) (X : Option (List V)) : (SD tv h b d).set r X = SD tv (h.set r X) b d := by
  unfold SD; exact (List.set_comm _ _ (fun e => hr e.symm))
/-- A counter's cell, at row s. -/
def SW (h : Heap) (s : Nat) (z : Int) : Heap := h.set s (some [.int .i64 z])
theorem SW_len (s : Nat) (z : Int) : (SW h s z).length = h.length := by simp [SW]
theorem SW_row {s : Nat} (hs : s < h.length) (z : Int) : (SW h s z).row s = some [.int .i64 z] := by unfold SW; rw [row_set hs]
theorem SW_set {s : Nat} (z z' : Int) : (SW h s z).set s (some [.int .i64 z']) = SW h s z' := by unfold SW; rw [List.set_set]
theorem Agree.sw {g : Heap} (ha : Agree h0 b g) {s : Nat} (hs : h0.length ≤ s) (z : Int) : Agree h0 b (SW g s z) := ⟨by rw [SW_len]; exact ha.1, fun r h1 h2 => by
  unfold SW; rw [row_ne (by omega)]; exact ha.2 r h1 h2⟩
theorem ord2_run (hc : Cmp h0 b f cap c) (ha : Agree h0 b h) (s : Nat) (hs : s < h.length) (hs0 : h0.length ≤ s) (d : Array Pr) (x y z : Nat) (hx : x < d.size) (hy : y < d.size) (hn : d.size < 1152921504606846976) (hz : z < 1000) :
    Run T f_slices_order2CmpFunc_2_uint64 [.hs 2 b 0 d.size, .int .i64 x, .int .i64 y, .ptr s 0, .fn f cap] (SD tv (SW h s z) b d)
      (.tup [.int .i64 ((Sort.order2 (ltC c) d x y z).1 : Nat), .int .i64 ((Sort.order2 (ltC c) d x y z).2.1 : Nat)]) (SD tv (SW h s ((Sort.order2 (ltC c) d x y z).2.2 : Nat)) b d) := by
  refine Run.start t_slices_order2CmpFunc_2_uint64 ?_
  unfold k_slices_order2CmpFunc_2_uint64
  have haw := fun z => ha.sw hs0 z
  have hb := hc.hb (haw z)
  have r1 := SD_row (tv := tv) hb d
  have g0 := SD_getN (tv := tv) d x hx
  have g1 := SD_getN (tv := tv) d y hy
  have hf := hc.free
  have hsb : s ≠ b := by have := hc.lt; omega
  have r2 : (SD tv (SW h s z) b d).row s = some [.int .i64 z] := by rw [row_SD hsb, SW_row hs]
  have hlt : s < List.length (SD tv (SW h s z) b d) := by rw [SD_len, SW_len]; exact hs
  simp (disch := omega) [r1, g0, g1, hf]
  rw [Xf_run (hc.sd (haw z) d _ _)]
  simp (disch := omega)
  apply Xb_dec
  · intro c3
    have hl : ltC c d[y]! d[x]! = true := decide_eq_true c3
    have ho : Sort.order2 (ltC c) d x y z = (y, x, z + 1) := by unfold Sort.order2; rw [if_pos hl]
    simp (disch := omega) [r2, hlt]
    rw [set_SD hsb, SW_set, ho]
    simp
  · intro c3
    have hl : ltC c d[y]! d[x]! = false := decide_eq_false c3
    have ho : Sort.order2 (ltC c) d x y z = (x, y, z) := by unfold Sort.order2; rw [if_neg (by rw [hl]; simp)]
    simp (disch := omega) [ho]
theorem median_run (hc : Cmp h0 b f cap c) (ha : Agree h0 b h) (s : Nat) (hs : s < h.length) (hs0 : h0.length ≤ s) (d : Array Pr) (x y w z : Nat) (hx : x < d.size) (hy : y < d.size) (hw : w < d.size) (hn : d.size < 1152921504606846976) (hz : z < 900) :
    Run T f_slices_medianCmpFunc_2_uint64 [.hs 2 b 0 d.size, .int .i64 x, .int .i64 y, .int .i64 w, .ptr s 0, .fn f cap] (SD tv (SW h s z) b d)
      (.int .i64 ((Sort.median (ltC c) d x y w z).1 : Nat)) (SD tv (SW h s ((Sort.median (ltC c) d x y w z).2 : Nat)) b d) := by
  refine Run.start t_slices_medianCmpFunc_2_uint64 ?_
  unfold k_slices_medianCmpFunc_2_uint64 Sort.median
  have hr : ∀ (x y z : Nat), x < d.size → y < d.size → z < 1000 → (Sort.order2 (ltC c) d x y z).1 < d.size ∧ (Sort.order2 (ltC c) d x y z).2.1 < d.size ∧ (Sort.order2 (ltC c) d x y z).2.2 ≤ z + 1 := by
    intro x y z h1 h2 h3
    unfold Sort.order2
    split <;> refine ⟨?_, ?_, ?_⟩ <;> simp <;> omega
  simp (disch := omega)
  rw [Xf_run (ord2_run hc ha s hs hs0 d x y z hx hy hn (by omega))]
  have k1 := hr x y z hx hy (by omega)
  generalize Sort.order2 (ltC c) d x y z = r1 at k1
  obtain ⟨k1, k2, k3⟩ := k1
  simp (disch := omega)
  rw [Xf_run (ord2_run hc ha s hs hs0 d r1.2.1 w r1.2.2 k2 hw hn (by omega))]
  have l1 := hr r1.2.1 w r1.2.2 k2 hw (by omega)
  generalize Sort.order2 (ltC c) d r1.2.1 w r1.2.2 = r2 at l1
  obtain ⟨l1, l2, l3⟩ := l1
  simp (disch := omega)
  rw [Xf_run (ord2_run hc ha s hs hs0 d r1.1 r2.1 r2.2.2 k1 l1 hn (by omega))]
  simp (disch := omega)
end
section
variable {tv : List V} {h0 h : Heap} {b f : Nat} {cap : List V} {c : Pr → Pr → Int}
theorem SD_app (hb : b < h.length) (d : Array Pr) (k : Heap) : SD tv h b d ++ k = SD tv (h ++ k) b d := by
  unfold SD; rw [List.set_append_left _ _ hb]
theorem SW_app (z z' : Int) : SW (h ++ [some [.int .i64 z]]) h.length z' = h ++ [some [.int .i64 z']] := by
  unfold SW; rw [List.set_append_right _ _ (Nat.le_refl _)]; simp
def hintN : Sort.Hint → Int
  | .unknown => 0
  | .increasing => 1
  | .decreasing => 2
theorem tdiv4 (a : Int) (h : 0 ≤ a) : a.tdiv 4 = a / 4 := Int.tdiv_eq_ediv_of_nonneg h
theorem choose_run (hc : Cmp h0 b f cap c) (ha : Agree h0 b h) (d : Array Pr) (a e : Nat) (hn : d.size < 50) (hae : a + 12 < e) (he : e ≤ d.size) :
    ∃ z : Int, Run T f_slices_choosePivotCmpFunc_2_uint64 [.hs 2 b 0 d.size, .int .i64 a, .int .i64 e, .fn f cap] (SD tv h b d)
      (.tup [.int .i64 ((Sort.choosePivot (ltC c) d a e).1 : Nat), .int .i64 (hintN (Sort.choosePivot (ltC c) d a e).2)]) (SD tv (h ++ [some [.int .i64 z]]) b d) := by
  have hb := hc.hb ha
  have hr : ∀ (x y z : Nat), x < d.size → y < d.size → z < 1000 → (Sort.order2 (ltC c) d x y z).1 < d.size ∧ (Sort.order2 (ltC c) d x y z).2.1 < d.size ∧ (Sort.order2 (ltC c) d x y z).2.2 ≤ z + 1 := by
    intro x y z h1 h2 h3
    unfold Sort.order2
    split <;> refine ⟨?_, ?_, ?_⟩ <;> simp <;> omega
  obtain ⟨q, hq⟩ : ∃ q, q = (e - a) / 4 := ⟨_, rfl⟩
  have hcp : Sort.choosePivot (ltC c) d a e = ((Sort.median (ltC c) d (a + q * 1) (a + q * 2) (a + q * 3) 0).1, if (Sort.median (ltC c) d (a + q * 1) (a + q * 2) (a + q * 3) 0).2 = 0 then .increasing else if (Sort.median (ltC c) d (a + q * 1) (a + q * 2) (a + q * 3) 0).2 = 12 then .decreasing else .unknown) := by
    unfold Sort.choosePivot
    dsimp only
    rw [if_pos (show e - a ≥ 8 by omega), if_neg (show ¬ e - a ≥ 50 by omega), ← hq]
  rw [hcp]
  obtain ⟨x, hx⟩ : ∃ x, x = a + q * 1 := ⟨_, rfl⟩
  obtain ⟨y, hy⟩ : ∃ y, y = a + q * 2 := ⟨_, rfl⟩
  obtain ⟨w, hw⟩ : ∃ w, w = a + q * 3 := ⟨_, rfl⟩
  rw [← hx, ← hy, ← hw]
  refine ⟨((Sort.median (ltC c) d x y w 0).2 : Nat), ?_⟩
  refine Run.start t_slices_choosePivotCmpFunc_2_uint64 ?_
  unfold k_slices_choosePivotCmpFunc_2_uint64
  obtain ⟨l, hl⟩ : ∃ l, l = e - a := ⟨_, rfl⟩
  have e1 : (e : Int) - a = (l : Int) := by omega
  have e2 : (l : Int).tdiv 4 = (q : Int) := by rw [tdiv4 _ (by omega)]; omega
  have e3 : (a : Int) + q * 2 = y := by omega
  have e4 : (a : Int) + q * 3 = w := by omega
  have e5 : (a : Int) + q = x := by omega
  have c1 : (8 : Int) ≤ l := by omega
  have c2 : ¬ (50 : Int) ≤ l := by omega
  have hh : SD tv h b d ++ [some [.int .i64 0]] = SD tv (SW (h ++ [some [.int .i64 0]]) h.length ((0 : Nat) : Int)) b d := by rw [SD_app hb]; simp [SW_app]
  simp (disch := omega) [e1, e2, e3, e4, e5, c1, c2, SD_len, hh]
  have haa := ha.app [some [.int .i64 0]]
  rw [Xf_run (by simpa using median_run hc haa h.length (by simp) ha.1 d x y w 0 (by omega) (by omega) (by omega) (by omega) (by omega))]
  generalize Sort.median (ltC c) d x y w 0 = r
  have hsb : h.length ≠ b := by omega
  have r2 : ∀ z : Int, (SD tv (h ++ [some [.int .i64 z]]) b d).row h.length = some [.int .i64 z] := fun z => by rw [row_SD hsb, row_new]
  by_cases c3 : r.2 = 0
  · simp (disch := omega) [c3, hintN, SW_app, r2]
  · by_cases c4 : r.2 = 12
    · simp (disch := omega) [c4, hintN, SW_app, r2]
    · have c5 : ¬ (r.2 : Int) = 12 := by omega
      simp (disch := omega) [c3, c4, c5, hintN, SW_app, r2]
theorem rev_loop (hb : b < h.length) (n : Nat) (hn : n < 1152921504606846976) : ∀ (m i j : Nat) (d : Array Pr), j - i ≤ m → j < n → d.size = n → ∀ ks Q,
    (∀ e, Xk T ks (.x 0) e (SD tv h b (Sort.reverseLoop i j d)) Q) →
    Xc T l_slices_reverseRangeCmpFunc_2_uint64_0 ks [(0, .hs 2 b 0 n), (8, .int .i64 i), (9, .int .i64 j)] (SD tv h b d) Q := by
  intro m
  induction m with
  | zero =>
    intro i j d hm hj hd ks Q hx
    rw [L_slices_reverseRangeCmpFunc_2_uint64_0]; unfold bl_slices_reverseRangeCmpFunc_2_uint64_0
    unfold Sort.reverseLoop at hx
    rw [if_neg (by omega)] at hx
    have c1 : ¬ (i : Int) < j := by omega
    have c2 : ¬ i < j := by omega
    simp (disch := omega) [c1, c2]
    exact hx _
  | succ m ih =>
    intro i j d hm hj hd ks Q hx
    rw [L_slices_reverseRangeCmpFunc_2_uint64_0]; unfold bl_slices_reverseRangeCmpFunc_2_uint64_0
    unfold Sort.reverseLoop at hx
    by_cases c2 : i < j
    · rw [if_pos c2] at hx
      have r1 := SD_row (tv := tv) hb d
      have gl := SD_prs (tv := tv) d
      have hbs := SD_lt (tv := tv) hb d
      have g0 := SD_getN (tv := tv) d i (by omega)
      have g1 := SD_getN (tv := tv) d j (by omega)
      have e1 : (j : Int) - 1 = ((j - 1 : Nat) : Int) := by omega
      simp (disch := omega) [c2, r1, g0, g1, gl]
      have := ih (i + 1) (j - 1) (Sort.swp d i j) (by omega) (by omega) (by rw [swp_size]; exact hd) ks Q hx
      rw [e1]
      simpa using this
    · rw [if_neg c2] at hx
      have c1 : ¬ (i : Int) < j := by omega
      simp (disch := omega) [c1, c2]
      exact hx _
theorem rev_run (hb : b < h.length) (d : Array Pr) (a e : Nat) (hn : d.size < 1152921504606846976) (hae : a < e) (he : e ≤ d.size) :
    Run T f_slices_reverseRangeCmpFunc_2_uint64 [.hs 2 b 0 d.size, .int .i64 a, .int .i64 e, .fn f cap] (SD tv h b d) (.tup []) (SD tv h b (Sort.reverseRange d a e)) := by
  refine Run.start t_slices_reverseRangeCmpFunc_2_uint64 ?_
  unfold k_slices_reverseRangeCmpFunc_2_uint64 Sort.reverseRange
  obtain ⟨j, hj⟩ : ∃ j, j = e - 1 := ⟨_, rfl⟩
  have e1 : (e : Int) - 1 = (j : Int) := by omega
  rw [← hj]
  simp (disch := omega) [e1]
  refine rev_loop hb d.size hn (j - a) a j d (by omega) (by omega) rfl _ _ fun e => ?_
  simp
end
theorem lenTab_get : ∀ n, n < 64 → ([0, 1, 2, 2, 3, 3, 3, 3, 4, 4, 4, 4, 4, 4, 4, 4, 5, 5, 5, 5, 5, 5, 5, 5, 5, 5, 5, 5, 5, 5, 5, 5, 6, 6, 6, 6, 6, 6, 6, 6, 6, 6, 6, 6, 6, 6, 6, 6, 6, 6, 6, 6, 6, 6, 6, 6, 6, 6, 6, 6, 6, 6, 6, 6, 7, 7, 7, 7, 7, 7, 7, 7, 7, 7, 7, 7, 7, 7, 7, 7, 7, 7, 7, 7, 7, 7, 7, 7, 7, 7, 7, 7, 7, 7, 7, 7, 7, 7, 7, 7, 7, 7, 7, 7, 7, 7, 7, 7, 7, 7, 7, 7, 7, 7, 7, 7, 7, 7, 7, 7, 7, 7, 7, 7, 7, 7, 7, 7, 8, 8, 8, 8, 8, 8, 8, 8, 8, 8, 8, 8, 8, 8, 8, 8, 8, 8, 8, 8, 8, 8, 8, 8, 8, 8, 8, 8, 8, 8, 8, 8, 8, 8, 8, 8, 8, 8, 8, 8, 8, 8, 8, 8, 8, 8, 8, 8, 8, 8, 8, 8, 8, 8, 8, 8, 8, 8, 8, 8, 8, 8, 8, 8, 8, 8, 8, 8, 8, 8, 8, 8, 8, 8, 8, 8, 8, 8, 8, 8, 8, 8, 8, 8, 8, 8, 8, 8, 8, 8, 8, 8, 8, 8, 8, 8, 8, 8, 8, 8, 8, 8, 8, 8, 8, 8, 8, 8, 8, 8, 8, 8, 8, 8, 8, 8, 8, 8, 8, 8, 8, 8, 8, 8, 8, 8, 8, 8] : List UInt8)[n]? = some (UInt8.ofNat (Sort.bitsLen n)) := by decide +kernel
theorem bitsLen_le : ∀ n, n < 64 → Sort.bitsLen n ≤ 6 := by decide +kernel
theorem pow_bits : ∀ n, n < 64 → 8 ≤ n → 1 <<< Sort.bitsLen n ≤ 2 * n ∧ n < 1 <<< Sort.bitsLen n := by decide +kernel
theorem len64_run (h : Heap) (n : Nat) (hn : n < 64) : Run T f_math_bits_Len64 [.int .u64 n] h (.int .i64 (Sort.bitsLen n : Nat)) h := by
  refine Run.start t_math_bits_Len64 ?_
  unfold k_math_bits_Len64
  have c1 : ¬ (4294967296 : Int) ≤ n := by omega
  have c2 : ¬ (65536 : Int) ≤ n := by omega
  have c3 : ¬ (256 : Int) ≤ n := by omega
  have hb := bitsLen_le n hn
  have hm : Sort.bitsLen n % 256 = Sort.bitsLen n := by omega
  simp (disch := omega) [c1, c2, c3, lenTab_get n hn, byteV, hm]
theorem len_run (h : Heap) (n : Nat) (hn : n < 64) : Run T f_math_bits_Len [.int .u64 n] h (.int .i64 (Sort.bitsLen n : Nat)) h := by
  refine Run.start t_math_bits_Len ?_
  unfold k_math_bits_Len
  simp (disch := omega)
  rw [Xp_run (len64_run [] n hn) (by simp) (by simp) (by simp)]
  simp (disch := omega)
theorem next2_run (h : Heap) (n : Nat) (hn : n < 64) : Run T f_slices_nextPowerOfTwo [.int .i64 n] h (.int .u64 (1 <<< Sort.bitsLen n : Nat)) h := by
  refine Run.start t_slices_nextPowerOfTwo ?_
  unfold k_slices_nextPowerOfTwo
  have hb := bitsLen_le n hn
  have hp : ∀ k, k ≤ 6 → (IntKind.u64.wrap (2 ^ k) : Int) = ((1 <<< k : Nat) : Int) := by decide +kernel
  have hp := hp _ hb
  generalize 1 <<< Sort.bitsLen n = z at hp
  have hm : min (Sort.bitsLen n) 64 = Sort.bitsLen n := by omega
  simp (disch := omega)
  rw [Xp_run (len_run [] n hn) (by simp) (by simp) (by simp)]
  simp (disch := omega) [IntKind.bits, hp, hm]
  trace_state
theorem b64_shl (y : BitVec 64) (k : Nat) (z : Int) (hz : z = 2 ^ k) : BitVec.ofInt 64 (IntKind.u64.wrap ((y.toNat : Int) * z)) = y <<< k := by
  apply BitVec.eq_of_toNat_eq
  have : (2 : Int) ^ k = ((2 ^ k : Nat) : Int) := by simp
  subst hz
  simp only [IntKind.wrap, IntKind.bits, IntKind.signed, BitVec.toNat_ofInt, BitVec.toNat_shiftLeft, Nat.shiftLeft_eq, this]
  simp only [Bool.false_and, Bool.false_eq_true, if_false]
  have h2 : ((2 : Int) ^ 64) = ((2 ^ 64 : Nat) : Int) := by simp
  rw [h2, Int.emod_emod_of_dvd _ (Int.dvd_refl _), ← Int.natCast_mul, ← Int.natCast_emod, Int.toNat_natCast]
theorem b64_shr (y : BitVec 64) (k : Nat) (z : Int) (hz : z = 2 ^ k) : BitVec.ofInt 64 ((y.toNat : Int).fdiv z) = y >>> k := by
  apply BitVec.eq_of_toNat_eq
  have : (2 : Int) ^ k = ((2 ^ k : Nat) : Int) := by simp
  subst hz
  rw [Int.fdiv_eq_ediv_of_nonneg _ (by rw [this]; exact Int.natCast_nonneg _), this]
  simp only [BitVec.toNat_ofInt, BitVec.toNat_ushiftRight, Nat.shiftRight_eq_div_pow]
  have h2 : ((2 ^ 64 : Nat) : Int) = (((2 ^ 64 : Nat)) : Int) := rfl
  rw [← Int.natCast_ediv, ← Int.natCast_emod, Int.toNat_natCast]
  have := Nat.div_le_self y.toNat (2 ^ k)
  have := y.isLt
  exact Nat.mod_eq_of_lt (by omega)
theorem xorNext_bv (x : UInt64) : (Sort.xorNext x).toBitVec = x.toBitVec ^^^ x.toBitVec <<< 13 ^^^ (x.toBitVec ^^^ x.toBitVec <<< 13) >>> 7 ^^^ (x.toBitVec ^^^ x.toBitVec <<< 13 ^^^ (x.toBitVec ^^^ x.toBitVec <<< 13) >>> 7) <<< 17 := by
  simp [Sort.xorNext]
theorem next_run (h : Heap) (s : Nat) (hs : s < h.length) (x : UInt64) (hr : h.row s = some [.int .u64 (x.toNat : Int)]) :
    Run T f_slices_xorshift_Next [.ptr s 0] h (.int .u64 ((Sort.xorNext x).toNat : Int)) (h.set s (some [.int .u64 ((Sort.xorNext x).toNat : Int)])) := by
  refine Run.start t_slices_xorshift_Next ?_
  unfold k_slices_xorshift_Next
  have hx := xorNext_bv x
  rw [show (Sort.xorNext x).toNat = (Sort.xorNext x).toBitVec.toNat from rfl, hx]
  rw [show x.toNat = x.toBitVec.toNat from rfl] at hr
  generalize x.toBitVec = y at hr
  have s1 := fun y => b64_shl y 13 8192 rfl
  have s2 := fun y => b64_shr y 7 128 rfl
  have s3 := fun y => b64_shl y 17 131072 rfl
  generalize hz : y ^^^ y <<< 13 ^^^ (y ^^^ y <<< 13) >>> 7 ^^^ (y ^^^ y <<< 13 ^^^ (y ^^^ y <<< 13) >>> 7) <<< 17 = z
  simp (disch := omega) [hr, hs, IntKind.bits, s1, s2, s3]
  subst hz
  exact ⟨rfl, rfl⟩
section
variable {tv : List V} {h0 h : Heap} {b f : Nat} {cap : List V} {c : Pr → Pr → Int}
/-- The random state's cell, at row s. -/
def XW (h : Heap) (s : Nat) (x : UInt64) : Heap := h.set s (some [.int .u64 (x.toNat : Int)])
theorem XW_len (s : Nat) (x : UInt64) : (XW h s x).length = h.length := by simp [XW]
theorem XW_row {s : Nat} (hs : s < h.length) (x : UInt64) : (XW h s x).row s = some [.int .u64 (x.toNat : Int)] := by unfold XW; rw [row_set hs]
theorem XW_set {s : Nat} (x x' : UInt64) : (XW h s x).set s (some [.int .u64 (x'.toNat : Int)]) = XW h s x' := by unfold XW; rw [List.set_set]
def brk (a l m : Nat) : Nat → UInt64 × Array Pr → Nat → UInt64 × Array Pr
  | 0, st, _ => st
  | k + 1, st, i => brk a l m k (Sort.breakStep a l m st i) (i + 1)
theorem brk_loop (s n a l m last : Nat) (hb : b < h.length) (hs : s < h.length) (hsb : s ≠ b) (hn : n < 50) (hl : 8 ≤ l) (hal : a + l ≤ n) (hm : m ≤ 2 * l) (hm0 : 0 < m) (hlast : last = a + l / 4 * 2 + 1) : ∀ (k i : Nat) (st : UInt64 × Array Pr), i + k = last + 1 → st.2.size = n → ∀ ks Q,
    (∀ x e, Xk T ks (.x 0) e (SD tv (XW h s x) b (brk a l m k st i).2) Q) →
    Xc T l_slices_breakPatternsCmpFunc_2_uint64_0 ks [(0, .hs 2 b 0 n), (1, .int .i64 a), (8, .int .i64 l), (9, .ptr s 0), (10, .int .u64 m), (11, .int .i64 i)] (SD tv (XW h s st.1) b st.2) Q := by
  intro k
  induction k with
  | zero =>
    intro i st hi hd ks Q hx
    rw [L_slices_breakPatternsCmpFunc_2_uint64_0]; unfold bl_slices_breakPatternsCmpFunc_2_uint64_0
    have c1 : ¬ (i : Int) ≤ a + (l : Int) / 4 * 2 + 1 := by omega
    simp (disch := omega) [c1]
    exact hx _ _
  | succ k ih =>
    intro i st hi hd ks Q hx
    rw [L_slices_breakPatternsCmpFunc_2_uint64_0]; unfold bl_slices_breakPatternsCmpFunc_2_uint64_0
    have c1 : (i : Int) ≤ a + (l : Int) / 4 * 2 + 1 := by omega
    obtain ⟨x, d⟩ := st
    have r1 : (SD tv (XW h s x) b d).row s = some [.int .u64 (x.toNat : Int)] := by rw [row_SD hsb, XW_row hs]
    have hlt : s < List.length (SD tv (XW h s x) b d) := by rw [SD_len, XW_len]; exact hs
    simp (disch := omega) [c1]
    rw [Xf_run (next_run _ s hlt x r1)]
    have e1 : (m : Int) - 1 = ((m - 1 : Nat) : Int) := by omega
    rw [set_SD hsb, XW_set]
    generalize hx' : Sort.xorNext x = x'
    simp (disch := omega) [e1]
    obtain ⟨o, ho⟩ : ∃ o, o = x'.toNat &&& (m - 1) := ⟨_, rfl⟩
    have hom : o ≤ m - 1 := by rw [ho]; exact Nat.and_le_right
    have hw : IntKind.i64.wrap (IntKind.u64.wrap (((x'.toNat % 2 ^ IntKind.u64.bits &&& (m - 1) % 2 ^ IntKind.u64.bits : Nat)) : Int)) = (o : Int) := by
      rw [Nat.mod_eq_of_lt (a := x'.toNat) (by exact x'.toNat_lt), Nat.mod_eq_of_lt (a := m - 1) (by simp only [IntKind.bits]; omega), ← ho]
      simp (disch := omega)
    rw [hw]
    have hx2 : ∀ y, (if o ≥ l then o - l else o) = y → ∀ x e, Xk T ks (.x 0) e (SD tv (XW h s x) b (brk a l m k (x', Sort.swp d i (a + y)) (i + 1)).2) Q := by
      intro y hy
      unfold brk at hx
      have : Sort.breakStep a l m (x, d) i = (x', Sort.swp d i (a + y)) := by
        unfold Sort.breakStep
        simp only [hx', ← ho, hy]
      rw [this] at hx
      exact hx
    have hd' : d.size = n := hd
    refine share2 (fun (y : Nat) (_ : List (Nat × V)) => y < l ∧ (if o ≥ l then o - l else o) = y) ?R (fun hR => ?main) ?rest
    case main =>
      apply Xb_dec
      · intro c2
        obtain ⟨y, hy⟩ : ∃ y, y = o - l := ⟨_, rfl⟩
        have e2 : (o : Int) - l = (y : Int) := by omega
        simp (disch := omega) [e2]
        generalize [((45 : Nat), V.bool (decide ((l : Int) ≤ o)))] = tl
        generalize ([] : List (Nat × V)) = tl
        exact hR y tl ⟨by omega, by rw [if_pos (by omega)]; exact hy.symm⟩
      · intro c2
        simp (disch := omega) [c2]
        generalize [((45 : Nat), V.bool false)] = tl
        exact hR o tl ⟨by omega, by rw [if_neg (by omega)]⟩
    case rest =>
      intro y tl ⟨hy1, hy2⟩
      have hb' : b < List.length (XW h s x') := by rw [XW_len]; exact hb
      have r1 := SD_row (tv := tv) hb' d
      have gl := SD_prs (tv := tv) d
      have hbs := SD_lt (tv := tv) hb' d
      have g0 := SD_getN (tv := tv) d i (by omega)
      have g1 := SD_getN (tv := tv) d (a + y) (by omega)
      have i1 : ((a : Int) + y).toNat = a + y := by omega
      have i2 : (((l : Int) / 4).toNat) = l / 4 := by omega
      simp (disch := omega) [i1, r1, g0, g1, gl]
      have := ih (i + 1) (x', Sort.swp d i (a + y)) (by omega) (by simp only [swp_size]; exact hd) ks Q (hx2 y hy2)
      simpa using this
theorem XW_app (z : UInt64) (v : V) : (h ++ [some [v]]).set h.length (some [.int .u64 (z.toNat : Int)]) = XW (h ++ [some [.int .u64 0]]) h.length z := by
  unfold XW; rw [List.set_append_right _ _ (Nat.le_refl _), List.set_append_right _ _ (Nat.le_refl _)]; simp
theorem XW_app' (z : UInt64) : XW (h ++ [some [.int .u64 0]]) h.length z = h ++ [some [.int .u64 (z.toNat : Int)]] := by
  unfold XW; rw [List.set_append_right _ _ (Nat.le_refl _)]; simp
theorem brk_run (hb : b < h.length) (d : Array Pr) (a e : Nat) (hn : d.size < 50) (hae : a + 12 < e) (he : e ≤ d.size) :
    ∃ z : V, Run T f_slices_breakPatternsCmpFunc_2_uint64 [.hs 2 b 0 d.size, .int .i64 a, .int .i64 e, .fn f cap] (SD tv h b d) (.tup []) (SD tv (h ++ [some [z]]) b (Sort.breakPatterns d a e)) := by
  have key : ∃ v h', (v = .tup [] ∧ ∃ z : V, h' = SD tv (h ++ [some [z]]) b (Sort.breakPatterns d a e)) ∧ Run T f_slices_breakPatternsCmpFunc_2_uint64 [.hs 2 b 0 d.size, .int .i64 a, .int .i64 e, .fn f cap] (SD tv h b d) v h' := by
    refine Run.startP t_slices_breakPatternsCmpFunc_2_uint64 ?_
    unfold k_slices_breakPatternsCmpFunc_2_uint64
    obtain ⟨l, hl⟩ : ∃ l, l = e - a := ⟨_, rfl⟩
    obtain ⟨m, hm⟩ : ∃ m, m = 1 <<< Sort.bitsLen l := ⟨_, rfl⟩
    obtain ⟨i, hi⟩ : ∃ i, i = a + l / 4 * 2 - 1 := ⟨_, rfl⟩
    have e1 : (e : Int) - a = (l : Int) := by omega
    have c1 : (8 : Int) ≤ l := by omega
    have e2 : (a : Int) + (l : Int) / 4 * 2 - 1 = i := by omega
    have hp := pow_bits l (by omega) (by omega)
    have hk : Sort.breakPatterns d a e = (brk a l m 3 (UInt64.ofNat l, d) i).2 := by
      unfold Sort.breakPatterns
      dsimp only
      rw [if_pos (show e - a ≥ 8 by omega), ← hl, ← hm, ← hi]
      rfl
    have hsb : h.length ≠ b := by omega
    have hu : ((UInt64.ofNat l).toNat : Int) = (l : Int) := by
      have : (UInt64.ofNat l).toNat = l := by simp; omega
      rw [this]
    have hxa : (h ++ [some [V.int .u64 0]]).set h.length (some [.int .u64 (l : Int)]) = XW (h ++ [some [.int .u64 0]]) h.length (UInt64.ofNat l) := by rw [← hu]; exact XW_app _ _
    have r2 : (SD tv (h ++ [some [.int .u64 0]]) b d).row h.length = some [.int .u64 0] := by rw [row_SD hsb, row_new]
    simp (disch := omega) [e1, c1, SD_len, SD_app hb, r2]
    rw [set_SD hsb, hxa]
    rw [Xp_run (next2_run [] l (by omega)) (by simp) (by simp) (by simp), ← hm]
    simp (disch := omega) [e2]
    refine brk_loop h.length d.size a l m (i + 2) (by simp; omega) (by simp) hsb hn (by omega) (by omega) (by omega) (by omega) (by omega) 3 i (UInt64.ofNat l, d) (by omega) rfl _ _ fun x e => ?_
    rw [XW_app', ← hk]
    simp
    exact ⟨_, rfl⟩
  obtain ⟨v, h', ⟨rfl, z, rfl⟩, hr⟩ := key
  exact ⟨z, hr⟩
end
section
variable {tv : List V} {h0 h : Heap} {b f : Nat} {cap : List V} {c : Pr → Pr → Int}
theorem scanS_le (lt : Pr → Pr → Bool) (d : Array Pr) (e : Nat) : ∀ (m i : Nat), e - i ≤ m → i ≤ e → i ≤ Sort.scanSorted lt d e i ∧ Sort.scanSorted lt d e i ≤ e := by
  intro m
  induction m with
  | zero =>
    intro i h1 h2
    unfold Sort.scanSorted
    rw [if_neg (by simp; omega)]
    omega
  | succ m ih =>
    intro i h1 h2
    unfold Sort.scanSorted
    split
    · rename_i h3
      simp at h3
      have := ih (i + 1) (by omega) (by omega)
      omega
    · omega
theorem scanS_loop (hc : Cmp h0 b f cap c) (ha : Agree h0 b h) (a e n : Nat) (d : Array Pr) (hd : d.size = n) (hn : n < 1152921504606846976) (he : e ≤ n) (z : V) : ∀ (m i : Nat), e - i ≤ m → 0 < i → ∀ tl ks Q,
    Xk T ks (.x 2) [(0, .hs 2 b 0 n), (1, .int .i64 a), (2, .int .i64 e), (3, .fn f cap), (9, .int .i64 (Sort.scanSorted (ltC c) d e i : Nat)), (10, z), (36, .bool false)] (SD tv h b d) Q →
    Xc T l_slices_partialInsertionSortCmpFunc_2_uint64_0 ks ([(0, .hs 2 b 0 n), (1, .int .i64 a), (2, .int .i64 e), (3, .fn f cap), (9, .int .i64 i), (10, z)] ++ tl) (SD tv h b d) Q := by
  intro m
  have hb := hc.hb ha
  have hf := hc.free
  have r1 := SD_row (tv := tv) hb d
  induction m with
  | zero =>
    intro i hm hi tl ks Q hx
    rw [L_slices_partialInsertionSortCmpFunc_2_uint64_0]; unfold bl_slices_partialInsertionSortCmpFunc_2_uint64_0
    have c1 : ¬ (i : Int) < e := by omega
    have c2 : ¬ i < e := by omega
    unfold Sort.scanSorted at hx
    rw [if_neg (by simp; omega)] at hx
    simp (disch := omega) [c1, c2]
    simpa [c2] using hx
  | succ m ih =>
    intro i hm hi tl ks Q hx
    rw [L_slices_partialInsertionSortCmpFunc_2_uint64_0]; unfold bl_slices_partialInsertionSortCmpFunc_2_uint64_0
    unfold Sort.scanSorted at hx
    by_cases c2 : i < e
    · have g0 := SD_getN (tv := tv) d i (by omega)
      have g1 := SD_getN (tv := tv) d (i - 1) (by omega)
      have i1 : ((i : Int) - 1).toNat = i - 1 := by omega
      simp (disch := omega) [c2, i1, r1, g0, g1, hf]
      rw [Xf_run (hc.sd ha d _ _)]
      simp (disch := omega)
      apply Xb_decn
      · intro c3
        have hl : ltC c d[i]! d[i - 1]! = false := decide_eq_false c3
        rw [if_pos (by simp only [hl]; simp [c2])] at hx
        simp (disch := omega)
        have := ih (i + 1) (by omega) (by omega) [] ks Q hx
        simpa using this
      · intro c3
        have hl : ltC c d[i]! d[i - 1]! = true := decide_eq_true c3
        rw [if_neg (by simp only [hl]; simp)] at hx
        simp (disch := omega)
        simpa [c3] using hx
    · have c1 : ¬ (i : Int) < e := by omega
      rw [if_neg (by simp; omega)] at hx
      simp (disch := omega) [c1, c2]
      simpa [c2] using hx
theorem pins_small (lt : Pr → Pr → Bool) (d : Array Pr) (a e : Nat) (h : e - a < 50) : Sort.partialInsertionSort lt d a e = (d, decide (Sort.scanSorted lt d e (a + 1) = e)) := by
  unfold Sort.partialInsertionSort Sort.partialIns
  dsimp only
  split
  · rename_i h1; simp [h1]
  · rename_i h1; simp [h1]
theorem pins_run (hc : Cmp h0 b f cap c) (ha : Agree h0 b h) (d : Array Pr) (a e : Nat) (hn : d.size < 50) (hae : a < e) (he : e ≤ d.size) :
    Run T f_slices_partialInsertionSortCmpFunc_2_uint64 [.hs 2 b 0 d.size, .int .i64 a, .int .i64 e, .fn f cap] (SD tv h b d) (.bool (Sort.partialInsertionSort (ltC c) d a e).2) (SD tv h b (Sort.partialInsertionSort (ltC c) d a e).1) := by
  refine Run.start t_slices_partialInsertionSortCmpFunc_2_uint64 ?_
  unfold k_slices_partialInsertionSortCmpFunc_2_uint64
  rw [pins_small _ _ _ _ (by omega)]
  simp (disch := omega)
  rw [L_slices_partialInsertionSortCmpFunc_2_uint64_3]; unfold bl_slices_partialInsertionSortCmpFunc_2_uint64_3
  simp (disch := omega)
  have := scanS_loop (tv := tv) hc ha a e d.size d rfl (by omega) he (.int .i64 0) (e - (a + 1)) (a + 1) (by omega) (by omega) [(16, .bool true)]
  simp at this
  refine this _ _ ?_
  have h2 := scanS_le (ltC c) d e _ (a + 1) (Nat.le_refl _) (by omega)
  generalize Sort.scanSorted (ltC c) d e (a + 1) = i at h2
  simp (disch := omega)
  have c3 : (e : Int) - a < 50 := by omega
  by_cases c1 : i = e
  · simp (disch := omega) [c1]
  · have c2 : ¬ (i : Int) = e := by omega
    simp (disch := omega) [c1, c2, c3]
end
section
variable {tv : List V} {h0 h : Heap} {b f : Nat} {cap : List V} {c : Pr → Pr → Int}
theorem up0 (hc : Cmp h0 b f cap c) (ha : Agree h0 b h) (a n : Nat) (d : Array Pr) (hd : d.size = n) (hn : n < 1152921504606846976) (han : a < n) (j : Nat) (hj : j < n) (p : Pr → Bool) (hp : ∀ x, p x = ltC c x (atD d a)) : ∀ (m i : Nat), j + 1 - i ≤ m → i ≤ n → ∀ tl ks Q,
    Xk T ks (.x 0) [(0, .hs 2 b 0 n), (1, .int .i64 a), (4, .fn f cap), (12, .int .i64 (Sort.scanUp p d j i : Nat)), (13, .int .i64 j), (47, .bool false)] (SD tv h b d) Q →
    Xc T l_slices_partitionCmpFunc_2_uint64_0 ks ([(0, .hs 2 b 0 n), (1, .int .i64 a), (4, .fn f cap), (12, .int .i64 i), (13, .int .i64 j)] ++ tl) (SD tv h b d) Q := by
  intro m
  have hb := hc.hb ha
  have hf := hc.free
  have r1 := SD_row (tv := tv) hb d
  have ga := SD_getN (tv := tv) d a (by omega)
  induction m with
  | zero =>
    intro i hm hi tl ks Q hx
    rw [L_slices_partitionCmpFunc_2_uint64_0]; unfold bl_slices_partitionCmpFunc_2_uint64_0
    have c1 : ¬ (i : Int) ≤ j := by omega
    have c2 : ¬ i ≤ j := by omega
    unfold Sort.scanUp at hx
    rw [if_neg (by simp; omega)] at hx
    simp (disch := omega) [c1, c2]
    simpa [c2] using hx
  | succ m ih =>
    intro i hm hi tl ks Q hx
    rw [L_slices_partitionCmpFunc_2_uint64_0]; unfold bl_slices_partitionCmpFunc_2_uint64_0
    unfold Sort.scanUp at hx
    by_cases c2 : i ≤ j
    · have g0 := SD_getN (tv := tv) d i (by omega)
      simp (disch := omega) [c2, r1, g0, ga, hf]
      rw [Xf_run (hc.sd ha d _ _)]
      simp (disch := omega)
      apply Xb_dec
      · intro c3
        have hl : p d[i]! = true := by rw [hp]; exact decide_eq_true c3
        rw [if_pos (by simp only [hl]; simp [c2])] at hx
        simp (disch := omega)
        have := ih (i + 1) (by omega) (by omega) [] ks Q hx
        simpa using this
      · intro c3
        have hl : p d[i]! = false := by rw [hp]; exact decide_eq_false c3
        rw [if_neg (by simp only [hl]; simp)] at hx
        simp (disch := omega)
        simpa [c3] using hx
    · have c1 : ¬ (i : Int) ≤ j := by omega
      rw [if_neg (by simp; omega)] at hx
      simp (disch := omega) [c1, c2]
      simpa [c2] using hx
theorem up2 (hc : Cmp h0 b f cap c) (ha : Agree h0 b h) (a n : Nat) (d : Array Pr) (hd : d.size = n) (hn : n < 1152921504606846976) (han : a < n) (j : Nat) (hj : j < n) (p : Pr → Bool) (hp : ∀ x, p x = ltC c x (atD d a)) : ∀ (m i : Nat), j + 1 - i ≤ m → i ≤ n → ∀ tl ks Q,
    Xk T ks (.x 6) [(0, .hs 2 b 0 n), (1, .int .i64 a), (4, .fn f cap), (12, .int .i64 (Sort.scanUp p d j i : Nat)), (13, .int .i64 j), (120, .bool false)] (SD tv h b d) Q →
    Xc T l_slices_partitionCmpFunc_2_uint64_2 ks ([(0, .hs 2 b 0 n), (1, .int .i64 a), (4, .fn f cap), (12, .int .i64 i), (13, .int .i64 j)] ++ tl) (SD tv h b d) Q := by
  intro m
  have hb := hc.hb ha
  have hf := hc.free
  have r1 := SD_row (tv := tv) hb d
  have ga := SD_getN (tv := tv) d a (by omega)
  induction m with
  | zero =>
    intro i hm hi tl ks Q hx
    rw [L_slices_partitionCmpFunc_2_uint64_2]; unfold bl_slices_partitionCmpFunc_2_uint64_2
    have c1 : ¬ (i : Int) ≤ j := by omega
    have c2 : ¬ i ≤ j := by omega
    unfold Sort.scanUp at hx
    rw [if_neg (by simp; omega)] at hx
    simp (disch := omega) [c1, c2]
    simpa [c2] using hx
  | succ m ih =>
    intro i hm hi tl ks Q hx
    rw [L_slices_partitionCmpFunc_2_uint64_2]; unfold bl_slices_partitionCmpFunc_2_uint64_2
    unfold Sort.scanUp at hx
    by_cases c2 : i ≤ j
    · have g0 := SD_getN (tv := tv) d i (by omega)
      simp (disch := omega) [c2, r1, g0, ga, hf]
      rw [Xf_run (hc.sd ha d _ _)]
      simp (disch := omega)
      apply Xb_dec
      · intro c3
        have hl : p d[i]! = true := by rw [hp]; exact decide_eq_true c3
        rw [if_pos (by simp only [hl]; simp [c2])] at hx
        simp (disch := omega)
        have := ih (i + 1) (by omega) (by omega) [] ks Q hx
        simpa using this
      · intro c3
        have hl : p d[i]! = false := by rw [hp]; exact decide_eq_false c3
        rw [if_neg (by simp only [hl]; simp)] at hx
        simp (disch := omega)
        simpa [c3] using hx
    · have c1 : ¬ (i : Int) ≤ j := by omega
      rw [if_neg (by simp; omega)] at hx
      simp (disch := omega) [c1, c2]
      simpa [c2] using hx
theorem dn1 (hc : Cmp h0 b f cap c) (ha : Agree h0 b h) (a n : Nat) (d : Array Pr) (hd : d.size = n) (hn : n < 1152921504606846976) (han : a < n) (i : Nat) (hi : 1 ≤ i) (hin : i ≤ n) (p : Pr → Bool) (hp : ∀ x, p x = (!ltC c x (atD d a))) : ∀ (j : Nat), j < n → ∀ tl ks Q,
    Xk T ks (.x 2) [(0, .hs 2 b 0 n), (1, .int .i64 a), (4, .fn f cap), (12, .int .i64 i), (13, .int .i64 (Sort.scanDown p d i j : Nat)), (66, .bool false)] (SD tv h b d) Q →
    Xc T l_slices_partitionCmpFunc_2_uint64_1 ks ([(0, .hs 2 b 0 n), (1, .int .i64 a), (4, .fn f cap), (12, .int .i64 i), (13, .int .i64 j)] ++ tl) (SD tv h b d) Q := by
  intro j
  have hb := hc.hb ha
  have hf := hc.free
  have r1 := SD_row (tv := tv) hb d
  have ga := SD_getN (tv := tv) d a (by omega)
  induction j with
  | zero =>
    intro hj tl ks Q hx
    rw [L_slices_partitionCmpFunc_2_uint64_1]; unfold bl_slices_partitionCmpFunc_2_uint64_1
    have c1 : ¬ (i : Int) ≤ (0 : Nat) := by omega
    have c2 : ¬ i = 0 := by omega
    have c4 : ¬ (i : Int) ≤ 0 := by omega
    unfold Sort.scanDown at hx
    simp (disch := omega) [c1, c2, c4]
    simpa [c2] using hx
  | succ j ih =>
    intro hj tl ks Q hx
    rw [L_slices_partitionCmpFunc_2_uint64_1]; unfold bl_slices_partitionCmpFunc_2_uint64_1
    unfold Sort.scanDown at hx
    by_cases c2 : i ≤ j + 1
    · have g0 := SD_getN (tv := tv) d (j + 1) (by omega)
      have i1 : ((j : Int) + 1).toNat = j + 1 := by omega
      have c1 : (i : Int) ≤ j + 1 := by omega
      simp (disch := omega) [c1, c2, r1, g0, ga, hf, i1]
      rw [Xf_run (hc.sd ha d _ _)]
      simp (disch := omega)
      apply Xb_decn
      · intro c3
        have hl : p d[j + 1]! = true := by rw [hp]; have h9 : ltC c (atD d (j + 1)) (atD d a) = false := decide_eq_false c3; exact congrArg Bool.not h9
        rw [if_pos (by simp only [hl]; simp [c2])] at hx
        have e1 : (j : Int) + 1 - 1 = j := by omega
        simp (disch := omega) [e1]
        have := ih (by omega) [] ks Q hx
        simpa using this
      · intro c3
        have hl : p d[j + 1]! = false := by rw [hp]; have h9 : ltC c (atD d (j + 1)) (atD d a) = true := decide_eq_true c3; exact congrArg Bool.not h9
        rw [if_neg (by simp only [hl]; simp)] at hx
        simp (disch := omega)
        simpa [c3] using hx
    · have c1 : ¬ (i : Int) ≤ j + 1 := by omega
      rw [if_neg (by simp; omega)] at hx
      simp (disch := omega) [c1, c2]
      simpa [c2] using hx
theorem dn3 (hc : Cmp h0 b f cap c) (ha : Agree h0 b h) (a n : Nat) (d : Array Pr) (hd : d.size = n) (hn : n < 1152921504606846976) (han : a < n) (i : Nat) (hi : 1 ≤ i) (hin : i ≤ n) (p : Pr → Bool) (hp : ∀ x, p x = (!ltC c x (atD d a))) : ∀ (j : Nat), j < n → ∀ tl ks Q,
    Xk T ks (.x 8) [(0, .hs 2 b 0 n), (1, .int .i64 a), (4, .fn f cap), (12, .int .i64 i), (13, .int .i64 (Sort.scanDown p d i j : Nat)), (139, .bool false)] (SD tv h b d) Q →
    Xc T l_slices_partitionCmpFunc_2_uint64_3 ks ([(0, .hs 2 b 0 n), (1, .int .i64 a), (4, .fn f cap), (12, .int .i64 i), (13, .int .i64 j)] ++ tl) (SD tv h b d) Q := by
  intro j
  have hb := hc.hb ha
  have hf := hc.free
  have r1 := SD_row (tv := tv) hb d
  have ga := SD_getN (tv := tv) d a (by omega)
  induction j with
  | zero =>
    intro hj tl ks Q hx
    rw [L_slices_partitionCmpFunc_2_uint64_3]; unfold bl_slices_partitionCmpFunc_2_uint64_3
    have c1 : ¬ (i : Int) ≤ (0 : Nat) := by omega
    have c2 : ¬ i = 0 := by omega
    have c4 : ¬ (i : Int) ≤ 0 := by omega
    unfold Sort.scanDown at hx
    simp (disch := omega) [c1, c2, c4]
    simpa [c2] using hx
  | succ j ih =>
    intro hj tl ks Q hx
    rw [L_slices_partitionCmpFunc_2_uint64_3]; unfold bl_slices_partitionCmpFunc_2_uint64_3
    unfold Sort.scanDown at hx
    by_cases c2 : i ≤ j + 1
    · have g0 := SD_getN (tv := tv) d (j + 1) (by omega)
      have i1 : ((j : Int) + 1).toNat = j + 1 := by omega
      have c1 : (i : Int) ≤ j + 1 := by omega
      simp (disch := omega) [c1, c2, r1, g0, ga, hf, i1]
      rw [Xf_run (hc.sd ha d _ _)]
      simp (disch := omega)
      apply Xb_decn
      · intro c3
        have hl : p d[j + 1]! = true := by rw [hp]; have h9 : ltC c (atD d (j + 1)) (atD d a) = false := decide_eq_false c3; exact congrArg Bool.not h9
        rw [if_pos (by simp only [hl]; simp [c2])] at hx
        have e1 : (j : Int) + 1 - 1 = j := by omega
        simp (disch := omega) [e1]
        have := ih (by omega) [] ks Q hx
        simpa using this
      · intro c3
        have hl : p d[j + 1]! = false := by rw [hp]; have h9 : ltC c (atD d (j + 1)) (atD d a) = true := decide_eq_true c3; exact congrArg Bool.not h9
        rw [if_neg (by simp only [hl]; simp)] at hx
        simp (disch := omega)
        simpa [c3] using hx
    · have c1 : ¬ (i : Int) ≤ j + 1 := by omega
      rw [if_neg (by simp; omega)] at hx
      simp (disch := omega) [c1, c2]
      simpa [c2] using hx
theorem eq0 (hc : Cmp h0 b f cap c) (ha : Agree h0 b h) (a n : Nat) (d : Array Pr) (hd : d.size = n) (hn : n < 1152921504606846976) (han : a < n) (j : Nat) (hj : j < n) (p : Pr → Bool) (hp : ∀ x, p x = (!ltC c (atD d a) x)) : ∀ (m i : Nat), j + 1 - i ≤ m → i ≤ n → ∀ tl ks Q,
    Xk T ks (.x 2) [(0, .hs 2 b 0 n), (1, .int .i64 a), (4, .fn f cap), (11, .int .i64 (Sort.scanUp p d j i : Nat)), (12, .int .i64 j), (47, .bool false)] (SD tv h b d) Q →
    Xc T l_slices_partitionEqualCmpFunc_2_uint64_0 ks ([(0, .hs 2 b 0 n), (1, .int .i64 a), (4, .fn f cap), (11, .int .i64 i), (12, .int .i64 j)] ++ tl) (SD tv h b d) Q := by
  intro m
  have hb := hc.hb ha
  have hf := hc.free
  have r1 := SD_row (tv := tv) hb d
  have ga := SD_getN (tv := tv) d a (by omega)
  induction m with
  | zero =>
    intro i hm hi tl ks Q hx
    rw [L_slices_partitionEqualCmpFunc_2_uint64_0]; unfold bl_slices_partitionEqualCmpFunc_2_uint64_0
    have c1 : ¬ (i : Int) ≤ j := by omega
    have c2 : ¬ i ≤ j := by omega
    unfold Sort.scanUp at hx
    rw [if_neg (by simp; omega)] at hx
    simp (disch := omega) [c1, c2]
    simpa [c2] using hx
  | succ m ih =>
    intro i hm hi tl ks Q hx
    rw [L_slices_partitionEqualCmpFunc_2_uint64_0]; unfold bl_slices_partitionEqualCmpFunc_2_uint64_0
    unfold Sort.scanUp at hx
    by_cases c2 : i ≤ j
    · have g0 := SD_getN (tv := tv) d i (by omega)
      simp (disch := omega) [c2, r1, g0, ga, hf]
      rw [Xf_run (hc.sd ha d _ _)]
      simp (disch := omega)
      apply Xb_decn
      · intro c3
        have hl : p d[i]! = true := by rw [hp]; have h9 : ltC c (atD d a) (atD d i) = false := decide_eq_false c3; exact congrArg Bool.not h9
        rw [if_pos (by simp only [hl]; simp [c2])] at hx
        simp (disch := omega)
        have := ih (i + 1) (by omega) (by omega) [] ks Q hx
        simpa using this
      · intro c3
        have hl : p d[i]! = false := by rw [hp]; have h9 : ltC c (atD d a) (atD d i) = true := decide_eq_true c3; exact congrArg Bool.not h9
        rw [if_neg (by simp only [hl]; simp)] at hx
        simp (disch := omega)
        simpa [c3] using hx
    · have c1 : ¬ (i : Int) ≤ j := by omega
      rw [if_neg (by simp; omega)] at hx
      simp (disch := omega) [c1, c2]
      simpa [c2] using hx
theorem eq1 (hc : Cmp h0 b f cap c) (ha : Agree h0 b h) (a n : Nat) (d : Array Pr) (hd : d.size = n) (hn : n < 1152921504606846976) (han : a < n) (i : Nat) (hi : 1 ≤ i) (hin : i ≤ n) (p : Pr → Bool) (hp : ∀ x, p x = ltC c (atD d a) x) : ∀ (j : Nat), j < n → ∀ tl ks Q,
    Xk T ks (.x 4) [(0, .hs 2 b 0 n), (1, .int .i64 a), (4, .fn f cap), (11, .int .i64 i), (12, .int .i64 (Sort.scanDown p d i j : Nat)), (65, .bool false)] (SD tv h b d) Q →
    Xc T l_slices_partitionEqualCmpFunc_2_uint64_1 ks ([(0, .hs 2 b 0 n), (1, .int .i64 a), (4, .fn f cap), (11, .int .i64 i), (12, .int .i64 j)] ++ tl) (SD tv h b d) Q := by
  intro j
  have hb := hc.hb ha
  have hf := hc.free
  have r1 := SD_row (tv := tv) hb d
  have ga := SD_getN (tv := tv) d a (by omega)
  induction j with
  | zero =>
    intro hj tl ks Q hx
    rw [L_slices_partitionEqualCmpFunc_2_uint64_1]; unfold bl_slices_partitionEqualCmpFunc_2_uint64_1
    have c1 : ¬ (i : Int) ≤ (0 : Nat) := by omega
    have c2 : ¬ i = 0 := by omega
    have c4 : ¬ (i : Int) ≤ 0 := by omega
    unfold Sort.scanDown at hx
    simp (disch := omega) [c1, c2, c4]
    simpa [c2] using hx
  | succ j ih =>
    intro hj tl ks Q hx
    rw [L_slices_partitionEqualCmpFunc_2_uint64_1]; unfold bl_slices_partitionEqualCmpFunc_2_uint64_1
    unfold Sort.scanDown at hx
    by_cases c2 : i ≤ j + 1
    · have g0 := SD_getN (tv := tv) d (j + 1) (by omega)
      have i1 : ((j : Int) + 1).toNat = j + 1 := by omega
      have c1 : (i : Int) ≤ j + 1 := by omega
      simp (disch := omega) [c1, c2, r1, g0, ga, hf, i1]
      rw [Xf_run (hc.sd ha d _ _)]
      simp (disch := omega)
      apply Xb_dec
      · intro c3
        have hl : p d[j + 1]! = true := by rw [hp]; exact decide_eq_true c3
        rw [if_pos (by simp only [hl]; simp [c2])] at hx
        have e1 : (j : Int) + 1 - 1 = j := by omega
        simp (disch := omega) [e1]
        have := ih (by omega) [] ks Q hx
        simpa using this
      · intro c3
        have hl : p d[j + 1]! = false := by rw [hp]; exact decide_eq_false c3
        rw [if_neg (by simp only [hl]; simp)] at hx
        simp (disch := omega)
        simpa [c3] using hx
    · have c1 : ¬ (i : Int) ≤ j + 1 := by omega
      rw [if_neg (by simp; omega)] at hx
      simp (disch := omega) [c1, c2]
      simpa [c2] using hx
end
theorem hpos1 {c : Pr → Pr → Int} {d : Array Pr} {a : Nat} : ∀ x, (fun x => ltC c x d[a]!) x = ltC c x (atD d a) := fun _ => rfl
theorem hneg1 {c : Pr → Pr → Int} {d : Array Pr} {a : Nat} : ∀ x, (fun x => !ltC c x d[a]!) x = !ltC c x (atD d a) := fun _ => rfl
theorem hneg2 {c : Pr → Pr → Int} {d : Array Pr} {a : Nat} : ∀ x, (fun x => !ltC c d[a]! x) x = !ltC c (atD d a) x := fun _ => rfl
theorem hpos2 {c : Pr → Pr → Int} {d : Array Pr} {a : Nat} : ∀ x, (fun x => ltC c d[a]! x) x = ltC c (atD d a) x := fun _ => rfl
theorem scanUp_len (p : Pr → Bool) (d : Array Pr) (j n : Nat) (hj : j < n) (i : Nat) (hi : i ≤ n) : Sort.scanUp p d j i ≤ n := by
  by_cases h : i ≤ j + 1
  · have := (Sort.scanUp_spec p d j _ i rfl).2.1 h
    omega
  · unfold Sort.scanUp
    rw [if_neg (by simp; omega)]
    exact hi
section
variable {tv : List V} {h0 h : Heap} {b f : Nat} {cap : List V} {c : Pr → Pr → Int}
theorem pl_loop (hc : Cmp h0 b f cap c) (ha : Agree h0 b h) (a n : Nat) (hn : n < 1152921504606846976) (han : a < n) : ∀ (m i j : Nat) (d : Array Pr), j + 1 - i ≤ m → a < i → i ≤ n → j < n → d.size = n → ∀ tl ks Q,
    (∀ i' e, (Sort.partLoop (ltC c) a i j d).1 < n → (Sort.partLoop (ltC c) a i j d).2.size = n → Xk T ks (.x 4) ([(0, .hs 2 b 0 n), (1, .int .i64 a), (4, .fn f cap), (12, .int .i64 i'), (13, .int .i64 ((Sort.partLoop (ltC c) a i j d).1 : Nat))] ++ e) (SD tv h b (Sort.partLoop (ltC c) a i j d).2) Q) →
    Xc T l_slices_partitionCmpFunc_2_uint64_4 ks ([(0, .hs 2 b 0 n), (1, .int .i64 a), (4, .fn f cap), (12, .int .i64 i), (13, .int .i64 j)] ++ tl) (SD tv h b d) Q := by
  intro m
  have hb := hc.hb ha
  have hf := hc.free
  induction m with
  | zero =>
    intro i j d hm hai hi hj hd tl ks Q hx
    rw [L_slices_partitionCmpFunc_2_uint64_4]; unfold bl_slices_partitionCmpFunc_2_uint64_4
    rw [Sort.partLoop_eq] at hx
    have u1 := Sort.scanUp_ge (fun x => ltC c x d[a]!) d j i
    have u2 := scanUp_len (fun x => ltC c x d[a]!) d j n hj i hi
    simp (disch := omega)
    have hu := up2 (tv := tv) hc ha a n d hd hn han j hj (fun x => ltC c x d[a]!) hpos1 _ i (Nat.le_refl _) hi []
    simp only [List.append_nil] at hu
    refine hu _ _ ?_
    generalize Sort.scanUp (fun x => ltC c x d[a]!) d j i = i2 at *
    simp (disch := omega)
    refine dn3 (tv := tv) hc ha a n d hd hn han i2 (by omega) (by omega) (fun x => !ltC c x d[a]!) hneg1 j hj [(120, .bool false)] _ _ ?_
    have v1 := Sort.scanDown_le (fun x => !ltC c x d[a]!) d i2 j
    generalize Sort.scanDown (fun x => !ltC c x d[a]!) d i2 j = j2 at *
    rw [if_pos (show i2 > j2 by omega)] at hx
    have c1 : (j2 : Int) < i2 := by omega
    simp (disch := omega) [c1]
    have := hx i2 [(144, .bool true)] (by omega) hd
    simpa using this
  | succ m ih =>
    intro i j d hm hai hi hj hd tl ks Q hx
    rw [L_slices_partitionCmpFunc_2_uint64_4]; unfold bl_slices_partitionCmpFunc_2_uint64_4
    rw [Sort.partLoop_eq] at hx
    have u1 := Sort.scanUp_ge (fun x => ltC c x d[a]!) d j i
    have u2 := scanUp_len (fun x => ltC c x d[a]!) d j n hj i hi
    simp (disch := omega)
    have hu := up2 (tv := tv) hc ha a n d hd hn han j hj (fun x => ltC c x d[a]!) hpos1 _ i (Nat.le_refl _) hi []
    simp only [List.append_nil] at hu
    refine hu _ _ ?_
    generalize Sort.scanUp (fun x => ltC c x d[a]!) d j i = i2 at *
    simp (disch := omega)
    refine dn3 (tv := tv) hc ha a n d hd hn han i2 (by omega) (by omega) (fun x => !ltC c x d[a]!) hneg1 j hj [(120, .bool false)] _ _ ?_
    have v1 := Sort.scanDown_le (fun x => !ltC c x d[a]!) d i2 j
    generalize Sort.scanDown (fun x => !ltC c x d[a]!) d i2 j = j2 at *
    by_cases c2 : i2 > j2
    · rw [if_pos c2] at hx
      have c1 : (j2 : Int) < i2 := by omega
      simp (disch := omega) [c1]
      have := hx i2 [(144, .bool true)] (by omega) hd
      simpa using this
    · rw [if_neg c2] at hx
      have c1 : ¬ (j2 : Int) < i2 := by omega
      have c3 : ¬ j2 < i2 := by omega
      have r1 := SD_row (tv := tv) hb d
      have gl := SD_prs (tv := tv) d
      have hbs := SD_lt (tv := tv) hb d
      have g0 := SD_getN (tv := tv) d i2 (by omega)
      have g1 := SD_getN (tv := tv) d j2 (by omega)
      have e1 : (j2 : Int) - 1 = ((j2 - 1 : Nat) : Int) := by omega
      simp (disch := omega) [c1, c3, r1, g0, g1, gl]
      have := ih (i2 + 1) (j2 - 1) (Sort.swp d i2 j2) (by omega) (by omega) (by omega) (by omega) (by rw [swp_size]; exact hd) [] ks Q hx
      rw [e1]
      simpa using this
theorem partn_run (hc : Cmp h0 b f cap c) (ha : Agree h0 b h) (d : Array Pr) (a e pv : Nat) (hn : d.size < 1152921504606846976) (hae : a + 2 < e) (he : e ≤ d.size) (hpa : a ≤ pv) (hpe : pv < e) :
    Run T f_slices_partitionCmpFunc_2_uint64 [.hs 2 b 0 d.size, .int .i64 a, .int .i64 e, .int .i64 pv, .fn f cap] (SD tv h b d)
      (.tup [.int .i64 ((Sort.partition (ltC c) d a e pv).1 : Nat), .bool (Sort.partition (ltC c) d a e pv).2.1]) (SD tv h b (Sort.partition (ltC c) d a e pv).2.2) := by
  generalize hP : Sort.partition (ltC c) d a e pv = P
  refine Run.start t_slices_partitionCmpFunc_2_uint64 ?_
  unfold k_slices_partitionCmpFunc_2_uint64
  unfold Sort.partition at hP
  have hb := hc.hb ha
  have r1 := SD_row (tv := tv) hb d
  have gl := SD_prs (tv := tv) d
  have hbs := SD_lt (tv := tv) hb d
  have g0 := SD_getN (tv := tv) d a (by omega)
  have g1 := SD_getN (tv := tv) d pv (by omega)
  obtain ⟨j, hj⟩ : ∃ j, j = e - 1 := ⟨_, rfl⟩
  have e1 : (e : Int) - 1 = (j : Int) := by omega
  simp only [← hj] at hP
  simp (disch := omega) [r1, g0, g1, gl, e1]
  have hd : (Sort.swp d a pv).size = d.size := swp_size _ _ _
  generalize Sort.swp d a pv = d1 at *
  generalize d.size = n at *
  clear g0 g1 r1 gl hbs
  have u1 := Sort.scanUp_ge (fun x => ltC c x d1[a]!) d1 j (a + 1)
  have u2 := scanUp_len (fun x => ltC c x d1[a]!) d1 j n (by omega) (a + 1) (by omega)
  have hu := up0 (tv := tv) hc ha a n d1 hd hn (by omega) j (by omega) (fun x => ltC c x d1[a]!) hpos1 _ (a + 1) (Nat.le_refl _) (by omega) []
  simp only [List.append_nil] at hu
  simp only [Int.natCast_add, Int.cast_ofNat_Int] at hu
  refine hu _ _ ?_
  generalize Sort.scanUp (fun x => ltC c x d1[a]!) d1 j (a + 1) = i2 at *
  simp (disch := omega)
  refine dn1 (tv := tv) hc ha a n d1 hd hn (by omega) i2 (by omega) (by omega) (fun x => !ltC c x d1[a]!) hneg1 j (by omega) [(47, .bool false)] _ _ ?_
  have v1 := Sort.scanDown_le (fun x => !ltC c x d1[a]!) d1 i2 j
  generalize Sort.scanDown (fun x => !ltC c x d1[a]!) d1 i2 j = j2 at *
  have r1 := SD_row (tv := tv) hb d1
  have gl := SD_prs (tv := tv) d1
  have hbs := SD_lt (tv := tv) hb d1
  have g0 := SD_getN (tv := tv) d1 a (by omega)
  have g1 := SD_getN (tv := tv) d1 j2 (by omega)
  by_cases c2 : i2 > j2
  · have c1 : (j2 : Int) < i2 := by omega
    have c3 : j2 < i2 := by omega
    rw [if_pos c2] at hP
    subst hP
    simp (disch := omega) [c1, c3, r1, g0, g1, gl]
  · have c1 : ¬ (j2 : Int) < i2 := by omega
    have c3 : ¬ j2 < i2 := by omega
    rw [if_neg c2] at hP
    have g2 := SD_getN (tv := tv) d1 i2 (by omega)
    have e2 : (j2 : Int) - 1 = ((j2 - 1 : Nat) : Int) := by omega
    simp (disch := omega) [c1, c3, r1, g0, g1, g2, gl, e2]
    have hl := pl_loop (tv := tv) hc ha a n hn (by omega) (j2 + 1 - i2) (i2 + 1) (j2 - 1) (Sort.swp d1 i2 j2) (by omega) (by omega) (by omega) (by omega) (by rw [swp_size]; exact hd) []
    simp only [Int.natCast_add, Int.cast_ofNat_Int, List.append_nil] at hl
    refine hl _ _ ?_
    generalize Sort.partLoop (ltC c) a (i2 + 1) (j2 - 1) (Sort.swp d1 i2 j2) = r at *
    subst hP
    intro i' tl k1 k2
    have r1 := SD_row (tv := tv) hb r.2
    have gl := SD_prs (tv := tv) r.2
    have hbs := SD_lt (tv := tv) hb r.2
    have g0 := SD_getN (tv := tv) r.2 a (by omega)
    have g1 := SD_getN (tv := tv) r.2 r.1 (by omega)
    simp (disch := omega) [r1, g0, g1, gl]
end
section
variable {tv : List V} {h0 h : Heap} {b f : Nat} {cap : List V} {c : Pr → Pr → Int}
theorem pe_loop (hc : Cmp h0 b f cap c) (ha : Agree h0 b h) (a n : Nat) (hn : n < 1152921504606846976) (han : a < n) : ∀ (m i j : Nat) (d : Array Pr), j + 1 - i ≤ m → a < i → i ≤ n → j < n → d.size = n → ∀ tl ks Q,
    (∀ j' e, Xk T ks (.x 0) ([(0, .hs 2 b 0 n), (1, .int .i64 a), (4, .fn f cap), (11, .int .i64 ((Sort.partEqLoop (ltC c) a i j d).1 : Nat)), (12, .int .i64 j')] ++ e) (SD tv h b (Sort.partEqLoop (ltC c) a i j d).2) Q) →
    Xc T l_slices_partitionEqualCmpFunc_2_uint64_2 ks ([(0, .hs 2 b 0 n), (1, .int .i64 a), (4, .fn f cap), (11, .int .i64 i), (12, .int .i64 j)] ++ tl) (SD tv h b d) Q := by
  intro m
  have hb := hc.hb ha
  have hf := hc.free
  induction m with
  | zero =>
    intro i j d hm hai hi hj hd tl ks Q hx
    rw [L_slices_partitionEqualCmpFunc_2_uint64_2]; unfold bl_slices_partitionEqualCmpFunc_2_uint64_2
    rw [Sort.partEqLoop_eq] at hx
    have u1 := Sort.scanUp_ge (fun x => !ltC c d[a]! x) d j i
    have u2 := scanUp_len (fun x => !ltC c d[a]! x) d j n hj i hi
    simp (disch := omega)
    have hu := eq0 (tv := tv) hc ha a n d hd hn han j hj (fun x => !ltC c d[a]! x) hneg2 _ i (Nat.le_refl _) hi []
    simp only [List.append_nil] at hu
    refine hu _ _ ?_
    generalize Sort.scanUp (fun x => !ltC c d[a]! x) d j i = i2 at *
    simp (disch := omega)
    refine eq1 (tv := tv) hc ha a n d hd hn han i2 (by omega) (by omega) (fun x => ltC c d[a]! x) hpos2 j hj [(47, .bool false)] _ _ ?_
    have v1 := Sort.scanDown_le (fun x => ltC c d[a]! x) d i2 j
    generalize Sort.scanDown (fun x => ltC c d[a]! x) d i2 j = j2 at *
    rw [if_pos (show i2 > j2 by omega)] at hx
    have c1 : (j2 : Int) < i2 := by omega
    simp (disch := omega) [c1]
    have := hx j2 [(70, .bool true)]
    simpa using this
  | succ m ih =>
    intro i j d hm hai hi hj hd tl ks Q hx
    rw [L_slices_partitionEqualCmpFunc_2_uint64_2]; unfold bl_slices_partitionEqualCmpFunc_2_uint64_2
    rw [Sort.partEqLoop_eq] at hx
    have u1 := Sort.scanUp_ge (fun x => !ltC c d[a]! x) d j i
    have u2 := scanUp_len (fun x => !ltC c d[a]! x) d j n hj i hi
    simp (disch := omega)
    have hu := eq0 (tv := tv) hc ha a n d hd hn han j hj (fun x => !ltC c d[a]! x) hneg2 _ i (Nat.le_refl _) hi []
    simp only [List.append_nil] at hu
    refine hu _ _ ?_
    generalize Sort.scanUp (fun x => !ltC c d[a]! x) d j i = i2 at *
    simp (disch := omega)
    refine eq1 (tv := tv) hc ha a n d hd hn han i2 (by omega) (by omega) (fun x => ltC c d[a]! x) hpos2 j hj [(47, .bool false)] _ _ ?_
    have v1 := Sort.scanDown_le (fun x => ltC c d[a]! x) d i2 j
    generalize Sort.scanDown (fun x => ltC c d[a]! x) d i2 j = j2 at *
    by_cases c2 : i2 > j2
    · rw [if_pos c2] at hx
      have c1 : (j2 : Int) < i2 := by omega
      simp (disch := omega) [c1]
      have := hx j2 [(70, .bool true)]
      simpa using this
    · rw [if_neg c2] at hx
      have c1 : ¬ (j2 : Int) < i2 := by omega
      have c3 : ¬ j2 < i2 := by omega
      have r1 := SD_row (tv := tv) hb d
      have gl := SD_prs (tv := tv) d
      have hbs := SD_lt (tv := tv) hb d
      have g0 := SD_getN (tv := tv) d i2 (by omega)
      have g1 := SD_getN (tv := tv) d j2 (by omega)
      have e1 : (j2 : Int) - 1 = ((j2 - 1 : Nat) : Int) := by omega
      simp (disch := omega) [c1, c3, r1, g0, g1, gl]
      have := ih (i2 + 1) (j2 - 1) (Sort.swp d i2 j2) (by omega) (by omega) (by omega) (by omega) (by rw [swp_size]; exact hd) [] ks Q hx
      rw [e1]
      simpa using this
theorem parteq_run (hc : Cmp h0 b f cap c) (ha : Agree h0 b h) (d : Array Pr) (a e pv : Nat) (hn : d.size < 1152921504606846976) (hae : a + 2 < e) (he : e ≤ d.size) (hpa : a ≤ pv) (hpe : pv < e) :
    Run T f_slices_partitionEqualCmpFunc_2_uint64 [.hs 2 b 0 d.size, .int .i64 a, .int .i64 e, .int .i64 pv, .fn f cap] (SD tv h b d)
      (.int .i64 ((Sort.partitionEqual (ltC c) d a e pv).1 : Nat)) (SD tv h b (Sort.partitionEqual (ltC c) d a e pv).2) := by
  generalize hP : Sort.partitionEqual (ltC c) d a e pv = P
  refine Run.start t_slices_partitionEqualCmpFunc_2_uint64 ?_
  unfold k_slices_partitionEqualCmpFunc_2_uint64
  unfold Sort.partitionEqual at hP
  have hb := hc.hb ha
  have r1 := SD_row (tv := tv) hb d
  have gl := SD_prs (tv := tv) d
  have hbs := SD_lt (tv := tv) hb d
  have g0 := SD_getN (tv := tv) d a (by omega)
  have g1 := SD_getN (tv := tv) d pv (by omega)
  obtain ⟨j, hj⟩ : ∃ j, j = e - 1 := ⟨_, rfl⟩
  have e1 : (e : Int) - 1 = (j : Int) := by omega
  simp only [← hj] at hP
  simp (disch := omega) [r1, g0, g1, gl, e1]
  have hd : (Sort.swp d a pv).size = d.size := swp_size _ _ _
  generalize Sort.swp d a pv = d1 at *
  generalize d.size = n at *
  have hl := pe_loop (tv := tv) hc ha a n hn (by omega) (j + 1 - (a + 1)) (a + 1) j d1 (by omega) (by omega) (by omega) (by omega) hd []
  simp only [Int.natCast_add, Int.cast_ofNat_Int, List.append_nil] at hl
  refine hl _ _ ?_
  rw [hP]
  intro j' tl
  simp (disch := omega)
end
theorem share4 {α β γ δ : Type} {P : Prop} (C : α → β → γ → δ → Prop) (R : α → β → γ → δ → Prop) (main : (∀ a b c d, C a b c d → R a b c d) → P) (rest : ∀ a b c d, C a b c d → R a b c d) : P := main rest
theorem Xb_nb {w : Bool} {a b : ACode} {ks : List Kt} {e : Env} {h : Heap} {Q : Ex → Env → Heap → Prop} (h1 : w = false → Xc T a ks e h Q) (h2 : w = true → Xc T b ks e h Q) : Xb T (some (!w)) a b ks e h Q := by
  cases w
  · exact (Xb_dec (c := True) (fun _ => h1 rfl) (fun h => absurd trivial h))
  · exact (Xb_dec (c := False) (fun h => h.elim) (fun _ => h2 rfl))
section
variable {tv : List V} {h0 h : Heap} {b f : Nat} {cap : List V} {c : Pr → Pr → Int}
theorem pdq_fun (n : Nat) (a e lim : Nat) (d : Array Pr) (hd : d.size = n) (hn : n < 50) (hlim : lim < 1000) (hae : a ≤ e) (he : e ≤ n)
    (hl : ∀ ks Q, (∀ g d' env, Agree h0 b g → Sort.PermIn a e d d' → Sort.SortedIn (ltC c) a e d' → Xk T ks .r env (SD tv g b d') Q) →
      Xc T l_slices_pdqsortCmpFunc_2_uint64_0 ks [(0, .hs 2 b 0 n), (1, .int .i64 a), (2, .int .i64 e), (3, .int .i64 lim), (4, .fn f cap), (10, .bool true), (11, .bool true)] (SD tv h b d) Q) :
    ∃ g d', Agree h0 b g ∧ Sort.PermIn a e d d' ∧ Sort.SortedIn (ltC c) a e d' ∧ Run T f_slices_pdqsortCmpFunc_2_uint64 [.hs 2 b 0 n, .int .i64 a, .int .i64 e, .int .i64 lim, .fn f cap] (SD tv h b d) (.tup []) (SD tv g b d') := by
  have key : ∃ v h', (v = .tup [] ∧ ∃ g d', h' = SD tv g b d' ∧ Agree h0 b g ∧ Sort.PermIn a e d d' ∧ Sort.SortedIn (ltC c) a e d') ∧ Run T f_slices_pdqsortCmpFunc_2_uint64 [.hs 2 b 0 n, .int .i64 a, .int .i64 e, .int .i64 lim, .fn f cap] (SD tv h b d) v h' := by
    refine Run.startP t_slices_pdqsortCmpFunc_2_uint64 ?_
    unfold k_slices_pdqsortCmpFunc_2_uint64
    simp (disch := omega)
    refine hl _ _ fun g d' env h1 h2 h3 => ?_
    simp (disch := omega)
    exact ⟨g, d', rfl, h1, h2, h3⟩
  obtain ⟨v, h', ⟨rfl, g, d', rfl, h1, h2, h3⟩, hr⟩ := key
  exact ⟨g, d', h1, h2, h3, hr⟩
set_option maxHeartbeats 4000000 in
theorem pdq_loop (hc : Cmp h0 b f cap c) (hs : Sort.SWO (ltC c)) (n : Nat) (hn : n < 50) : ∀ (m a e lim : Nat) (d : Array Pr) (h : Heap) (wb wp : Bool), e - a ≤ m → a ≤ e → e ≤ n → d.size = n → lim < 1000 → Sort.Below (ltC c) a e d → Agree h0 b h → ∀ ks Q,
    (∀ g d' env, Agree h0 b g → Sort.PermIn a e d d' → Sort.SortedIn (ltC c) a e d' → Xk T ks .r env (SD tv g b d') Q) →
      Xc T l_slices_pdqsortCmpFunc_2_uint64_0 ks [(0, .hs 2 b 0 n), (1, .int .i64 a), (2, .int .i64 e), (3, .int .i64 lim), (4, .fn f cap), (10, .bool wb), (11, .bool wp)] (SD tv h b d) Q := by
  intro m
  have hf := hc.free
  induction m using Nat.strongRecOn with
  | ind m ih =>
  intro a e lim d h wb wp hm hae he hd hlim hB ha ks Q hx
  rw [L_slices_pdqsortCmpFunc_2_uint64_0]; unfold bl_slices_pdqsortCmpFunc_2_uint64_0
  obtain ⟨l, hl⟩ : ∃ l, l = e - a := ⟨_, rfl⟩
  have e1 : (e : Int) - a = (l : Int) := by omega
  have hb := hc.hb ha
  by_cases c1 : l ≤ 12
  · have c1' : (l : Int) ≤ 12 := by omega
    subst hd
    simp (disch := omega) [e1, c1, c1']
    rw [Xf_run (ins_run (tv := tv) hc ha d a e (by omega) hae he)]
    have hi := Sort.insertionSort_holds hs d a e hae he
    simp (disch := omega)
    exact hx _ _ _ ha hi.1 hi.2
  have c1' : ¬ (l : Int) ≤ 12 := by omega
  by_cases c2 : lim = 0
  · subst hd
    simp (disch := omega) [e1, c1, c1', c2]
    rw [Xf_run (heap_run (tv := tv) hc ha d a e (by omega) (by omega) he)]
    have hi := Sort.heapSort_holds hs d a e hae he
    simp (disch := omega)
    exact hx _ _ _ ha hi.1 hi.2
  have c2' : ¬ (lim : Int) = 0 := by omega
  simp (disch := omega) [e1, c1, c1', c2, c2']
  refine share4 (fun (g : Heap) (d1 : Array Pr) (lim : Nat) (_ : List (Nat × V)) => Agree h0 b g ∧ Sort.PermIn a e d d1 ∧ lim < 1000) ?R1 (fun hR => ?main1) ?rest1
  case main1 =>
    apply Xb_nb
    · intro hw
      simp (disch := omega)
      obtain ⟨z, hz⟩ := brk_run (f := f) (cap := cap) hb d a e (by omega) (by omega) (by omega)
      rw [hd] at hz
      have haa := ha.app [some [z]]
      have hp := Sort.breakPatterns_holds d a e hae (by omega)
      obtain ⟨d1, hd1⟩ : ∃ d1, d1 = Sort.breakPatterns d a e := ⟨_, rfl⟩
      obtain ⟨g, hg⟩ : ∃ g, g = h ++ [some [z]] := ⟨_, rfl⟩
      rw [← hd1, ← hg] at hz
      rw [← hd1] at hp
      rw [← hg] at haa
      rw [Xf_run hz]
      obtain ⟨lim', hlim'⟩ : ∃ lim', lim' = lim - 1 := ⟨_, rfl⟩
      have e2 : (lim : Int) - 1 = (lim' : Int) := by omega
      simp (disch := omega) [e2]
      generalize ([] : List (Nat × V)) = tl
      exact hR g d1 lim' tl ⟨haa, hp, by omega⟩
    · intro hw
      simp (disch := omega)
      generalize [((39 : Nat), V.bool (!wb))] = tl
      exact hR h d lim tl ⟨ha, Sort.permIn_refl _ _ _, hlim⟩
  case rest1 =>
    intro g d1 lim tl ⟨hg, hp1, hlim⟩
    have hd1 : d1.size = n := by rw [hp1.1]; exact hd
    have hB1 := hB.perm (by omega) hp1
    obtain ⟨z, hz⟩ := choose_run (tv := tv) hc hg d1 a e (by omega) (by omega) (by omega)
    have hpv := Sort.choosePivot_holds (ltC c) d1 a e (by omega)
    rw [hd1] at hz
    rw [Xf_run hz]
    generalize Sort.choosePivot (ltC c) d1 a e = pv at *
    obtain ⟨p, hint⟩ := pv
    obtain ⟨hp2, hp3⟩ := hpv
    simp only at hp2 hp3
    have hg1 := hg.app [some [.int .i64 z]]
    generalize g ++ [some [.int .i64 z]] = g1 at *
    simp (disch := omega)
    refine share4 (fun (d2 : Array Pr) (p : Nat) (hint : Int) (_ : List (Nat × V)) => Sort.PermIn a e d d2 ∧ a ≤ p ∧ p < e) ?R2 (fun hR => ?main2) ?rest2
    case main2 =>
      refine Xb_dec ?m2a ?m2b
      case m2b =>
        intro hw
        simp (disch := omega)
        generalize [((56 : Nat), V.bool (decide (hintN hint = 2)))] = tl
        generalize hintN hint = hint
        obtain ⟨d2, hd2⟩ : ∃ d2, d2 = d1 := ⟨_, rfl⟩
        obtain ⟨p2, hpp2⟩ : ∃ p2, p2 = p := ⟨_, rfl⟩
        rw [← hd2, ← hpp2]
        exact hR d2 p2 hint tl ⟨by rw [hd2]; exact hp1, by omega, by omega⟩
      case m2a =>
        intro hw
        simp (disch := omega)
        have hr := rev_run (tv := tv) (f := f) (cap := cap) (hc.hb hg1) d1 a e (by omega) (by omega) (by omega)
        rw [hd1] at hr
        have hp := Sort.reverseRange_holds d1 a e hae (by omega)
        obtain ⟨d2, hd2⟩ : ∃ d2, d2 = Sort.reverseRange d1 a e := ⟨_, rfl⟩
        rw [← hd2] at hr hp
        rw [Xf_run hr]
        obtain ⟨p', hp'⟩ : ∃ p', p' = e - 1 - (p - a) := ⟨_, rfl⟩
        have e2 : (e : Int) - 1 - (p - a) = (p' : Int) := by omega
        simp (disch := omega) [e2]
        exact hR d2 p' 1 [] ⟨Sort.permIn_trans _ _ _ a e hp1 hp, by omega, by omega⟩
    case rest2 =>
      intro d2 p hint tl ⟨hp4, hp5, hp6⟩
      have hd2 : d2.size = n := by rw [hp4.1]; exact hd
      have hB2 := hB.perm (by omega) hp4
      clear hz hd1 hB1 hp1 hp2 hp3 hB
      have hb1 := hc.hb hg1
      have hn2 : d2.size < 50 := by omega
      have hae2 : a < e := by omega
      have he2 : e ≤ d2.size := by omega
      have hpi := pins_run (tv := tv) hc hg1 d2 a e hn2 hae2 he2
      have hpj := Sort.partialInsertionSort_holds hs d2 a e hae2 he2 hB2
      rw [pins_small _ _ _ _ (by omega)] at hpi hpj
      rw [hd2] at hpi
      have stop : Sort.scanSorted (ltC c) d2 e (a + 1) = e → Sort.SortedIn (ltC c) a e d2 := fun hh => hpj.2 (by simp [hh])
      simp only at hpi
      generalize hsc : decide (Sort.scanSorted (ltC c) d2 e (a + 1) = e) = sc at hpi
      have stop2 : sc = true → Sort.SortedIn (ltC c) a e d2 := fun hh => stop (of_decide_eq_true (by rw [hsc]; exact hh))
      clear hpj stop hsc
      have r1 := SD_row (tv := tv) hb1 d2
      have gp := SD_getN (tv := tv) d2 p (by omega)
      cases wb <;> cases wp <;> simp (disch := omega)
      rotate_left 3
      refine Xb_dec (fun hw => ?_) (fun hw => ?_)
      simp (disch := omega)
      rw [Xf_run hpi]
      simp (disch := omega)
      refine Xb_intro (fun h1 => ?_) (fun h1 => ?_)
      · simp (disch := omega)
        exact hx _ _ _ hg1 hp4 (stop2 h1)
      simp (disch := omega)
      rotate_left 1
      simp (disch := omega) [hw]
      all_goals
        refine lift (R := ?R4) (fun hR => ?main4) ?rest4
        case main4 =>
          refine Xg_dec (fun c3 => ?_) (fun c3 => ?_)
          · have i1 : ((a : Int) - 1).toNat = a - 1 := by omega
            have ga := SD_getN (tv := tv) d2 (a - 1) (by omega)
            simp (disch := omega) [c3, i1, r1, ga, gp, hf]
            rw [Xf_run (hc.sd hg1 d2 _ _)]
            simp (disch := omega)
            refine Xb_decn (fun c4 => ?_) (fun c4 => ?_)
            · simp (disch := omega)
              have hq := parteq_run (tv := tv) hc hg1 d2 a e p (by omega) (by omega) (by omega) hp5 hp6
              have hnl : ltC c d2[a - 1]! d2[p]! = false := decide_eq_false c4
              have hre := Sort.round_eq hs (Sort.partitionEqual_holds (ltC c)) c3 hp5 hp6 he2 hB2 hnl rfl (mid := (Sort.partitionEqual (ltC c) d2 a e p).1) (d4 := (Sort.partitionEqual (ltC c) d2 a e p).2)
              generalize Sort.partitionEqual (ltC c) d2 a e p = P at hq hre
              obtain ⟨mid, d4⟩ := P
              obtain ⟨q1, q2, q3, q4, q5⟩ := hre
              rw [hd2] at hq
              rw [Xf_run hq]
              simp (disch := omega)
              simp only at q1 q2 q3 q4 q5
              refine ih (e - mid) (by omega) mid e lim d4 g1 _ _ (Nat.le_refl _) q2 he (by rw [q3]; exact hd2) hlim q4 hg1 ks Q fun g' d' env k1 k2 k3 => ?_
              obtain ⟨k4, k5⟩ := q5 d' k2 k3
              exact hx g' d' env k1 (Sort.permIn_trans _ _ _ a e hp4 k4) k5
            · simp (disch := omega) [c4]
              exact hR trivial
          · simp (disch := omega) [c3]
            exact hR trivial
        case rest4 =>
          have hq := partn_run (tv := tv) hc hg1 d2 a e p (by omega) (by omega) (by omega) hp5 hp6
          have hre := Sort.round_part hs (Sort.partition_holds (ltC c)) hp5 hp6 he2 hB2 rfl (mid := (Sort.partition (ltC c) d2 a e p).1) (ap := (Sort.partition (ltC c) d2 a e p).2.1) (d4 := (Sort.partition (ltC c) d2 a e p).2.2)
          generalize Sort.partition (ltC c) d2 a e p = P at hq hre
          obtain ⟨mid, ap, d4⟩ := P
          obtain ⟨q1, q2, q3, q4, q5, q6, q7⟩ := hre
          rw [hd2] at hq
          rw [Xf_run hq]
          simp only at q1 q2 q3 q4 q5 q6 q7
          simp (disch := omega)
          have hd4 : d4.size = n := by rw [q3]; exact hd2
          refine Xb_dec (fun c5 => ?_) (fun c5 => ?_)
          · simp (disch := omega)
            obtain ⟨g', d', k1, k2, k3, hrun⟩ := pdq_fun n a mid lim d4 hd4 hn hlim q1 (by omega) (fun ks Q hh => ih (mid - a) (by omega) a mid lim d4 g1 true true (Nat.le_refl _) q1 (by omega) hd4 hlim q4 hg1 ks Q hh)
            rw [Xf_run hrun]
            simp (disch := omega)
            obtain ⟨k4, k5⟩ := q6 d' k2 k3
            have := ih (e - (mid + 1)) (by omega) (mid + 1) e lim d' g' (decide ((l : Int) / 8 ≤ mid - a)) ap (Nat.le_refl _) (by omega) he (by rw [k2.1]; exact hd4) hlim k4 k1 ks Q fun g2 d5 env k6 k7 k8 => by
              obtain ⟨k9, k10⟩ := k5 d5 k7 k8
              exact hx g2 d5 env k6 (Sort.permIn_trans _ _ _ a e hp4 k9) k10
            simpa using this
          · simp (disch := omega)
            obtain ⟨g', d', k1, k2, k3, hrun⟩ := pdq_fun n (mid + 1) e lim d4 hd4 hn hlim (by omega) (by omega) (fun ks Q hh => ih (e - (mid + 1)) (by omega) (mid + 1) e lim d4 g1 true true (Nat.le_refl _) (by omega) (by omega) hd4 hlim q5 hg1 ks Q hh)
            simp only [Int.natCast_add, Int.cast_ofNat_Int] at hrun
            rw [Xf_run hrun]
            simp (disch := omega)
            obtain ⟨k4, k5⟩ := q7 d' k2 k3
            have := ih (mid - a) (by omega) a mid lim d' g' (decide ((l : Int) / 8 ≤ e - mid)) ap (Nat.le_refl _) (by omega) (by omega) (by rw [k2.1]; exact hd4) hlim k4 k1 ks Q fun g2 d5 env k6 k7 k8 => by
              obtain ⟨k9, k10⟩ := k5 d5 k7 k8
              exact hx g2 d5 env k6 (Sort.permIn_trans _ _ _ a e hp4 k9) k10
            simpa using this
theorem sortf_run (hc : Cmp h0 b f cap c) (hs : Sort.SWO (ltC c)) (ha : Agree h0 b h) (d : Array Pr) (hn : d.size < 50) :
    ∃ g d', Agree h0 b g ∧ Sort.PermIn 0 d.size d d' ∧ Sort.SortedIn (ltC c) 0 d.size d' ∧ Run T f_slices_SortFunc_2_uint64_2_uint64 [.hs 2 b 0 d.size, .fn f cap] (SD tv h b d) (.tup []) (SD tv g b d') := by
  have hlim := bitsLen_le d.size (by omega)
  obtain ⟨g, d', k1, k2, k3, hrun⟩ := pdq_fun (c := c) (h0 := h0) (b := b) (f := f) (cap := cap) (h := h) d.size 0 d.size (Sort.bitsLen d.size) d rfl hn (by omega) (by omega) (by omega) (fun ks Q hh => pdq_loop hc hs d.size hn d.size 0 d.size (Sort.bitsLen d.size) d h true true (by omega) (by omega) (by omega) rfl (by omega) (Or.inl rfl) ha ks Q hh)
  refine ⟨g, d', k1, k2, k3, ?_⟩
  refine Run.start t_slices_SortFunc_2_uint64_2_uint64 ?_
  unfold k_slices_SortFunc_2_uint64_2_uint64
  simp (disch := omega)
  rw [Xp_run (len_run [] d.size (by omega)) (by simp) (by simp) (by simp)]
  simp (disch := omega)
  rw [Xf_run (by simpa using hrun)]
  simp (disch := omega)
end
end Ev
