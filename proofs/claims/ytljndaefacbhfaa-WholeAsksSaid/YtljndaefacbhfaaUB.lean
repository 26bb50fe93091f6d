/- Bytes: rows of them as abstract values; how many frames; small functions of the references. Seg: parts of bytes, and what any writes come to. Sorting numbers without sign: the library's insertion sort, held against its plain text. Sorting few whole numbers: slices.Sort of at most twelve. Sorting whole numbers: the library's helpers, held against their plain text. Heap sort of the library with a comparison, and the helpers that choose. The pivot's choice, turning a range about, and breaking patterns. Breaking patterns: the bit length, the next power of two, and the shifts. The partial insertion sort, and the partitions. The partitions. The partitions, joined. The partition of equals. The sort itself. Each theorem states its own conditions. -/
import Derived.Test.YtljndaefacbhfaaUCode
import Derived.Test.YtljndaefacbhfaaUR01
import Derived.Sort.AssemblyPlain
set_option linter.all false
namespace Ev
open Go
set_option maxRecDepth 10000
attribute [-simp] getElem?_pos getElem?_neg
@[simp] theorem row_app_k (h l : Heap) (k : Nat) : Heap.row (h ++ l) (h.length + k) = Heap.row l k := by
  simp [Heap.row, List.getElem?_append_right]
@[simp] theorem row_app_0 (h l : Heap) : Heap.row (h ++ l) h.length = Heap.row l 0 := by
  simp [Heap.row, List.getElem?_append_right]
theorem byteV_def (c : UInt8) : byteV c = .int .u8 (c.toNat : Int) := rfl
theorem u8_inj {a b : UInt8} : ((a.toNat : Int) = b.toNat) ↔ a = b := ⟨fun h => UInt8.toNat_inj.1 (by omega), fun h => by rw [h]⟩
@[simp] theorem eq_byte (a b : UInt8) : eqV .int (byteV a) (byteV b) = some (decide (a = b)) := by
  rw [byteV_def, byteV_def, eq_int]
  congr 1
  exact decide_eq_decide.2 u8_inj
@[simp] theorem conv_byte (h : Heap) (k : IntKind) (c : UInt8) : convV h (.i k) (byteV c) = some (.int k (k.wrap (c.toNat : Int))) := rfl
@[simp] theorem cells_byte (c : UInt8) : V.cells (byteV c) = [byteV c] := rfl
@[simp] theorem one_byte (c : UInt8) : V.one (byteV c) = true := rfl
@[simp] theorem hf_byte (c : UInt8) : V.hf (byteV c) = true := rfl
theorem take_get {α : Type} (l : List α) (i : Nat) (h : i < l.length) : l.take (i + 1) = l.take i ++ [l[i]] := by rw [List.take_succ, List.getElem?_eq_getElem h]; rfl
section
variable {ks : List Kt} {ops : List AOpr} {K : Kp} {e : Env} {h : Heap} {Q : Ex → Env → Heap → Prop} {d : Nat} {lent : Bool}
end
section
variable {ks : List Kt} {ops : List AOpr} {K : Kp} {e : Env} {h : Heap} {Q : Ex → Env → Heap → Prop} {d : Nat} {lent : Bool}
end
section
variable {ks : List Kt} {ops : List AOpr} {K : Kp} {e : Env} {h : Heap} {Q : Ex → Env → Heap → Prop} {d : Nat} {lent : Bool}
end
/-- Bytes at places. -/
abbrev Wr := List (Nat × UInt8)
def okW (w : Wr) : Prop := ∀ p ∈ w, ∀ q ∈ w, p.1 = q.1 → p.2 = q.2
def covW (w : Wr) (n : Nat) : Prop := ∀ k, k < n → ∃ p ∈ w, p.1 = k
/-- What writes come to: the bytes, and what is wrong. -/
def FillP (n : Nat) (w : Wr) (b : List UInt8) (e : Int) : Prop :=
  (¬ okW w ∧ b = [] ∧ e = 6) ∨ (okW w ∧ ¬ covW w n ∧ b = [] ∧ e = 8) ∨ (okW w ∧ covW w n ∧ b.length = n ∧ (∀ p ∈ w, b[p.1]? = some p.2) ∧ e = 0)
/-- What out and there are behind writes that fit. -/
structure Laid (n : Nat) (w : Wr) (out : List UInt8) (there : List Bool) : Prop where
  len : out.length = n
  tlen : there.length = n
  ok : okW w
  lt : ∀ p ∈ w, p.1 < n
  val : ∀ p ∈ w, out[p.1]? = some p.2
  th : ∀ k, k < n → (there[k]? = some true ↔ ∃ p ∈ w, p.1 = k)
theorem Laid.start (n : Nat) : Laid n [] (List.replicate n 0) (List.replicate n false) where
  len := by simp
  tlen := by simp
  ok := by intro p hp; cases hp
  lt := by intro p hp; cases hp
  val := by intro p hp; cases hp
  th := fun k hk => by simp [List.getElem?_replicate, hk]
def u64L (l : List Int) : List V := l.map (V.int .u64 ·)
theorem u64L_len (l : List Int) : (u64L l).length = l.length := by simp [u64L]
theorem u64L_get (l : List Int) (i : Nat) : (u64L l)[i]? = (l[i]?).map (V.int .u64 ·) := by simp [u64L]
theorem u64L_hfs (l : List Int) : V.hfs (u64L l) = true := hfs_map _ (fun _ => rfl) _
theorem u64L_one (l : List Int) : (u64L l).all V.one = true := by simp [u64L]
/-- A heap with the row that is sorted. -/
def SD (h : Heap) (b : Nat) (d : Array Int) : Heap := h.set b (some (u64L d.toList))
def atD (d : Array Int) (i : Nat) : Int := d[i]!
section
variable {h : Heap} {b : Nat}
theorem SD_len (d : Array Int) : (SD h b d).length = h.length := by simp [SD]
theorem SD_row (hb : b < h.length) (d : Array Int) : (SD h b d).row b = some (u64L d.toList) := by unfold SD; rw [row_set hb]
theorem SD_getN (d : Array Int) (i : Nat) (h1 : i < d.size) : (u64L d.toList)[i]? = some (.int .u64 (atD d i)) := by
  rw [u64L_get]
  simp [h1, atD]
theorem SD_ints (d : Array Int) : (u64L d.toList).length = d.size := by simp [u64L]
theorem SD_lt (hb : b < h.length) (d : Array Int) : b < List.length (SD h b d) := by rw [SD_len]; exact hb
theorem swp_size (d : Array Int) (i j : Nat) : (Sort.swp d i j).size = d.size := by simp [Sort.swp]
@[simp] theorem SD_swap (d : Array Int) (i j : Nat) : List.set (SD h b d) b (some (((u64L d.toList).set i (.int .u64 (atD d j))).set j (.int .u64 (atD d i)))) = SD h b (Sort.swp d i j) := by
  unfold SD Sort.swp atD
  rw [List.set_set]
  congr 2
  simp [u64L, List.map_set]
end
theorem isNaN_run (x : Int) (h : Heap) : Run T f_cmp_isNaN_uint64 [.int .u64 x] h (.bool false) h := by
  refine Run.start t_cmp_isNaN_uint64 ?_
  unfold k_cmp_isNaN_uint64
  simp (disch := omega)
section
variable {ks : List Kt} {ops : List AOpr} {K : Kp} {e : Env} {h : Heap} {Q : Ex → Env → Heap → Prop} {d : Nat} {lent : Bool}
theorem isNaN_p (x : Int) : Xp T f_cmp_isNaN_uint64 (some ([.int .u64 x], lent)) h (some d) ops K ks e Q = Xo T ops K ks ((d, .bool false) :: e) h Q :=
  Xp_run (isNaN_run x []) (by simp) rfl (by simp [scalar])
end
theorem Less_run (x y : Int) (h : Heap) : Run T f_cmp_Less_uint64 [.int .u64 x, .int .u64 y] h (.bool (decide (x < y))) h := by
  refine Run.start t_cmp_Less_uint64 ?_
  unfold k_cmp_Less_uint64
  simp (disch := omega) [isNaN_p]
section
variable {ks : List Kt} {ops : List AOpr} {K : Kp} {e : Env} {h : Heap} {Q : Ex → Env → Heap → Prop} {d : Nat} {lent : Bool}
theorem Less_p (x y : Int) : Xp T f_cmp_Less_uint64 (some ([.int .u64 x, .int .u64 y], lent)) h (some d) ops K ks e Q = Xo T ops K ks ((d, .bool (decide (x < y))) :: e) h Q :=
  Xp_run (Less_run x y []) (by simp) rfl (by simp [scalar])
end
section
variable {h : Heap} {b : Nat}
theorem ins_in (hb : b < h.length) (a n : Nat) (v1 v6 : V) (a' : Nat) (hv1 : v1 = .int .i64 a) : ∀ (j : Nat) (d : Array Int), d.size = n → n < 4611686018427387904 → j < n → ∀ ks Q,
    (∀ j', Xk T ks (.x 2) [(0, .hs 1 b 0 n), (1, v1), (2, .int .i64 a'), (6, v6), (7, .int .i64 j'), (30, .bool false)] (SD h b (Sort.insInner Sort.ltInt a j d)) Q) →
    Xc T l_slices_insertionSortOrdered_uint64_0 ks [(0, .hs 1 b 0 n), (1, v1), (2, .int .i64 a'), (6, v6), (7, .int .i64 j)] (SD h b d) Q := by
  intro j
  subst hv1
  induction j with
  | zero =>
    intro d hd hn hj ks Q hQ
    rw [L_slices_insertionSortOrdered_uint64_0]; unfold bl_slices_insertionSortOrdered_uint64_0
    have c1 : ¬ (a : Int) < 0 := by omega
    simp (disch := omega) [c1]
    exact hQ 0
  | succ j ih =>
    intro d hd hn hj ks Q hQ
    rw [L_slices_insertionSortOrdered_uint64_0]; unfold bl_slices_insertionSortOrdered_uint64_0
    have e1 : j < d.size := by omega
    have e2 : j + 1 < d.size := by omega
    have g1 := SD_getN d j e1
    have g2 := SD_getN d (j + 1) e2
    have r1 := SD_row hb d
    have gl := SD_ints d
    have hbs := SD_lt hb d
    have e5 : ((j : Int) + 1 - 1) = j := by omega
    have e6 : ((j : Int) + 1).toNat = j + 1 := by omega
    by_cases c1 : a < j + 1
    · have c1' : (a : Int) < (j : Int) + 1 := by omega
      simp (disch := omega) [c1, c1', e5, e6, r1, g1, g2, Less_p]
      by_cases c3 : atD d (j + 1) < atD d j
      · have hl : Sort.ltInt d[j + 1]! d[j]! = true := decide_eq_true c3
        have hi := ih (Sort.swp d (j + 1) j) (by rw [swp_size]; exact hd) hn (by omega) ks Q (fun j' => by
          have := hQ j'
          unfold Sort.insInner at this
          rw [if_pos (by simp [hl]; omega)] at this
          exact this)
        simp (disch := omega) [c3, e5, e6, r1, g1, g2, gl]
        exact hi
      · have hl : Sort.ltInt d[j + 1]! d[j]! = false := decide_eq_false c3
        have := hQ ((j : Int) + 1)
        unfold Sort.insInner at this
        rw [if_neg (by simp [hl])] at this
        simp (disch := omega) [c3]
        simpa using this
    · have c1' : ¬ (a : Int) < (j : Int) + 1 := by omega
      have := hQ ((j : Int) + 1)
      unfold Sort.insInner at this
      rw [if_neg (by simp; omega)] at this
      simp (disch := omega) [c1, c1']
      simpa using this
theorem insInner_size (lt : Int → Int → Bool) (a : Nat) : ∀ (j : Nat) (d : Array Int), (Sort.insInner lt a j d).size = d.size
  | 0, d => rfl
  | j + 1, d => by
    unfold Sort.insInner
    split
    · rw [insInner_size lt a j, swp_size]
    · rfl
theorem ins_out (hb : b < h.length) (a e n : Nat) (hn : n < 4611686018427387904) (he : e ≤ n) : ∀ (m i : Nat) (d : Array Int), e - i ≤ m → d.size = n → ∀ ks Q,
    (∀ i' : Int, Xk T ks (.x 0) [(0, .hs 1 b 0 n), (1, .int .i64 a), (2, .int .i64 e), (6, .int .i64 i'), (12, .bool false)] (SD h b (Sort.insOuter Sort.ltInt a e i d)) Q) →
    Xc T l_slices_insertionSortOrdered_uint64_1 ks [(0, .hs 1 b 0 n), (1, .int .i64 a), (2, .int .i64 e), (6, .int .i64 i)] (SD h b d) Q := by
  intro m
  induction m with
  | zero =>
    intro i d hm hd ks Q hQ
    rw [L_slices_insertionSortOrdered_uint64_1]; unfold bl_slices_insertionSortOrdered_uint64_1
    have c1 : ¬ (i : Int) < e := by omega
    have c2 : ¬ i < e := by omega
    have := hQ i
    unfold Sort.insOuter at this
    rw [if_neg c2] at this
    simp (disch := omega) [c1, c2]
    exact this
  | succ m ih =>
    intro i d hm hd ks Q hQ
    by_cases c2 : i < e
    · rw [L_slices_insertionSortOrdered_uint64_1]; unfold bl_slices_insertionSortOrdered_uint64_1
      simp (disch := omega) [c2]
      refine ins_in hb a n (.int .i64 a) (.int .i64 i) e rfl i d hd hn (by omega) _ _ fun j' => ?_
      simp (disch := omega)
      have := ih (i + 1) (Sort.insInner Sort.ltInt a i d) (by omega) (by rw [← hd]; exact insInner_size _ _ _ _) ks Q (fun i' => by
        have := hQ i'
        unfold Sort.insOuter at this
        rw [if_pos c2] at this
        exact this)
      simpa using this
    · rw [L_slices_insertionSortOrdered_uint64_1]; unfold bl_slices_insertionSortOrdered_uint64_1
      have := hQ i
      unfold Sort.insOuter at this
      rw [if_neg c2] at this
      simp (disch := omega) [c2]
      exact this
theorem ins_run (hb : b < h.length) (d : Array Int) (a e : Nat) (hn : d.size < 4611686018427387904) (hae : a ≤ e) (he : e ≤ d.size) :
    Run T f_slices_insertionSortOrdered_uint64 [.hs 1 b 0 d.size, .int .i64 a, .int .i64 e] (SD h b d) (.tup []) (SD h b (Sort.insertionSort Sort.ltInt d a e)) := by
  refine Run.start t_slices_insertionSortOrdered_uint64 ?_
  unfold k_slices_insertionSortOrdered_uint64
  simp (disch := omega)
  have := ins_out hb a e d.size hn he (e - (a + 1)) (a + 1) d (by omega) rfl
  simp at this
  refine this _ _ fun i' => ?_
  simp (disch := omega) [Sort.insertionSort]
end
theorem lenTab_get : ∀ n, n < 64 → ([0, 1, 2, 2, 3, 3, 3, 3, 4, 4, 4, 4, 4, 4, 4, 4, 5, 5, 5, 5, 5, 5, 5, 5, 5, 5, 5, 5, 5, 5, 5, 5, 6, 6, 6, 6, 6, 6, 6, 6, 6, 6, 6, 6, 6, 6, 6, 6, 6, 6, 6, 6, 6, 6, 6, 6, 6, 6, 6, 6, 6, 6, 6, 6, 7, 7, 7, 7, 7, 7, 7, 7, 7, 7, 7, 7, 7, 7, 7, 7, 7, 7, 7, 7, 7, 7, 7, 7, 7, 7, 7, 7, 7, 7, 7, 7, 7, 7, 7, 7, 7, 7, 7, 7, 7, 7, 7, 7, 7, 7, 7, 7, 7, 7, 7, 7, 7, 7, 7, 7, 7, 7, 7, 7, 7, 7, 7, 7, 8, 8, 8, 8, 8, 8, 8, 8, 8, 8, 8, 8, 8, 8, 8, 8, 8, 8, 8, 8, 8, 8, 8, 8, 8, 8, 8, 8, 8, 8, 8, 8, 8, 8, 8, 8, 8, 8, 8, 8, 8, 8, 8, 8, 8, 8, 8, 8, 8, 8, 8, 8, 8, 8, 8, 8, 8, 8, 8, 8, 8, 8, 8, 8, 8, 8, 8, 8, 8, 8, 8, 8, 8, 8, 8, 8, 8, 8, 8, 8, 8, 8, 8, 8, 8, 8, 8, 8, 8, 8, 8, 8, 8, 8, 8, 8, 8, 8, 8, 8, 8, 8, 8, 8, 8, 8, 8, 8, 8, 8, 8, 8, 8, 8, 8, 8, 8, 8, 8, 8, 8, 8, 8, 8, 8, 8, 8, 8] : List UInt8)[n]? = some (UInt8.ofNat (Sort.bitsLen n)) := by decide +kernel
theorem bitsLen_le : ∀ n, n < 64 → Sort.bitsLen n ≤ 6 := by decide +kernel
theorem len64_run (h : Heap) (n : Nat) (hn : n < 64) : Run T f_math_bits_Len64 [.int .u64 n] h (.int .i64 (Sort.bitsLen n : Nat)) h := by
  refine Run.start t_math_bits_Len64 ?_
  unfold k_math_bits_Len64
  have c1 : ¬ (4294967296 : Int) ≤ n := by omega
  have c2 : ¬ (65536 : Int) ≤ n := by omega
  have c3 : ¬ (256 : Int) ≤ n := by omega
  have hb := bitsLen_le n hn
  have hm : Sort.bitsLen n % 256 = Sort.bitsLen n := by omega
  simp (disch := omega) [c1, c2, c3, lenTab_get n hn, byteV, hm]
theorem len_run (h : Heap) (n : Nat) (hn : n < 64) : Run T f_math_bits_Len [.int .u64 n] h (.int .i64 (Sort.bitsLen n : Nat)) h := by
  refine Run.start t_math_bits_Len ?_
  unfold k_math_bits_Len
  simp (disch := omega)
  rw [Xp_run (len64_run [] n hn) (by simp) (by simp) (by simp)]
  simp (disch := omega)
section
variable {h : Heap} {b : Nat}
end
section
variable {h : Heap} {b : Nat}
theorem sift_loop (hb : b < h.length) (hi first n : Nat) (hn : n < 1152921504606846976) (hf1 : first + hi ≤ n) : ∀ (m root : Nat) (d : Array Int), hi - root ≤ m → d.size = n → (root < hi ∨ hi = 0 ∧ root = 0 ∨ hi ≤ root ∧ root ≤ n) → ∀ ks Q,
    (∀ e, Xk T ks (.x 0) e (SD h b (Sort.siftDown (Sort.ltInt) hi first root d)) Q) → (∀ e, Xk T ks .r e (SD h b (Sort.siftDown (Sort.ltInt) hi first root d)) Q) →
    Xc T l_slices_siftDownOrdered_uint64_0 ks [(0, .hs 1 b 0 n), (2, .int .i64 hi), (3, .int .i64 first), (8, .int .i64 root)] (SD h b d) Q := by
  intro m
  induction m with
  | zero =>
    intro root d hm hd hr ks Q hx hr2
    rw [L_slices_siftDownOrdered_uint64_0]; unfold bl_slices_siftDownOrdered_uint64_0
    have c1 : (hi : Int) ≤ 2 * root + 1 := by omega
    have := fun e => hx e
    unfold Sort.siftDown at this
    simp (disch := omega) [c1]
    have h2 : 2 * root + 1 ≥ hi := by omega
    rw [dif_pos h2] at this
    exact this _
  | succ m ih =>
    intro root d hm hd hr ks Q hx hr2
    rw [L_slices_siftDownOrdered_uint64_0]; unfold bl_slices_siftDownOrdered_uint64_0
    have r1 := SD_row hb d
    have gl := SD_ints d
    have hbs := SD_lt hb d
    unfold Sort.siftDown at hx hr2
    by_cases h2 : 2 * root + 1 ≥ hi
    · have c1 : (hi : Int) ≤ 2 * root + 1 := by omega
      simp (disch := omega) [c1]
      rw [dif_pos h2] at hx
      exact hx _
    · have c1 : ¬ (hi : Int) ≤ 2 * root + 1 := by omega
      rw [dif_neg h2] at hx hr2
      have g0 := SD_getN d (first + root) (by omega)
      have g1 := SD_getN d (first + (2 * root + 1)) (by omega)
      have i0 : ((first : Int) + root).toNat = first + root := by omega
      have i1 : ((first : Int) + (2 * root + 1)).toNat = first + (2 * root + 1) := by omega
      have i2 : ((first : Int) + (2 * root + 1) + 1).toNat = first + (2 * root + 1) + 1 := by omega
      have i3 : ((first : Int) + (2 * root + 1 + 1)).toNat = first + (2 * root + 2) := by omega
      simp (disch := omega) [c1]
      refine share2 (fun (ch : Nat) (_ : List (Nat × V)) => ch < hi ∧ root < ch ∧ ∀ P : Array Int → Prop, (P (if 2 * root + 1 + 1 < hi && Sort.ltInt d[first + (2 * root + 1)]! d[first + (2 * root + 1) + 1]! then
        if !Sort.ltInt d[first + root]! d[first + (2 * root + 2)]! then d else
          if _h2 : 2 * root + 2 < hi then Sort.siftDown (Sort.ltInt) hi first (2 * root + 2) (Sort.swp d (first + root) (first + (2 * root + 2))) else d
        else
          if !Sort.ltInt d[first + root]! d[first + (2 * root + 1)]! then d else Sort.siftDown (Sort.ltInt) hi first (2 * root + 1) (Sort.swp d (first + root) (first + (2 * root + 1))))) →
        P (if !Sort.ltInt d[first + root]! d[first + ch]! then d else Sort.siftDown (Sort.ltInt) hi first ch (Sort.swp d (first + root) (first + ch)))) ?R (fun hR => ?main) ?rest
      case main =>
        apply Xg_dec
        · intro c2
          have c2' : 2 * root + 1 + 1 < hi := by omega
          have g2 := SD_getN d (first + (2 * root + 1) + 1) (by omega)
          simp (disch := omega) [c2, i1, i2, r1, g1, g2, Less_p]
          apply Xb_dec
          · intro c3
            have hl : Sort.ltInt d[first + (2 * root + 1)]! d[first + (2 * root + 1) + 1]! = true := decide_eq_true c3
            simp (disch := omega)
            obtain ⟨ch, hch⟩ : ∃ ch, ch = 2 * root + 2 := ⟨_, rfl⟩
            rw [show (2 : Int) * root + 1 + 1 = (ch : Int) by omega]
            generalize ([] : List (Nat × V)) = tl
            refine hR ch tl ⟨by omega, by omega, fun P hP => ?_⟩
            subst hch
            rw [if_pos (by simp [hl, c2'])] at hP
            rw [dif_pos (show 2 * root + 2 < hi by omega)] at hP
            exact hP
          · intro c3
            have hl : Sort.ltInt d[first + (2 * root + 1)]! d[first + (2 * root + 1) + 1]! = false := decide_eq_false c3
            simp (disch := omega) [c3]
            obtain ⟨ch, hch⟩ : ∃ ch, ch = 2 * root + 1 := ⟨_, rfl⟩
            rw [show (2 : Int) * root + 1 = (ch : Int) by omega]
            generalize [((36 : Nat), V.bool false)] = tl
            refine hR ch tl ⟨by omega, by omega, fun P hP => ?_⟩
            subst hch
            rw [if_neg (by simp [hl])] at hP
            exact hP
        · intro c2
          have c2' : ¬ 2 * root + 1 + 1 < hi := by omega
          simp (disch := omega) [c2]
          obtain ⟨ch, hch⟩ : ∃ ch, ch = 2 * root + 1 := ⟨_, rfl⟩
          rw [show (2 : Int) * root + 1 = (ch : Int) by omega]
          generalize [((36 : Nat), V.bool false)] = tl
          refine hR ch tl ⟨by omega, by omega, fun P hP => ?_⟩
          subst hch
          rw [if_neg (by simp [c2'])] at hP
          exact hP
      case rest =>
        intro ch tl ⟨h5, h6, hP⟩
        have gc := SD_getN d (first + ch) (by omega)
        have ic : ((first : Int) + ch).toNat = first + ch := by omega
        simp (disch := omega) [i0, ic, r1, g0, gc, Less_p]
        apply Xb_decn
        · intro c3
          have hl : Sort.ltInt d[first + root]! d[first + ch]! = false := decide_eq_false c3
          simp (disch := omega)
          have := hP (fun z => Xk T ks .r [(0, .hs 1 b 0 n), (2, .int .i64 hi), (3, .int .i64 first), (8, .int .i64 root), (9, .int .i64 ch), (52, .bool true)] (SD h b z) Q) (hr2 _)
          rw [if_pos (by simp [hl])] at this
          simpa [c3] using this
        · intro c3
          have hl : Sort.ltInt d[first + root]! d[first + ch]! = true := decide_eq_true c3
          simp (disch := omega) [i0, ic, r1, g0, gc, gl]
          refine ih ch (Sort.swp d (first + root) (first + ch)) (by omega) (by rw [swp_size]; exact hd) (Or.inl h5) ks Q (fun e => ?_) (fun e => ?_)
          · have := hP (fun z => Xk T ks (.x 0) e (SD h b z) Q) (hx e)
            rwa [if_neg (by simp [hl])] at this
          · have := hP (fun z => Xk T ks .r e (SD h b z) Q) (hr2 e)
            rwa [if_neg (by simp [hl])] at this
theorem sift_run (hb : b < h.length) (d : Array Int) (lo hi first : Nat) (hn : d.size < 1152921504606846976) (hf1 : first + hi ≤ d.size) (hlo : lo < hi ∨ hi = 0 ∧ lo = 0) :
    Run T f_slices_siftDownOrdered_uint64 [.hs 1 b 0 d.size, .int .i64 lo, .int .i64 hi, .int .i64 first] (SD h b d) (.tup []) (SD h b (Sort.siftDown (Sort.ltInt) hi first lo d)) := by
  refine Run.start t_slices_siftDownOrdered_uint64 ?_
  unfold k_slices_siftDownOrdered_uint64
  simp (disch := omega)
  refine sift_loop hb hi first d.size hn hf1 (hi - lo) lo d (by omega) rfl (by omega) _ _ (fun e => ?_) (fun e => ?_)
  · simp
  · simp
theorem siftDown_size (lt : Int → Int → Bool) (hi first : Nat) : ∀ (m root : Nat) (d : Array Int), hi - root ≤ m → (Sort.siftDown lt hi first root d).size = d.size := by
  intro m
  induction m with
  | zero =>
    intro root d hm
    unfold Sort.siftDown
    rw [dif_pos (by omega)]
  | succ m ih =>
    intro root d hm
    unfold Sort.siftDown
    repeat' split
    all_goals first | rfl | (rw [ih _ _ (by omega), swp_size])
theorem build_loop (hb : b < h.length) (hi first n : Nat) (hn : n < 1152921504606846976) (hf1 : first + hi ≤ n) : ∀ (k : Nat) (d : Array Int), d.size = n → (k ≤ hi ∨ k = 1 ∧ hi = 0) → ∀ ks Q,
    (∀ tl, Xk T ks (.x 0) ([(0, .hs 1 b 0 n), (6, .int .i64 first), (7, .int .i64 0), (8, .int .i64 hi)] ++ tl) (SD h b (Sort.heapBuild (Sort.ltInt) hi first k d)) Q) →
    Xc T l_slices_heapSortOrdered_uint64_0 ks [(0, .hs 1 b 0 n), (6, .int .i64 first), (7, .int .i64 0), (8, .int .i64 hi), (9, .int .i64 ((k : Int) - 1))] (SD h b d) Q := by
  intro k
  induction k with
  | zero =>
    intro d hd hk ks Q hx
    rw [L_slices_heapSortOrdered_uint64_0]; unfold bl_slices_heapSortOrdered_uint64_0
    simp (disch := omega)
    exact hx _
  | succ k ih =>
    intro d hd hk ks Q hx
    rw [L_slices_heapSortOrdered_uint64_0]; unfold bl_slices_heapSortOrdered_uint64_0
    have e1 : ((k : Int) + 1 - 1) = k := by omega
    simp (disch := omega) [e1]
    subst hd
    rw [Xf_run (sift_run hb d k hi first hn hf1 (by omega))]
    simp (disch := omega)
    have := ih (Sort.siftDown (Sort.ltInt) hi first k d) (siftDown_size _ _ _ _ _ _ (Nat.le_refl _)) (by omega) ks Q hx
    simpa using this
end
section
variable {h : Heap} {b : Nat}
theorem build_size (lt : Int → Int → Bool) (hi first : Nat) : ∀ (k : Nat) (d : Array Int), (Sort.heapBuild lt hi first k d).size = d.size
  | 0, d => rfl
  | k + 1, d => by
    unfold Sort.heapBuild
    rw [build_size lt hi first k, siftDown_size _ _ _ _ _ _ (Nat.le_refl _)]
theorem pop_loop (hb : b < h.length) (first n : Nat) (hn : n < 1152921504606846976) : ∀ (k : Nat) (d : Array Int), d.size = n → first + k ≤ n → ∀ ks Q,
    (∀ e, Xk T ks (.x 2) e (SD h b (Sort.heapPop (Sort.ltInt) first k d)) Q) →
    Xc T l_slices_heapSortOrdered_uint64_1 ks [(0, .hs 1 b 0 n), (6, .int .i64 first), (7, .int .i64 0), (10, .int .i64 ((k : Int) - 1))] (SD h b d) Q := by
  intro k
  induction k with
  | zero =>
    intro d hd hk ks Q hx
    rw [L_slices_heapSortOrdered_uint64_1]; unfold bl_slices_heapSortOrdered_uint64_1
    simp (disch := omega)
    exact hx _
  | succ k ih =>
    intro d hd hk ks Q hx
    rw [L_slices_heapSortOrdered_uint64_1]; unfold bl_slices_heapSortOrdered_uint64_1
    have e1 : ((k : Int) + 1 - 1) = k := by omega
    have r1 := SD_row hb d
    have gl := SD_ints d
    have hbs := SD_lt hb d
    have g0 := SD_getN d first (by omega)
    have g1 := SD_getN d (first + k) (by omega)
    have i1 : ((first : Int) + k).toNat = first + k := by omega
    simp (disch := omega) [e1, i1, r1, g0, g1, gl]
    have hsz : (Sort.swp d first (first + k)).size = n := by rw [swp_size]; exact hd
    subst hsz
    rw [Xf_run (by simpa using sift_run hb (Sort.swp d first (first + k)) 0 k first hn (by omega) (by omega))]
    simp (disch := omega)
    have := ih (Sort.siftDown (Sort.ltInt) k first 0 (Sort.swp d first (first + k))) (siftDown_size _ _ _ _ _ _ (Nat.le_refl _)) (by omega) ks Q hx
    simpa using this
theorem tdiv2 (a : Int) (h : 0 ≤ a) : a.tdiv 2 = a / 2 := Int.tdiv_eq_ediv_of_nonneg h
theorem heap_run (hb : b < h.length) (d : Array Int) (a e : Nat) (hn : d.size < 1152921504606846976) (hae : a < e) (he : e ≤ d.size) :
    Run T f_slices_heapSortOrdered_uint64 [.hs 1 b 0 d.size, .int .i64 a, .int .i64 e] (SD h b d) (.tup []) (SD h b (Sort.heapSort (Sort.ltInt) d a e)) := by
  refine Run.start t_slices_heapSortOrdered_uint64 ?_
  unfold k_slices_heapSortOrdered_uint64
  obtain ⟨m, hm⟩ : ∃ m, m = e - a := ⟨_, rfl⟩
  obtain ⟨k, hk⟩ : ∃ k, k = (m - 1) / 2 + 1 := ⟨_, rfl⟩
  have e1 : (e : Int) - a = (m : Int) := by omega
  have e2 : ((m : Int) - 1).tdiv 2 = ((k : Int) - 1) := by
    rw [tdiv2 _ (by omega)]; omega
  unfold Sort.heapSort
  rw [← hm, ← hk]
  simp (disch := omega) [e1, e2]
  refine build_loop hb m a d.size hn (by omega) k d rfl (by omega) _ _ fun tl => ?_
  simp (disch := omega)
  refine pop_loop hb a d.size hn m _ (build_size _ _ _ _ _) (by omega) _ _ fun e => ?_
  simp (disch := omega)
/-- A heap with the row that is sorted and a counter. -/
theorem row_SD {r : Nat} (hr : r ≠ b) (d : Array Int) : (SD h b d).row r = h.row r := by unfold SD; exact row_ne (fun e => hr e.symm)
theorem set_SD {r : Nat} (hr : r ≠ b) (d : Array Int) (X : Option (List V)) : (SD h b d).set r X = SD (h.set r X) b d := by
  unfold SD; exact (List.set_comm _ _ (fun e => hr e.symm))
/-- A counter's cell, at row s. -/
def SW (h : Heap) (s : Nat) (z : Int) : Heap := h.set s (some [.int .i64 z])
theorem SW_len (s : Nat) (z : Int) : (SW h s z).length = h.length := by simp [SW]
theorem SW_row {s : Nat} (hs : s < h.length) (z : Int) : (SW h s z).row s = some [.int .i64 z] := by unfold SW; rw [row_set hs]
theorem SW_set {s : Nat} (z z' : Int) : (SW h s z).set s (some [.int .i64 z']) = SW h s z' := by unfold SW; rw [List.set_set]
theorem ps_getN (d : Array Int) (i : Nat) (h1 : i < d.size) : (u64L d.toList)[i]? = some (.int .u64 (atD d i)) := SD_getN d i h1
theorem ord2_run (s : Nat) (hs : s < h.length) (d : Array Int) (x y z : Nat) (hx : x < d.size) (hy : y < d.size) (hn : d.size < 1152921504606846976) (hz : z < 1000) :
    Run T f_slices_order2Ordered_uint64 [.ps 1 (u64L d.toList), .int .i64 x, .int .i64 y, .ptr s 0] (SW h s z)
      (.tup [.int .i64 ((Sort.order2 (Sort.ltInt) d x y z).1 : Nat), .int .i64 ((Sort.order2 (Sort.ltInt) d x y z).2.1 : Nat)]) (SW h s ((Sort.order2 (Sort.ltInt) d x y z).2.2 : Nat)) := by
  refine Run.start t_slices_order2Ordered_uint64 ?_
  unfold k_slices_order2Ordered_uint64
  have g0 := ps_getN d x hx
  have g1 := ps_getN d y hy
  have vc : ∀ z : Int, (V.int .i64 z).cells = [V.int .i64 z] := fun _ => rfl
  have r2 : (SW h s z).row s = some [.int .i64 z] := SW_row hs z
  have hlt : s < List.length (SW h s z) := by rw [SW_len]; exact hs
  by_cases c3 : atD d y < atD d x
  · have hl : Sort.ltInt d[y]! d[x]! = true := decide_eq_true c3
    have ho : Sort.order2 (Sort.ltInt) d x y z = (y, x, z + 1) := by unfold Sort.order2; rw [if_pos hl]
    simp (disch := omega) [g0, g1, vc, Less_p, c3, r2, hlt]
    rw [SW_set, ho]
    simp
  · have hl : Sort.ltInt d[y]! d[x]! = false := decide_eq_false c3
    have ho : Sort.order2 (Sort.ltInt) d x y z = (x, y, z) := by unfold Sort.order2; rw [if_neg (by rw [hl]; simp)]
    simp (disch := omega) [g0, g1, vc, Less_p, c3, ho]
theorem median_run (s : Nat) (hs : s < h.length) (d : Array Int) (x y w z : Nat) (hx : x < d.size) (hy : y < d.size) (hw : w < d.size) (hn : d.size < 1152921504606846976) (hz : z < 900) :
    Run T f_slices_medianOrdered_uint64 [.ps 1 (u64L d.toList), .int .i64 x, .int .i64 y, .int .i64 w, .ptr s 0] (SW h s z)
      (.int .i64 ((Sort.median (Sort.ltInt) d x y w z).1 : Nat)) (SW h s ((Sort.median (Sort.ltInt) d x y w z).2 : Nat)) := by
  refine Run.start t_slices_medianOrdered_uint64 ?_
  unfold k_slices_medianOrdered_uint64 Sort.median
  have hr : ∀ (x y z : Nat), x < d.size → y < d.size → z < 1000 → (Sort.order2 (Sort.ltInt) d x y z).1 < d.size ∧ (Sort.order2 (Sort.ltInt) d x y z).2.1 < d.size ∧ (Sort.order2 (Sort.ltInt) d x y z).2.2 ≤ z + 1 := by
    intro x y z h1 h2 h3
    unfold Sort.order2
    split <;> refine ⟨?_, ?_, ?_⟩ <;> simp <;> omega
  simp (disch := omega)
  rw [Xf_run (ord2_run s hs d x y z hx hy hn (by omega))]
  have k1 := hr x y z hx hy (by omega)
  generalize Sort.order2 (Sort.ltInt) d x y z = r1 at k1
  obtain ⟨k1, k2, k3⟩ := k1
  simp (disch := omega)
  rw [Xf_run (ord2_run s hs d r1.2.1 w r1.2.2 k2 hw hn (by omega))]
  have l1 := hr r1.2.1 w r1.2.2 k2 hw (by omega)
  generalize Sort.order2 (Sort.ltInt) d r1.2.1 w r1.2.2 = r2 at l1
  obtain ⟨l1, l2, l3⟩ := l1
  simp (disch := omega)
  rw [Xf_run (ord2_run s hs d r1.1 r2.1 r2.2.2 k1 l1 hn (by omega))]
  simp (disch := omega)
end
section
variable {h : Heap} {b : Nat}
theorem SD_app (hb : b < h.length) (d : Array Int) (k : Heap) : SD h b d ++ k = SD (h ++ k) b d := by
  unfold SD; rw [List.set_append_left _ _ hb]
def hintN : Sort.Hint → Int
  | .unknown => 0
  | .increasing => 1
  | .decreasing => 2
theorem tdiv4 (a : Int) (h : 0 ≤ a) : a.tdiv 4 = a / 4 := Int.tdiv_eq_ediv_of_nonneg h
theorem ord2_lt (lt : Int → Int → Bool) (d : Array Int) (x y z : Nat) (hx : x < d.size) (hy : y < d.size) : (Sort.order2 lt d x y z).1 < d.size ∧ (Sort.order2 lt d x y z).2.1 < d.size ∧ (Sort.order2 lt d x y z).2.2 ≤ z + 1 := by
  unfold Sort.order2
  split <;> refine ⟨?_, ?_, ?_⟩ <;> simp <;> omega
theorem med_lt (lt : Int → Int → Bool) (d : Array Int) (x y w z : Nat) (hx : x < d.size) (hy : y < d.size) (hw : w < d.size) : (Sort.median lt d x y w z).1 < d.size ∧ (Sort.median lt d x y w z).2 ≤ z + 3 := by
  obtain ⟨a1, a2, a3⟩ := ord2_lt lt d x y z hx hy
  unfold Sort.median
  dsimp only
  obtain ⟨b1, b2, b3⟩ := ord2_lt lt d _ w (Sort.order2 lt d x y z).2.2 a2 hw
  obtain ⟨c1, c2, c3⟩ := ord2_lt lt d _ _ (Sort.order2 lt d (Sort.order2 lt d x y z).2.1 w (Sort.order2 lt d x y z).2.2).2.2 a1 b1
  exact ⟨c2, by omega⟩
theorem adj_run (s : Nat) (hs : s < h.length) (d : Array Int) (a z : Nat) (h0 : 1 ≤ a) (h1 : a + 1 < d.size) (hn : d.size < 1152921504606846976) (hz : z < 900) :
    Run T f_slices_medianAdjacentOrdered_uint64 [.ps 1 (u64L d.toList), .int .i64 a, .ptr s 0] (SW h s z)
      (.int .i64 ((Sort.medianAdjacent (Sort.ltInt) d a z).1 : Nat)) (SW h s ((Sort.medianAdjacent (Sort.ltInt) d a z).2 : Nat)) := by
  refine Run.start t_slices_medianAdjacentOrdered_uint64 ?_
  unfold k_slices_medianAdjacentOrdered_uint64 Sort.medianAdjacent
  have e1 : (a : Int) - 1 = ((a - 1 : Nat) : Int) := by omega
  simp (disch := omega) [e1]
  rw [Xf_run (by simpa using median_run s hs d (a - 1) a (a + 1) z (by omega) (by omega) h1 hn hz)]
  simp (disch := omega)
theorem choose_run (d : Array Int) (a e : Nat) (hn : d.size < 1000) (hae : a + 12 < e) (he : e ≤ d.size) :
    ∃ h', Run T f_slices_choosePivotOrdered_uint64 [.ps 1 (u64L d.toList), .int .i64 a, .int .i64 e] []
      (.tup [.int .i64 ((Sort.choosePivot (Sort.ltInt) d a e).1 : Nat), .int .i64 (hintN (Sort.choosePivot (Sort.ltInt) d a e).2)]) h' := by
  obtain ⟨q, hq⟩ : ∃ q, q = (e - a) / 4 := ⟨_, rfl⟩
  obtain ⟨x, hx⟩ : ∃ x, x = a + q * 1 := ⟨_, rfl⟩
  obtain ⟨y, hy⟩ : ∃ y, y = a + q * 2 := ⟨_, rfl⟩
  obtain ⟨w, hw⟩ : ∃ w, w = a + q * 3 := ⟨_, rfl⟩
  obtain ⟨l, hl⟩ : ∃ l, l = e - a := ⟨_, rfl⟩
  have e1 : (e : Int) - a = (l : Int) := by omega
  have e2 : (l : Int).tdiv 4 = (q : Int) := by rw [tdiv4 _ (by omega)]; omega
  have e3 : (a : Int) + q * 2 = y := by omega
  have e4 : (a : Int) + q * 3 = w := by omega
  have e5 : (a : Int) + q = x := by omega
  have c1 : (8 : Int) ≤ l := by omega
  have c1' : 8 ≤ l := by omega
  have hh : ([some [.int .i64 0]] : Heap) = SW [some [.int .i64 0]] 0 ((0 : Nat) : Int) := rfl
  have hlA : 0 < ([some [V.int .i64 0]] : Heap).length := by simp
  have r2 : ∀ z : Int, Heap.row (SW [some [.int .i64 0]] 0 z) 0 = some [.int .i64 z] := fun z => rfl
  by_cases c2 : l < 50
  · have hcp : Sort.choosePivot (Sort.ltInt) d a e = ((Sort.median (Sort.ltInt) d x y w 0).1, if (Sort.median (Sort.ltInt) d x y w 0).2 = 0 then .increasing else if (Sort.median (Sort.ltInt) d x y w 0).2 = 12 then .decreasing else .unknown) := by
      unfold Sort.choosePivot
      dsimp only
      rw [if_pos (show e - a ≥ 8 by omega), if_neg (show ¬ e - a ≥ 50 by omega), ← hq, ← hx, ← hy, ← hw]
    rw [hcp]
    refine Run.startE t_slices_choosePivotOrdered_uint64 ?_
    unfold k_slices_choosePivotOrdered_uint64
    have c2' : ¬ (50 : Int) ≤ l := by omega
    have c2n : ¬ 50 ≤ l := by omega
    simp (disch := omega) [e1, e2, e3, e4, e5, c1, c1', c2', c2n]
    have q0 := median_run 0 hlA d x y w 0 (by omega) (by omega) (by omega) (by omega) (by omega)
    rw [← hh] at q0
    rw [Xf_run q0]
    generalize Sort.median (Sort.ltInt) d x y w 0 = r
    by_cases c3 : r.2 = 0
    · simp (disch := omega) [c3, hintN, r2]
    · by_cases c4 : r.2 = 12
      · simp (disch := omega) [c4, hintN, r2]
      · have c5 : ¬ (r.2 : Int) = 12 := by omega
        simp (disch := omega) [c3, c4, c5, hintN, r2]
  · obtain ⟨p1, hp1⟩ : ∃ p, p = Sort.medianAdjacent (Sort.ltInt) d x 0 := ⟨_, rfl⟩
    obtain ⟨p2, hp2⟩ : ∃ p, p = Sort.medianAdjacent (Sort.ltInt) d y p1.2 := ⟨_, rfl⟩
    obtain ⟨p3, hp3⟩ : ∃ p, p = Sort.medianAdjacent (Sort.ltInt) d w p2.2 := ⟨_, rfl⟩
    have hcp : Sort.choosePivot (Sort.ltInt) d a e = ((Sort.median (Sort.ltInt) d p1.1 p2.1 p3.1 p3.2).1, if (Sort.median (Sort.ltInt) d p1.1 p2.1 p3.1 p3.2).2 = 0 then .increasing else if (Sort.median (Sort.ltInt) d p1.1 p2.1 p3.1 p3.2).2 = 12 then .decreasing else .unknown) := by
      unfold Sort.choosePivot
      dsimp only
      rw [if_pos (show e - a ≥ 8 by omega), if_pos (show e - a ≥ 50 by omega), ← hq, ← hx, ← hy, ← hw, ← hp1, ← hp2, ← hp3]
    rw [hcp]
    have m1 := med_lt (Sort.ltInt) d (x - 1) x (x + 1) 0 (by omega) (by omega) (by omega)
    have m2 := med_lt (Sort.ltInt) d (y - 1) y (y + 1) p1.2 (by omega) (by omega) (by omega)
    have m3 := med_lt (Sort.ltInt) d (w - 1) w (w + 1) p2.2 (by omega) (by omega) (by omega)
    have f1 : Sort.median (Sort.ltInt) d (x - 1) x (x + 1) 0 = p1 := hp1.symm
    have f2 : Sort.median (Sort.ltInt) d (y - 1) y (y + 1) p1.2 = p2 := hp2.symm
    have f3 : Sort.median (Sort.ltInt) d (w - 1) w (w + 1) p2.2 = p3 := hp3.symm
    rw [f1] at m1
    rw [f2] at m2
    rw [f3] at m3
    have q1 := adj_run 0 hlA d x 0 (by omega) (by omega) (by omega) (by omega)
    have q2 := adj_run 0 hlA d y p1.2 (by omega) (by omega) (by omega) (by omega)
    have q3 := adj_run 0 hlA d w p2.2 (by omega) (by omega) (by omega) (by omega)
    rw [← hp1] at q1
    rw [← hp2] at q2
    rw [← hp3] at q3
    refine Run.startE t_slices_choosePivotOrdered_uint64 ?_
    unfold k_slices_choosePivotOrdered_uint64
    have c2' : (50 : Int) ≤ l := by omega
    have c2n : 50 ≤ l := by omega
    simp (disch := omega) [e1, e2, e3, e4, e5, c1, c1', c2', c2n]
    rw [← hh] at q1
    rw [Xf_run q1]
    simp (disch := omega)
    rw [Xf_run q2]
    simp (disch := omega)
    rw [Xf_run q3]
    simp (disch := omega)
    rw [Xf_run (median_run 0 hlA d p1.1 p2.1 p3.1 p3.2 m1.1 m2.1 m3.1 (by omega) (by omega))]
    generalize Sort.median (Sort.ltInt) d p1.1 p2.1 p3.1 p3.2 = r
    by_cases c3 : r.2 = 0
    · simp (disch := omega) [c3, hintN, r2]
    · by_cases c4 : r.2 = 12
      · simp (disch := omega) [c4, hintN, r2]
      · have c5 : ¬ (r.2 : Int) = 12 := by omega
        simp (disch := omega) [c3, c4, c5, hintN, r2]
theorem rev_loop (hb : b < h.length) (n : Nat) (hn : n < 1152921504606846976) : ∀ (m i j : Nat) (d : Array Int), j - i ≤ m → j < n → d.size = n → ∀ ks Q,
    (∀ e, Xk T ks (.x 0) e (SD h b (Sort.reverseLoop i j d)) Q) →
    Xc T l_slices_reverseRangeOrdered_uint64_0 ks [(0, .hs 1 b 0 n), (6, .int .i64 i), (7, .int .i64 j)] (SD h b d) Q := by
  intro m
  induction m with
  | zero =>
    intro i j d hm hj hd ks Q hx
    rw [L_slices_reverseRangeOrdered_uint64_0]; unfold bl_slices_reverseRangeOrdered_uint64_0
    unfold Sort.reverseLoop at hx
    rw [if_neg (by omega)] at hx
    have c1 : ¬ (i : Int) < j := by omega
    have c2 : ¬ i < j := by omega
    simp (disch := omega) [c1, c2]
    exact hx _
  | succ m ih =>
    intro i j d hm hj hd ks Q hx
    rw [L_slices_reverseRangeOrdered_uint64_0]; unfold bl_slices_reverseRangeOrdered_uint64_0
    unfold Sort.reverseLoop at hx
    by_cases c2 : i < j
    · rw [if_pos c2] at hx
      have r1 := SD_row hb d
      have gl := SD_ints d
      have hbs := SD_lt hb d
      have g0 := SD_getN d i (by omega)
      have g1 := SD_getN d j (by omega)
      have e1 : (j : Int) - 1 = ((j - 1 : Nat) : Int) := by omega
      simp (disch := omega) [c2, r1, g0, g1, gl]
      have := ih (i + 1) (j - 1) (Sort.swp d i j) (by omega) (by omega) (by rw [swp_size]; exact hd) ks Q hx
      rw [e1]
      simpa using this
    · rw [if_neg c2] at hx
      have c1 : ¬ (i : Int) < j := by omega
      simp (disch := omega) [c1, c2]
      exact hx _
theorem rev_run (hb : b < h.length) (d : Array Int) (a e : Nat) (hn : d.size < 1152921504606846976) (hae : a < e) (he : e ≤ d.size) :
    Run T f_slices_reverseRangeOrdered_uint64 [.hs 1 b 0 d.size, .int .i64 a, .int .i64 e] (SD h b d) (.tup []) (SD h b (Sort.reverseRange d a e)) := by
  refine Run.start t_slices_reverseRangeOrdered_uint64 ?_
  unfold k_slices_reverseRangeOrdered_uint64 Sort.reverseRange
  obtain ⟨j, hj⟩ : ∃ j, j = e - 1 := ⟨_, rfl⟩
  have e1 : (e : Int) - 1 = (j : Int) := by omega
  rw [← hj]
  simp (disch := omega) [e1]
  refine rev_loop hb d.size hn (j - a) a j d (by omega) (by omega) rfl _ _ fun e => ?_
  simp
end
theorem pow_bits : ∀ n, n < 64 → 8 ≤ n → 1 <<< Sort.bitsLen n ≤ 2 * n ∧ n < 1 <<< Sort.bitsLen n := by decide +kernel
theorem next2_run (h : Heap) (n : Nat) (hn : n < 64) : Run T f_slices_nextPowerOfTwo [.int .i64 n] h (.int .u64 (1 <<< Sort.bitsLen n : Nat)) h := by
  refine Run.start t_slices_nextPowerOfTwo ?_
  unfold k_slices_nextPowerOfTwo
  have hb := bitsLen_le n hn
  have hp : ∀ k, k ≤ 6 → (IntKind.u64.wrap (2 ^ k) : Int) = ((1 <<< k : Nat) : Int) := by decide +kernel
  have hp := hp _ hb
  generalize 1 <<< Sort.bitsLen n = z at hp
  have hm : min (Sort.bitsLen n) 64 = Sort.bitsLen n := by omega
  simp (disch := omega)
  rw [Xp_run (len_run [] n hn) (by simp) (by simp) (by simp)]
  simp (disch := omega) [IntKind.bits, hp, hm]
  trace_state
theorem b64_shl (y : BitVec 64) (k : Nat) (z : Int) (hz : z = 2 ^ k) : BitVec.ofInt 64 (IntKind.u64.wrap ((y.toNat : Int) * z)) = y <<< k := by
  apply BitVec.eq_of_toNat_eq
  have : (2 : Int) ^ k = ((2 ^ k : Nat) : Int) := by simp
  subst hz
  simp only [IntKind.wrap, IntKind.bits, IntKind.signed, BitVec.toNat_ofInt, BitVec.toNat_shiftLeft, Nat.shiftLeft_eq, this]
  simp only [Bool.false_and, Bool.false_eq_true, if_false]
  have h2 : ((2 : Int) ^ 64) = ((2 ^ 64 : Nat) : Int) := by simp
  rw [h2, Int.emod_emod_of_dvd _ (Int.dvd_refl _), ← Int.natCast_mul, ← Int.natCast_emod, Int.toNat_natCast]
theorem b64_shr (y : BitVec 64) (k : Nat) (z : Int) (hz : z = 2 ^ k) : BitVec.ofInt 64 ((y.toNat : Int).fdiv z) = y >>> k := by
  apply BitVec.eq_of_toNat_eq
  have : (2 : Int) ^ k = ((2 ^ k : Nat) : Int) := by simp
  subst hz
  rw [Int.fdiv_eq_ediv_of_nonneg _ (by rw [this]; exact Int.natCast_nonneg _), this]
  simp only [BitVec.toNat_ofInt, BitVec.toNat_ushiftRight, Nat.shiftRight_eq_div_pow]
  have h2 : ((2 ^ 64 : Nat) : Int) = (((2 ^ 64 : Nat)) : Int) := rfl
  rw [← Int.natCast_ediv, ← Int.natCast_emod, Int.toNat_natCast]
  have := Nat.div_le_self y.toNat (2 ^ k)
  have := y.isLt
  exact Nat.mod_eq_of_lt (by omega)
theorem xorNext_bv (x : UInt64) : (Sort.xorNext x).toBitVec = x.toBitVec ^^^ x.toBitVec <<< 13 ^^^ (x.toBitVec ^^^ x.toBitVec <<< 13) >>> 7 ^^^ (x.toBitVec ^^^ x.toBitVec <<< 13 ^^^ (x.toBitVec ^^^ x.toBitVec <<< 13) >>> 7) <<< 17 := by
  simp [Sort.xorNext]
theorem next_run (h : Heap) (s : Nat) (hs : s < h.length) (x : UInt64) (hr : h.row s = some [.int .u64 (x.toNat : Int)]) :
    Run T f_slices_xorshift_Next [.ptr s 0] h (.int .u64 ((Sort.xorNext x).toNat : Int)) (h.set s (some [.int .u64 ((Sort.xorNext x).toNat : Int)])) := by
  refine Run.start t_slices_xorshift_Next ?_
  unfold k_slices_xorshift_Next
  have hx := xorNext_bv x
  rw [show (Sort.xorNext x).toNat = (Sort.xorNext x).toBitVec.toNat from rfl, hx]
  rw [show x.toNat = x.toBitVec.toNat from rfl] at hr
  generalize x.toBitVec = y at hr
  have s1 := fun y => b64_shl y 13 8192 rfl
  have s2 := fun y => b64_shr y 7 128 rfl
  have s3 := fun y => b64_shl y 17 131072 rfl
  generalize hz : y ^^^ y <<< 13 ^^^ (y ^^^ y <<< 13) >>> 7 ^^^ (y ^^^ y <<< 13 ^^^ (y ^^^ y <<< 13) >>> 7) <<< 17 = z
  simp (disch := omega) [hr, hs, IntKind.bits, s1, s2, s3]
  subst hz
  exact ⟨rfl, rfl⟩
section
variable {h : Heap} {b : Nat}
/-- The random state's cell, at row s. -/
def XW (h : Heap) (s : Nat) (x : UInt64) : Heap := h.set s (some [.int .u64 (x.toNat : Int)])
theorem XW_len (s : Nat) (x : UInt64) : (XW h s x).length = h.length := by simp [XW]
theorem XW_row {s : Nat} (hs : s < h.length) (x : UInt64) : (XW h s x).row s = some [.int .u64 (x.toNat : Int)] := by unfold XW; rw [row_set hs]
theorem XW_set {s : Nat} (x x' : UInt64) : (XW h s x).set s (some [.int .u64 (x'.toNat : Int)]) = XW h s x' := by unfold XW; rw [List.set_set]
def brk (a l m : Nat) : Nat → UInt64 × Array Int → Nat → UInt64 × Array Int
  | 0, st, _ => st
  | k + 1, st, i => brk a l m k (Sort.breakStep a l m st i) (i + 1)
set_option maxHeartbeats 2000000 in
theorem brk_loop (s n a l m last : Nat) (hb : b < h.length) (hs : s < h.length) (hsb : s ≠ b) (hn : n < 64) (hl : 8 ≤ l) (hal : a + l ≤ n) (hm : m ≤ 2 * l) (hm0 : 0 < m) (hlast : last = a + l / 4 * 2 + 1) : ∀ (k i : Nat) (st : UInt64 × Array Int), i + k = last + 1 → st.2.size = n → ∀ ks Q,
    (∀ x e, Xk T ks (.x 0) e (SD (XW h s x) b (brk a l m k st i).2) Q) →
    Xc T l_slices_breakPatternsOrdered_uint64_0 ks [(0, .hs 1 b 0 n), (1, .int .i64 a), (6, .int .i64 l), (7, .ptr s 0), (8, .int .u64 m), (9, .int .i64 i)] (SD (XW h s st.1) b st.2) Q := by
  intro k
  induction k with
  | zero =>
    intro i st hi hd ks Q hx
    rw [L_slices_breakPatternsOrdered_uint64_0]; unfold bl_slices_breakPatternsOrdered_uint64_0
    have c1 : ¬ (i : Int) ≤ a + (l : Int) / 4 * 2 + 1 := by omega
    simp (disch := omega) [c1]
    exact hx _ _
  | succ k ih =>
    intro i st hi hd ks Q hx
    rw [L_slices_breakPatternsOrdered_uint64_0]; unfold bl_slices_breakPatternsOrdered_uint64_0
    have c1 : (i : Int) ≤ a + (l : Int) / 4 * 2 + 1 := by omega
    obtain ⟨x, d⟩ := st
    have r1 : (SD (XW h s x) b d).row s = some [.int .u64 (x.toNat : Int)] := by rw [row_SD hsb, XW_row hs]
    have hlt : s < List.length (SD (XW h s x) b d) := by rw [SD_len, XW_len]; exact hs
    simp (disch := omega) [c1]
    rw [Xf_run (next_run _ s hlt x r1)]
    have e1 : (m : Int) - 1 = ((m - 1 : Nat) : Int) := by omega
    rw [set_SD hsb, XW_set]
    generalize hx' : Sort.xorNext x = x'
    simp (disch := omega) [e1]
    obtain ⟨o, ho⟩ : ∃ o, o = x'.toNat &&& (m - 1) := ⟨_, rfl⟩
    have hom : o ≤ m - 1 := by rw [ho]; exact Nat.and_le_right
    have hw : IntKind.i64.wrap (IntKind.u64.wrap (((x'.toNat % 2 ^ IntKind.u64.bits &&& (m - 1) % 2 ^ IntKind.u64.bits : Nat)) : Int)) = (o : Int) := by
      rw [Nat.mod_eq_of_lt (a := x'.toNat) (by exact x'.toNat_lt), Nat.mod_eq_of_lt (a := m - 1) (by simp only [IntKind.bits]; omega), ← ho]
      simp (disch := omega)
    rw [hw]
    have hx2 : ∀ y, (if o ≥ l then o - l else o) = y → ∀ x e, Xk T ks (.x 0) e (SD (XW h s x) b (brk a l m k (x', Sort.swp d i (a + y)) (i + 1)).2) Q := by
      intro y hy
      unfold brk at hx
      have : Sort.breakStep a l m (x, d) i = (x', Sort.swp d i (a + y)) := by
        unfold Sort.breakStep
        simp only [hx', ← ho, hy]
      rw [this] at hx
      exact hx
    have hd' : d.size = n := hd
    refine share2 (fun (y : Nat) (_ : List (Nat × V)) => y < l ∧ (if o ≥ l then o - l else o) = y) ?R (fun hR => ?main) ?rest
    case main =>
      apply Xb_dec
      · intro c2
        obtain ⟨y, hy⟩ : ∃ y, y = o - l := ⟨_, rfl⟩
        have e2 : (o : Int) - l = (y : Int) := by omega
        simp (disch := omega) [e2]
        generalize [((45 : Nat), V.bool (decide ((l : Int) ≤ o)))] = tl
        generalize ([] : List (Nat × V)) = tl
        exact hR y tl ⟨by omega, by rw [if_pos (by omega)]; exact hy.symm⟩
      · intro c2
        simp (disch := omega) [c2]
        generalize [((45 : Nat), V.bool false)] = tl
        exact hR o tl ⟨by omega, by rw [if_neg (by omega)]⟩
    case rest =>
      intro y tl ⟨hy1, hy2⟩
      have hb' : b < List.length (XW h s x') := by rw [XW_len]; exact hb
      have r1 := SD_row hb' d
      have gl := SD_ints d
      have hbs := SD_lt hb' d
      have g0 := SD_getN d i (by omega)
      have g1 := SD_getN d (a + y) (by omega)
      have i1 : ((a : Int) + y).toNat = a + y := by omega
      have i2 : (((l : Int) / 4).toNat) = l / 4 := by omega
      simp (disch := omega) [i1, r1, g0, g1, gl]
      have := ih (i + 1) (x', Sort.swp d i (a + y)) (by omega) (by simp only [swp_size]; exact hd) ks Q (hx2 y hy2)
      simpa using this
theorem XW_app (z : UInt64) (v : V) : (h ++ [some [v]]).set h.length (some [.int .u64 (z.toNat : Int)]) = XW (h ++ [some [.int .u64 0]]) h.length z := by
  unfold XW; rw [List.set_append_right _ _ (Nat.le_refl _), List.set_append_right _ _ (Nat.le_refl _)]; simp
theorem XW_app' (z : UInt64) : XW (h ++ [some [.int .u64 0]]) h.length z = h ++ [some [.int .u64 (z.toNat : Int)]] := by
  unfold XW; rw [List.set_append_right _ _ (Nat.le_refl _)]; simp
theorem brk_run (hb : b < h.length) (d : Array Int) (a e : Nat) (hn : d.size < 64) (hae : a + 12 < e) (he : e ≤ d.size) :
    ∃ z : V, Run T f_slices_breakPatternsOrdered_uint64 [.hs 1 b 0 d.size, .int .i64 a, .int .i64 e] (SD h b d) (.tup []) (SD (h ++ [some [z]]) b (Sort.breakPatterns d a e)) := by
  have key : ∃ v h', (v = .tup [] ∧ ∃ z : V, h' = SD (h ++ [some [z]]) b (Sort.breakPatterns d a e)) ∧ Run T f_slices_breakPatternsOrdered_uint64 [.hs 1 b 0 d.size, .int .i64 a, .int .i64 e] (SD h b d) v h' := by
    refine Run.startP t_slices_breakPatternsOrdered_uint64 ?_
    unfold k_slices_breakPatternsOrdered_uint64
    obtain ⟨l, hl⟩ : ∃ l, l = e - a := ⟨_, rfl⟩
    obtain ⟨m, hm⟩ : ∃ m, m = 1 <<< Sort.bitsLen l := ⟨_, rfl⟩
    obtain ⟨i, hi⟩ : ∃ i, i = a + l / 4 * 2 - 1 := ⟨_, rfl⟩
    have e1 : (e : Int) - a = (l : Int) := by omega
    have c1 : (8 : Int) ≤ l := by omega
    have e2 : (a : Int) + (l : Int) / 4 * 2 - 1 = i := by omega
    have hp := pow_bits l (by omega) (by omega)
    have hk : Sort.breakPatterns d a e = (brk a l m 3 (UInt64.ofNat l, d) i).2 := by
      unfold Sort.breakPatterns
      dsimp only
      rw [if_pos (show e - a ≥ 8 by omega), ← hl, ← hm, ← hi]
      rfl
    have hsb : h.length ≠ b := by omega
    have hu : ((UInt64.ofNat l).toNat : Int) = (l : Int) := by
      have : (UInt64.ofNat l).toNat = l := by simp; omega
      rw [this]
    have hxa : (h ++ [some [V.int .u64 0]]).set h.length (some [.int .u64 (l : Int)]) = XW (h ++ [some [.int .u64 0]]) h.length (UInt64.ofNat l) := by rw [← hu]; exact XW_app _ _
    have r2 : (SD (h ++ [some [.int .u64 0]]) b d).row h.length = some [.int .u64 0] := by rw [row_SD hsb, row_new]
    simp (disch := omega) [e1, c1, SD_len, SD_app hb, r2]
    rw [set_SD hsb, hxa]
    rw [Xp_run (next2_run [] l (by omega)) (by simp) (by simp) (by simp), ← hm]
    simp (disch := omega) [e2]
    refine brk_loop h.length d.size a l m (i + 2) (by simp; omega) (by simp) hsb hn (by omega) (by omega) (by omega) (by omega) (by omega) 3 i (UInt64.ofNat l, d) (by omega) rfl _ _ fun x e => ?_
    rw [XW_app', ← hk]
    simp
    exact ⟨_, rfl⟩
  obtain ⟨v, h', ⟨rfl, z, rfl⟩, hr⟩ := key
  exact ⟨z, hr⟩
end
section
variable {h : Heap} {b : Nat}
theorem scanS_le (lt : Int → Int → Bool) (d : Array Int) (e : Nat) : ∀ (m i : Nat), e - i ≤ m → i ≤ e → i ≤ Sort.scanSorted lt d e i ∧ Sort.scanSorted lt d e i ≤ e := by
  intro m
  induction m with
  | zero =>
    intro i h1 h2
    unfold Sort.scanSorted
    rw [if_neg (by simp; omega)]
    omega
  | succ m ih =>
    intro i h1 h2
    unfold Sort.scanSorted
    split
    · rename_i h3
      simp at h3
      have := ih (i + 1) (by omega) (by omega)
      omega
    · omega
theorem scanS_loop (hb : b < h.length) (a e n : Nat) (d : Array Int) (hd : d.size = n) (hn : n < 1152921504606846976) (he : e ≤ n) (z : V) : ∀ (m i : Nat), e - i ≤ m → 0 < i → ∀ tl ks Q,
    Xk T ks (.x 2) [(0, .hs 1 b 0 n), (1, .int .i64 a), (2, .int .i64 e), (7, .int .i64 (Sort.scanSorted (Sort.ltInt) d e i : Nat)), (8, z), (32, .bool false)] (SD h b d) Q →
    Xc T l_slices_partialInsertionSortOrdered_uint64_0 ks ([(0, .hs 1 b 0 n), (1, .int .i64 a), (2, .int .i64 e), (7, .int .i64 i), (8, z)] ++ tl) (SD h b d) Q := by
  intro m
  have r1 := SD_row hb d
  induction m with
  | zero =>
    intro i hm hi tl ks Q hx
    rw [L_slices_partialInsertionSortOrdered_uint64_0]; unfold bl_slices_partialInsertionSortOrdered_uint64_0
    have c1 : ¬ (i : Int) < e := by omega
    have c2 : ¬ i < e := by omega
    unfold Sort.scanSorted at hx
    rw [if_neg (by simp; omega)] at hx
    simp (disch := omega) [c1, c2]
    simpa [c2] using hx
  | succ m ih =>
    intro i hm hi tl ks Q hx
    rw [L_slices_partialInsertionSortOrdered_uint64_0]; unfold bl_slices_partialInsertionSortOrdered_uint64_0
    unfold Sort.scanSorted at hx
    by_cases c2 : i < e
    · have g0 := SD_getN d i (by omega)
      have g1 := SD_getN d (i - 1) (by omega)
      have i1 : ((i : Int) - 1).toNat = i - 1 := by omega
      simp (disch := omega) [c2, i1, r1, g0, g1, Less_p]
      apply Xb_decn
      · intro c3
        have hl : Sort.ltInt d[i]! d[i - 1]! = false := decide_eq_false c3
        rw [if_pos (by simp only [hl]; simp [c2])] at hx
        simp (disch := omega)
        have := ih (i + 1) (by omega) (by omega) [] ks Q hx
        simpa using this
      · intro c3
        have hl : Sort.ltInt d[i]! d[i - 1]! = true := decide_eq_true c3
        rw [if_neg (by simp only [hl]; simp)] at hx
        simp (disch := omega)
        simpa [c3] using hx
    · have c1 : ¬ (i : Int) < e := by omega
      rw [if_neg (by simp; omega)] at hx
      simp (disch := omega) [c1, c2]
      simpa [c2] using hx
theorem shiftDown_size (lt : Int → Int → Bool) : ∀ (j : Nat) (d : Array Int), (Sort.shiftDown lt j d).size = d.size
  | 0, d => rfl
  | j + 1, d => by
    unfold Sort.shiftDown
    split
    · rfl
    · rw [shiftDown_size lt j, swp_size]
theorem shiftUp_size (lt : Int → Int → Bool) (e : Nat) : ∀ (m j : Nat) (d : Array Int), e - j ≤ m → (Sort.shiftUp lt e j d).size = d.size := by
  intro m
  induction m with
  | zero =>
    intro j d hm
    unfold Sort.shiftUp
    rw [if_neg (by omega)]
  | succ m ih =>
    intro j d hm
    unfold Sort.shiftUp
    split
    · split
      · rfl
      · rw [ih _ _ (by omega), swp_size]
    · rfl
theorem sdn_loop (hb : b < h.length) (n : Nat) (hn : n < 1152921504606846976) (x1 x2 x7 x8 : V) : ∀ (j : Nat) (d : Array Int), d.size = n → j < n → ∀ ks Q,
    (∀ z, Xk T ks (.x 4) ((0, .hs 1 b 0 n) :: (1, x1) :: (2, x2) :: (7, x7) :: (8, x8) :: z) (SD h b (Sort.shiftDown (Sort.ltInt) j d)) Q) →
    Xc T l_slices_partialInsertionSortOrdered_uint64_1 ks [(0, .hs 1 b 0 n), (1, x1), (2, x2), (7, x7), (8, x8), (9, .int .i64 j)] (SD h b d) Q := by
  intro j
  induction j with
  | zero =>
    intro d hd hj ks Q hx
    rw [L_slices_partialInsertionSortOrdered_uint64_1]; unfold bl_slices_partialInsertionSortOrdered_uint64_1
    simp (disch := omega)
    exact hx _
  | succ j ih =>
    intro d hd hj ks Q hx
    rw [L_slices_partialInsertionSortOrdered_uint64_1]; unfold bl_slices_partialInsertionSortOrdered_uint64_1
    have r1 := SD_row hb d
    have gl := SD_ints d
    have hbs := SD_lt hb d
    have g1 := SD_getN d j (by omega)
    have g2 := SD_getN d (j + 1) (by omega)
    have e5 : ((j : Int) + 1 - 1) = j := by omega
    have e6 : ((j : Int) + 1).toNat = j + 1 := by omega
    have c1 : (1 : Int) ≤ (j : Int) + 1 := by omega
    unfold Sort.shiftDown at hx
    by_cases c3 : atD d (j + 1) < atD d j
    · have hl : Sort.ltInt d[j + 1]! d[j]! = true := decide_eq_true c3
      rw [if_neg (by simp [hl])] at hx
      simp (disch := omega) [c1, e5, e6, r1, g1, g2, gl, Less_p, c3]
      exact ih (Sort.swp d (j + 1) j) (by rw [swp_size]; exact hd) (by omega) ks Q hx
    · have hl : Sort.ltInt d[j + 1]! d[j]! = false := decide_eq_false c3
      rw [if_pos (by simp [hl])] at hx
      simp (disch := omega) [c1, e5, e6, r1, g1, g2, gl, Less_p, c3]
      exact hx _
theorem sup_loop (hb : b < h.length) (n e : Nat) (hn : n < 1152921504606846976) (he : e ≤ n) (x1 x7 x8 : V) : ∀ (m j : Nat) (d : Array Int), e - j ≤ m → 1 ≤ j → d.size = n → ∀ ks Q,
    (∀ z, Xk T ks (.x 6) ((0, .hs 1 b 0 n) :: (1, x1) :: (2, .int .i64 e) :: (7, x7) :: (8, x8) :: z) (SD h b (Sort.shiftUp (Sort.ltInt) e j d)) Q) →
    Xc T l_slices_partialInsertionSortOrdered_uint64_2 ks [(0, .hs 1 b 0 n), (1, x1), (2, .int .i64 e), (7, x7), (8, x8), (10, .int .i64 j)] (SD h b d) Q := by
  intro m
  induction m with
  | zero =>
    intro j d hm hj hd ks Q hx
    rw [L_slices_partialInsertionSortOrdered_uint64_2]; unfold bl_slices_partialInsertionSortOrdered_uint64_2
    have c1 : ¬ (j : Int) < e := by omega
    have c2 : ¬ j < e := by omega
    unfold Sort.shiftUp at hx
    rw [if_neg c2] at hx
    simp (disch := omega) [c1, c2]
    exact hx _
  | succ m ih =>
    intro j d hm hj hd ks Q hx
    rw [L_slices_partialInsertionSortOrdered_uint64_2]; unfold bl_slices_partialInsertionSortOrdered_uint64_2
    unfold Sort.shiftUp at hx
    by_cases c2 : j < e
    · rw [if_pos c2] at hx
      have c1 : (j : Int) < e := by omega
      have r1 := SD_row hb d
      have gl := SD_ints d
      have hbs := SD_lt hb d
      have g1 := SD_getN d j (by omega)
      have g2 := SD_getN d (j - 1) (by omega)
      have e6 : ((j : Int) - 1).toNat = j - 1 := by omega
      by_cases c3 : atD d j < atD d (j - 1)
      · have hl : Sort.ltInt d[j]! d[j - 1]! = true := decide_eq_true c3
        rw [if_neg (by simp [hl])] at hx
        simp (disch := omega) [c1, c2, e6, r1, g1, g2, gl, Less_p, c3]
        have := ih (j + 1) (Sort.swp d j (j - 1)) (by omega) (by omega) (by rw [swp_size]; exact hd) ks Q hx
        simpa using this
      · have hl : Sort.ltInt d[j]! d[j - 1]! = false := decide_eq_false c3
        rw [if_pos (by simp [hl])] at hx
        simp (disch := omega) [c1, c2, e6, r1, g1, g2, gl, Less_p, c3]
        exact hx _
    · rw [if_neg c2] at hx
      have c1 : ¬ (j : Int) < e := by omega
      simp (disch := omega) [c1, c2]
      exact hx _
theorem pi_loop (hb : b < h.length) (a e n : Nat) (hn : n < 1152921504606846976) (he : e ≤ n) : ∀ (s q i : Nat) (d : Array Int), q + s = 5 → a < i → i ≤ e → d.size = n → ∀ ks Q,
    (∀ w d', Sort.partialIns (Sort.ltInt) a e s i d = (d', w) → Xk T ks .r [(6, .bool w)] (SD h b d') Q) →
    (∀ z d', Sort.partialIns (Sort.ltInt) a e s i d = (d', false) → Xk T ks (.x 0) z (SD h b d') Q) →
    Xc T l_slices_partialInsertionSortOrdered_uint64_3 ks [(0, .hs 1 b 0 n), (1, .int .i64 a), (2, .int .i64 e), (7, .int .i64 i), (8, .int .i64 q)] (SD h b d) Q := by
  intro s
  induction s with
  | zero =>
    intro q i d hs hi hie hd ks Q h1 h2
    rw [L_slices_partialInsertionSortOrdered_uint64_3]; unfold bl_slices_partialInsertionSortOrdered_uint64_3
    have c0 : ¬ (q : Int) < 5 := by omega
    have c0n : ¬ q < 5 := by omega
    simp (disch := omega) [c0, c0n]
    exact h2 _ d rfl
  | succ s ih =>
    intro q i d hs hi hie hd ks Q h1 h2
    rw [L_slices_partialInsertionSortOrdered_uint64_3]; unfold bl_slices_partialInsertionSortOrdered_uint64_3
    have c0 : (q : Int) < 5 := by omega
    have c0n : q < 5 := by omega
    obtain ⟨k1, k2⟩ := scanS_le (Sort.ltInt) d e (e - i) i (Nat.le_refl _) hie
    unfold Sort.partialIns at h1 h2
    dsimp only at h1 h2
    generalize hI : Sort.scanSorted (Sort.ltInt) d e i = I at *
    simp (disch := omega) [c0, c0n]
    have sl := scanS_loop (z := .int .i64 q) hb a e n d hd hn he (e - i) i (Nat.le_refl _) (by omega) [(14, .bool true)]
    rw [hI] at sl
    refine sl _ _ ?_
    by_cases c1 : I = e
    · rw [if_pos c1] at h1
      have c1' : (I : Int) = e := by omega
      simp (disch := omega) [c1, c1']
      exact h1 true d rfl
    have c1' : ¬ (I : Int) = e := by omega
    rw [if_neg c1] at h1 h2
    by_cases c2 : e - a < 50
    · rw [if_pos c2] at h1
      have c2' : (e : Int) - a < 50 := by omega
      simp (disch := omega) [c1, c1', c2']
      exact h1 false d rfl
    have c2' : ¬ (e : Int) - a < 50 := by omega
    rw [if_neg c2] at h1 h2
    have r1 := SD_row hb d
    have gl := SD_ints d
    have hbs := SD_lt hb d
    have g0 := SD_getN d I (by omega)
    have g1 := SD_getN d (I - 1) (by omega)
    have i1 : ((I : Int) - 1).toNat = I - 1 := by omega
    simp (disch := omega) [c1, c1', c2', i1, r1, g0, g1, gl]
    have sz1 : (Sort.swp d I (I - 1)).size = n := by rw [swp_size]; exact hd
    by_cases c4 : I - a ≥ 2
    · have c4' : (2 : Int) ≤ (I : Int) - a := by omega
      have sz2 : (Sort.shiftDown (Sort.ltInt) (I - 1) (Sort.swp d I (I - 1))).size = n := by rw [shiftDown_size]; exact sz1
      have e7 : (I : Int) - 1 = ((I - 1 : Nat) : Int) := by omega
      rw [if_pos c4] at h1 h2
      simp (disch := omega) [c4, c4', e7]
      refine sdn_loop hb n hn (.int .i64 a) (.int .i64 e) (.int .i64 I) (.int .i64 q) (I - 1) _ sz1 (by omega) _ _ fun z => ?_
      simp (disch := omega)
      by_cases c5 : e - I ≥ 2
      · have c5' : (2 : Int) ≤ (e : Int) - I := by omega
        rw [if_pos c5] at h1 h2
        simp (disch := omega) [c5, c5']
        have su := sup_loop hb n e hn he (.int .i64 a) (.int .i64 I) (.int .i64 q) (e - (I + 1)) (I + 1) (Sort.shiftDown (Sort.ltInt) (I - 1) (Sort.swp d I (I - 1))) (Nat.le_refl _) (by omega) sz2
        rw [show ((I + 1 : Nat) : Int) = (I : Int) + 1 from rfl] at su
        refine su _ _ fun z => ?_
        simp (disch := omega)
        have := ih (q + 1) I _ (by omega) (by omega) k2 (by rw [shiftUp_size _ _ _ _ _ (Nat.le_refl _)]; exact sz2) ks Q h1 h2
        rw [show ((q + 1 : Nat) : Int) = (q : Int) + 1 from rfl] at this
        exact this
      · have c5' : ¬ (2 : Int) ≤ (e : Int) - I := by omega
        rw [if_neg c5] at h1 h2
        simp (disch := omega) [c5, c5']
        have := ih (q + 1) I (Sort.shiftDown (Sort.ltInt) (I - 1) (Sort.swp d I (I - 1))) (by omega) (by omega) k2 sz2 ks Q h1 h2
        rw [show ((q + 1 : Nat) : Int) = (q : Int) + 1 from rfl] at this
        exact this
    · have c4' : ¬ (2 : Int) ≤ (I : Int) - a := by omega
      rw [if_neg c4] at h1 h2
      simp (disch := omega) [c4, c4']
      by_cases c5 : e - I ≥ 2
      · have c5' : (2 : Int) ≤ (e : Int) - I := by omega
        rw [if_pos c5] at h1 h2
        simp (disch := omega) [c5, c5']
        have su := sup_loop hb n e hn he (.int .i64 a) (.int .i64 I) (.int .i64 q) (e - (I + 1)) (I + 1) (Sort.swp d I (I - 1)) (Nat.le_refl _) (by omega) sz1
        rw [show ((I + 1 : Nat) : Int) = (I : Int) + 1 from rfl] at su
        refine su _ _ fun z => ?_
        simp (disch := omega)
        have := ih (q + 1) I _ (by omega) (by omega) k2 (by rw [shiftUp_size _ _ _ _ _ (Nat.le_refl _)]; exact sz1) ks Q h1 h2
        rw [show ((q + 1 : Nat) : Int) = (q : Int) + 1 from rfl] at this
        exact this
      · exact absurd c4 (by omega)
theorem pins_run (hb : b < h.length) (d : Array Int) (a e : Nat) (hn : d.size < 1152921504606846976) (hae : a < e) (he : e ≤ d.size) :
    Run T f_slices_partialInsertionSortOrdered_uint64 [.hs 1 b 0 d.size, .int .i64 a, .int .i64 e] (SD h b d) (.bool (Sort.partialInsertionSort (Sort.ltInt) d a e).2) (SD h b (Sort.partialInsertionSort (Sort.ltInt) d a e).1) := by
  obtain ⟨d', w, hp⟩ : ∃ d' w, Sort.partialInsertionSort (Sort.ltInt) d a e = (d', w) := ⟨_, _, rfl⟩
  rw [hp]
  unfold Sort.partialInsertionSort at hp
  refine Run.start t_slices_partialInsertionSortOrdered_uint64 ?_
  unfold k_slices_partialInsertionSortOrdered_uint64
  simp (disch := omega)
  have pl := pi_loop hb a e d.size hn he 5 0 (a + 1) d (by omega) (by omega) (by omega) rfl
  rw [show ((a + 1 : Nat) : Int) = (a : Int) + 1 from rfl] at pl
  refine pl _ _ (fun w' d2 h => ?_) (fun z d2 h => ?_)
  · rw [hp] at h
    cases h
    simp
  · rw [hp] at h
    cases h
    simp
end
section
variable {h : Heap} {b : Nat}
theorem up0 (hb : b < h.length) (a n : Nat) (d : Array Int) (hd : d.size = n) (hn : n < 1152921504606846976) (han : a < n) (j : Nat) (hj : j < n) (p : Int → Bool) (hp : ∀ x, p x = Sort.ltInt x (atD d a)) : ∀ (m i : Nat), j + 1 - i ≤ m → i ≤ n → ∀ tl ks Q,
    Xk T ks (.x 0) [(0, .hs 1 b 0 n), (1, .int .i64 a), (10, .int .i64 (Sort.scanUp p d j i : Nat)), (11, .int .i64 j), (43, .bool false)] (SD h b d) Q →
    Xc T l_slices_partitionOrdered_uint64_0 ks ([(0, .hs 1 b 0 n), (1, .int .i64 a), (10, .int .i64 i), (11, .int .i64 j)] ++ tl) (SD h b d) Q := by
  intro m
  have r1 := SD_row hb d
  have ga := SD_getN d a (by omega)
  induction m with
  | zero =>
    intro i hm hi tl ks Q hx
    rw [L_slices_partitionOrdered_uint64_0]; unfold bl_slices_partitionOrdered_uint64_0
    have c1 : ¬ (i : Int) ≤ j := by omega
    have c2 : ¬ i ≤ j := by omega
    unfold Sort.scanUp at hx
    rw [if_neg (by simp; omega)] at hx
    simp (disch := omega) [c1, c2]
    simpa [c2] using hx
  | succ m ih =>
    intro i hm hi tl ks Q hx
    rw [L_slices_partitionOrdered_uint64_0]; unfold bl_slices_partitionOrdered_uint64_0
    unfold Sort.scanUp at hx
    by_cases c2 : i ≤ j
    · have g0 := SD_getN d i (by omega)
      simp (disch := omega) [c2, r1, g0, ga, Less_p]
      apply Xb_dec
      · intro c3
        have hl : p d[i]! = true := by rw [hp]; exact decide_eq_true c3
        rw [if_pos (by simp only [hl]; simp [c2])] at hx
        simp (disch := omega)
        have := ih (i + 1) (by omega) (by omega) [] ks Q hx
        simpa using this
      · intro c3
        have hl : p d[i]! = false := by rw [hp]; exact decide_eq_false c3
        rw [if_neg (by simp only [hl]; simp)] at hx
        simp (disch := omega)
        simpa [c3] using hx
    · have c1 : ¬ (i : Int) ≤ j := by omega
      rw [if_neg (by simp; omega)] at hx
      simp (disch := omega) [c1, c2]
      simpa [c2] using hx
theorem up2 (hb : b < h.length) (a n : Nat) (d : Array Int) (hd : d.size = n) (hn : n < 1152921504606846976) (han : a < n) (j : Nat) (hj : j < n) (p : Int → Bool) (hp : ∀ x, p x = Sort.ltInt x (atD d a)) : ∀ (m i : Nat), j + 1 - i ≤ m → i ≤ n → ∀ tl ks Q,
    Xk T ks (.x 6) [(0, .hs 1 b 0 n), (1, .int .i64 a), (10, .int .i64 (Sort.scanUp p d j i : Nat)), (11, .int .i64 j), (112, .bool false)] (SD h b d) Q →
    Xc T l_slices_partitionOrdered_uint64_2 ks ([(0, .hs 1 b 0 n), (1, .int .i64 a), (10, .int .i64 i), (11, .int .i64 j)] ++ tl) (SD h b d) Q := by
  intro m
  have r1 := SD_row hb d
  have ga := SD_getN d a (by omega)
  induction m with
  | zero =>
    intro i hm hi tl ks Q hx
    rw [L_slices_partitionOrdered_uint64_2]; unfold bl_slices_partitionOrdered_uint64_2
    have c1 : ¬ (i : Int) ≤ j := by omega
    have c2 : ¬ i ≤ j := by omega
    unfold Sort.scanUp at hx
    rw [if_neg (by simp; omega)] at hx
    simp (disch := omega) [c1, c2]
    simpa [c2] using hx
  | succ m ih =>
    intro i hm hi tl ks Q hx
    rw [L_slices_partitionOrdered_uint64_2]; unfold bl_slices_partitionOrdered_uint64_2
    unfold Sort.scanUp at hx
    by_cases c2 : i ≤ j
    · have g0 := SD_getN d i (by omega)
      simp (disch := omega) [c2, r1, g0, ga, Less_p]
      apply Xb_dec
      · intro c3
        have hl : p d[i]! = true := by rw [hp]; exact decide_eq_true c3
        rw [if_pos (by simp only [hl]; simp [c2])] at hx
        simp (disch := omega)
        have := ih (i + 1) (by omega) (by omega) [] ks Q hx
        simpa using this
      · intro c3
        have hl : p d[i]! = false := by rw [hp]; exact decide_eq_false c3
        rw [if_neg (by simp only [hl]; simp)] at hx
        simp (disch := omega)
        simpa [c3] using hx
    · have c1 : ¬ (i : Int) ≤ j := by omega
      rw [if_neg (by simp; omega)] at hx
      simp (disch := omega) [c1, c2]
      simpa [c2] using hx
theorem dn1 (hb : b < h.length) (a n : Nat) (d : Array Int) (hd : d.size = n) (hn : n < 1152921504606846976) (han : a < n) (i : Nat) (hi : 1 ≤ i) (hin : i ≤ n) (p : Int → Bool) (hp : ∀ x, p x = (!Sort.ltInt x (atD d a))) : ∀ (j : Nat), j < n → ∀ tl ks Q,
    Xk T ks (.x 2) [(0, .hs 1 b 0 n), (1, .int .i64 a), (10, .int .i64 i), (11, .int .i64 (Sort.scanDown p d i j : Nat)), (60, .bool false)] (SD h b d) Q →
    Xc T l_slices_partitionOrdered_uint64_1 ks ([(0, .hs 1 b 0 n), (1, .int .i64 a), (10, .int .i64 i), (11, .int .i64 j)] ++ tl) (SD h b d) Q := by
  intro j
  have r1 := SD_row hb d
  have ga := SD_getN d a (by omega)
  induction j with
  | zero =>
    intro hj tl ks Q hx
    rw [L_slices_partitionOrdered_uint64_1]; unfold bl_slices_partitionOrdered_uint64_1
    have c1 : ¬ (i : Int) ≤ (0 : Nat) := by omega
    have c2 : ¬ i = 0 := by omega
    have c4 : ¬ (i : Int) ≤ 0 := by omega
    unfold Sort.scanDown at hx
    simp (disch := omega) [c1, c2, c4]
    simpa [c2] using hx
  | succ j ih =>
    intro hj tl ks Q hx
    rw [L_slices_partitionOrdered_uint64_1]; unfold bl_slices_partitionOrdered_uint64_1
    unfold Sort.scanDown at hx
    by_cases c2 : i ≤ j + 1
    · have g0 := SD_getN d (j + 1) (by omega)
      have i1 : ((j : Int) + 1).toNat = j + 1 := by omega
      have c1 : (i : Int) ≤ j + 1 := by omega
      simp (disch := omega) [c1, c2, r1, g0, ga, Less_p, i1]
      apply Xb_decn
      · intro c3
        have hl : p d[j + 1]! = true := by rw [hp]; have h9 : Sort.ltInt (atD d (j + 1)) (atD d a) = false := decide_eq_false c3; exact congrArg Bool.not h9
        rw [if_pos (by simp only [hl]; simp [c2])] at hx
        have e1 : (j : Int) + 1 - 1 = j := by omega
        simp (disch := omega) [e1]
        have := ih (by omega) [] ks Q hx
        simpa using this
      · intro c3
        have hl : p d[j + 1]! = false := by rw [hp]; have h9 : Sort.ltInt (atD d (j + 1)) (atD d a) = true := decide_eq_true c3; exact congrArg Bool.not h9
        rw [if_neg (by simp only [hl]; simp)] at hx
        simp (disch := omega)
        simpa [c3] using hx
    · have c1 : ¬ (i : Int) ≤ j + 1 := by omega
      rw [if_neg (by simp; omega)] at hx
      simp (disch := omega) [c1, c2]
      simpa [c2] using hx
theorem dn3 (hb : b < h.length) (a n : Nat) (d : Array Int) (hd : d.size = n) (hn : n < 1152921504606846976) (han : a < n) (i : Nat) (hi : 1 ≤ i) (hin : i ≤ n) (p : Int → Bool) (hp : ∀ x, p x = (!Sort.ltInt x (atD d a))) : ∀ (j : Nat), j < n → ∀ tl ks Q,
    Xk T ks (.x 8) [(0, .hs 1 b 0 n), (1, .int .i64 a), (10, .int .i64 i), (11, .int .i64 (Sort.scanDown p d i j : Nat)), (129, .bool false)] (SD h b d) Q →
    Xc T l_slices_partitionOrdered_uint64_3 ks ([(0, .hs 1 b 0 n), (1, .int .i64 a), (10, .int .i64 i), (11, .int .i64 j)] ++ tl) (SD h b d) Q := by
  intro j
  have r1 := SD_row hb d
  have ga := SD_getN d a (by omega)
  induction j with
  | zero =>
    intro hj tl ks Q hx
    rw [L_slices_partitionOrdered_uint64_3]; unfold bl_slices_partitionOrdered_uint64_3
    have c1 : ¬ (i : Int) ≤ (0 : Nat) := by omega
    have c2 : ¬ i = 0 := by omega
    have c4 : ¬ (i : Int) ≤ 0 := by omega
    unfold Sort.scanDown at hx
    simp (disch := omega) [c1, c2, c4]
    simpa [c2] using hx
  | succ j ih =>
    intro hj tl ks Q hx
    rw [L_slices_partitionOrdered_uint64_3]; unfold bl_slices_partitionOrdered_uint64_3
    unfold Sort.scanDown at hx
    by_cases c2 : i ≤ j + 1
    · have g0 := SD_getN d (j + 1) (by omega)
      have i1 : ((j : Int) + 1).toNat = j + 1 := by omega
      have c1 : (i : Int) ≤ j + 1 := by omega
      simp (disch := omega) [c1, c2, r1, g0, ga, Less_p, i1]
      apply Xb_decn
      · intro c3
        have hl : p d[j + 1]! = true := by rw [hp]; have h9 : Sort.ltInt (atD d (j + 1)) (atD d a) = false := decide_eq_false c3; exact congrArg Bool.not h9
        rw [if_pos (by simp only [hl]; simp [c2])] at hx
        have e1 : (j : Int) + 1 - 1 = j := by omega
        simp (disch := omega) [e1]
        have := ih (by omega) [] ks Q hx
        simpa using this
      · intro c3
        have hl : p d[j + 1]! = false := by rw [hp]; have h9 : Sort.ltInt (atD d (j + 1)) (atD d a) = true := decide_eq_true c3; exact congrArg Bool.not h9
        rw [if_neg (by simp only [hl]; simp)] at hx
        simp (disch := omega)
        simpa [c3] using hx
    · have c1 : ¬ (i : Int) ≤ j + 1 := by omega
      rw [if_neg (by simp; omega)] at hx
      simp (disch := omega) [c1, c2]
      simpa [c2] using hx
theorem eq0 (hb : b < h.length) (a n : Nat) (d : Array Int) (hd : d.size = n) (hn : n < 1152921504606846976) (han : a < n) (j : Nat) (hj : j < n) (p : Int → Bool) (hp : ∀ x, p x = (!Sort.ltInt (atD d a) x)) : ∀ (m i : Nat), j + 1 - i ≤ m → i ≤ n → ∀ tl ks Q,
    Xk T ks (.x 2) [(0, .hs 1 b 0 n), (1, .int .i64 a), (9, .int .i64 (Sort.scanUp p d j i : Nat)), (10, .int .i64 j), (43, .bool false)] (SD h b d) Q →
    Xc T l_slices_partitionEqualOrdered_uint64_0 ks ([(0, .hs 1 b 0 n), (1, .int .i64 a), (9, .int .i64 i), (10, .int .i64 j)] ++ tl) (SD h b d) Q := by
  intro m
  have r1 := SD_row hb d
  have ga := SD_getN d a (by omega)
  induction m with
  | zero =>
    intro i hm hi tl ks Q hx
    rw [L_slices_partitionEqualOrdered_uint64_0]; unfold bl_slices_partitionEqualOrdered_uint64_0
    have c1 : ¬ (i : Int) ≤ j := by omega
    have c2 : ¬ i ≤ j := by omega
    unfold Sort.scanUp at hx
    rw [if_neg (by simp; omega)] at hx
    simp (disch := omega) [c1, c2]
    simpa [c2] using hx
  | succ m ih =>
    intro i hm hi tl ks Q hx
    rw [L_slices_partitionEqualOrdered_uint64_0]; unfold bl_slices_partitionEqualOrdered_uint64_0
    unfold Sort.scanUp at hx
    by_cases c2 : i ≤ j
    · have g0 := SD_getN d i (by omega)
      simp (disch := omega) [c2, r1, g0, ga, Less_p]
      apply Xb_decn
      · intro c3
        have hl : p d[i]! = true := by rw [hp]; have h9 : Sort.ltInt (atD d a) (atD d i) = false := decide_eq_false c3; exact congrArg Bool.not h9
        rw [if_pos (by simp only [hl]; simp [c2])] at hx
        simp (disch := omega)
        have := ih (i + 1) (by omega) (by omega) [] ks Q hx
        simpa using this
      · intro c3
        have hl : p d[i]! = false := by rw [hp]; have h9 : Sort.ltInt (atD d a) (atD d i) = true := decide_eq_true c3; exact congrArg Bool.not h9
        rw [if_neg (by simp only [hl]; simp)] at hx
        simp (disch := omega)
        simpa [c3] using hx
    · have c1 : ¬ (i : Int) ≤ j := by omega
      rw [if_neg (by simp; omega)] at hx
      simp (disch := omega) [c1, c2]
      simpa [c2] using hx
theorem eq1 (hb : b < h.length) (a n : Nat) (d : Array Int) (hd : d.size = n) (hn : n < 1152921504606846976) (han : a < n) (i : Nat) (hi : 1 ≤ i) (hin : i ≤ n) (p : Int → Bool) (hp : ∀ x, p x = Sort.ltInt (atD d a) x) : ∀ (j : Nat), j < n → ∀ tl ks Q,
    Xk T ks (.x 4) [(0, .hs 1 b 0 n), (1, .int .i64 a), (9, .int .i64 i), (10, .int .i64 (Sort.scanDown p d i j : Nat)), (59, .bool false)] (SD h b d) Q →
    Xc T l_slices_partitionEqualOrdered_uint64_1 ks ([(0, .hs 1 b 0 n), (1, .int .i64 a), (9, .int .i64 i), (10, .int .i64 j)] ++ tl) (SD h b d) Q := by
  intro j
  have r1 := SD_row hb d
  have ga := SD_getN d a (by omega)
  induction j with
  | zero =>
    intro hj tl ks Q hx
    rw [L_slices_partitionEqualOrdered_uint64_1]; unfold bl_slices_partitionEqualOrdered_uint64_1
    have c1 : ¬ (i : Int) ≤ (0 : Nat) := by omega
    have c2 : ¬ i = 0 := by omega
    have c4 : ¬ (i : Int) ≤ 0 := by omega
    unfold Sort.scanDown at hx
    simp (disch := omega) [c1, c2, c4]
    simpa [c2] using hx
  | succ j ih =>
    intro hj tl ks Q hx
    rw [L_slices_partitionEqualOrdered_uint64_1]; unfold bl_slices_partitionEqualOrdered_uint64_1
    unfold Sort.scanDown at hx
    by_cases c2 : i ≤ j + 1
    · have g0 := SD_getN d (j + 1) (by omega)
      have i1 : ((j : Int) + 1).toNat = j + 1 := by omega
      have c1 : (i : Int) ≤ j + 1 := by omega
      simp (disch := omega) [c1, c2, r1, g0, ga, Less_p, i1]
      apply Xb_dec
      · intro c3
        have hl : p d[j + 1]! = true := by rw [hp]; exact decide_eq_true c3
        rw [if_pos (by simp only [hl]; simp [c2])] at hx
        have e1 : (j : Int) + 1 - 1 = j := by omega
        simp (disch := omega) [e1]
        have := ih (by omega) [] ks Q hx
        simpa using this
      · intro c3
        have hl : p d[j + 1]! = false := by rw [hp]; exact decide_eq_false c3
        rw [if_neg (by simp only [hl]; simp)] at hx
        simp (disch := omega)
        simpa [c3] using hx
    · have c1 : ¬ (i : Int) ≤ j + 1 := by omega
      rw [if_neg (by simp; omega)] at hx
      simp (disch := omega) [c1, c2]
      simpa [c2] using hx
end
theorem hpos1 {d : Array Int} {a : Nat} : ∀ x, (fun x => Sort.ltInt x d[a]!) x = Sort.ltInt x (atD d a) := fun _ => rfl
theorem hneg1 {d : Array Int} {a : Nat} : ∀ x, (fun x => !Sort.ltInt x d[a]!) x = !Sort.ltInt x (atD d a) := fun _ => rfl
theorem hneg2 {d : Array Int} {a : Nat} : ∀ x, (fun x => !Sort.ltInt d[a]! x) x = !Sort.ltInt (atD d a) x := fun _ => rfl
theorem hpos2 {d : Array Int} {a : Nat} : ∀ x, (fun x => Sort.ltInt d[a]! x) x = Sort.ltInt (atD d a) x := fun _ => rfl
theorem scanUp_len (p : Int → Bool) (d : Array Int) (j n : Nat) (hj : j < n) (i : Nat) (hi : i ≤ n) : Sort.scanUp p d j i ≤ n := by
  by_cases h : i ≤ j + 1
  · have := (Sort.scanUp_spec p d j _ i rfl).2.1 h
    omega
  · unfold Sort.scanUp
    rw [if_neg (by simp; omega)]
    exact hi
section
variable {h : Heap} {b : Nat}
theorem pl_loop (hb : b < h.length) (a n : Nat) (hn : n < 1152921504606846976) (han : a < n) : ∀ (m i j : Nat) (d : Array Int), j + 1 - i ≤ m → a < i → i ≤ n → j < n → d.size = n → ∀ tl ks Q,
    (∀ i' e, (Sort.partLoop (Sort.ltInt) a i j d).1 < n → (Sort.partLoop (Sort.ltInt) a i j d).2.size = n → Xk T ks (.x 4) ([(0, .hs 1 b 0 n), (1, .int .i64 a), (10, .int .i64 i'), (11, .int .i64 ((Sort.partLoop (Sort.ltInt) a i j d).1 : Nat))] ++ e) (SD h b (Sort.partLoop (Sort.ltInt) a i j d).2) Q) →
    Xc T l_slices_partitionOrdered_uint64_4 ks ([(0, .hs 1 b 0 n), (1, .int .i64 a), (10, .int .i64 i), (11, .int .i64 j)] ++ tl) (SD h b d) Q := by
  intro m
  induction m with
  | zero =>
    intro i j d hm hai hi hj hd tl ks Q hx
    rw [L_slices_partitionOrdered_uint64_4]; unfold bl_slices_partitionOrdered_uint64_4
    rw [Sort.partLoop_eq] at hx
    have u1 := Sort.scanUp_ge (fun x => Sort.ltInt x d[a]!) d j i
    have u2 := scanUp_len (fun x => Sort.ltInt x d[a]!) d j n hj i hi
    simp (disch := omega)
    have hu := up2 hb a n d hd hn han j hj (fun x => Sort.ltInt x d[a]!) hpos1 _ i (Nat.le_refl _) hi []
    simp only [List.append_nil] at hu
    refine hu _ _ ?_
    generalize Sort.scanUp (fun x => Sort.ltInt x d[a]!) d j i = i2 at *
    simp (disch := omega)
    refine dn3 hb a n d hd hn han i2 (by omega) (by omega) (fun x => !Sort.ltInt x d[a]!) hneg1 j hj [(112, .bool false)] _ _ ?_
    have v1 := Sort.scanDown_le (fun x => !Sort.ltInt x d[a]!) d i2 j
    generalize Sort.scanDown (fun x => !Sort.ltInt x d[a]!) d i2 j = j2 at *
    rw [if_pos (show i2 > j2 by omega)] at hx
    have c1 : (j2 : Int) < i2 := by omega
    simp (disch := omega) [c1]
    have := hx i2 [(134, .bool true)] (by omega) hd
    simpa using this
  | succ m ih =>
    intro i j d hm hai hi hj hd tl ks Q hx
    rw [L_slices_partitionOrdered_uint64_4]; unfold bl_slices_partitionOrdered_uint64_4
    rw [Sort.partLoop_eq] at hx
    have u1 := Sort.scanUp_ge (fun x => Sort.ltInt x d[a]!) d j i
    have u2 := scanUp_len (fun x => Sort.ltInt x d[a]!) d j n hj i hi
    simp (disch := omega)
    have hu := up2 hb a n d hd hn han j hj (fun x => Sort.ltInt x d[a]!) hpos1 _ i (Nat.le_refl _) hi []
    simp only [List.append_nil] at hu
    refine hu _ _ ?_
    generalize Sort.scanUp (fun x => Sort.ltInt x d[a]!) d j i = i2 at *
    simp (disch := omega)
    refine dn3 hb a n d hd hn han i2 (by omega) (by omega) (fun x => !Sort.ltInt x d[a]!) hneg1 j hj [(112, .bool false)] _ _ ?_
    have v1 := Sort.scanDown_le (fun x => !Sort.ltInt x d[a]!) d i2 j
    generalize Sort.scanDown (fun x => !Sort.ltInt x d[a]!) d i2 j = j2 at *
    by_cases c2 : i2 > j2
    · rw [if_pos c2] at hx
      have c1 : (j2 : Int) < i2 := by omega
      simp (disch := omega) [c1]
      have := hx i2 [(134, .bool true)] (by omega) hd
      simpa using this
    · rw [if_neg c2] at hx
      have c1 : ¬ (j2 : Int) < i2 := by omega
      have c3 : ¬ j2 < i2 := by omega
      have r1 := SD_row hb d
      have gl := SD_ints d
      have hbs := SD_lt hb d
      have g0 := SD_getN d i2 (by omega)
      have g1 := SD_getN d j2 (by omega)
      have e1 : (j2 : Int) - 1 = ((j2 - 1 : Nat) : Int) := by omega
      simp (disch := omega) [c1, c3, r1, g0, g1, gl]
      have := ih (i2 + 1) (j2 - 1) (Sort.swp d i2 j2) (by omega) (by omega) (by omega) (by omega) (by rw [swp_size]; exact hd) [] ks Q hx
      rw [e1]
      simpa using this
theorem partn_run (hb : b < h.length) (d : Array Int) (a e pv : Nat) (hn : d.size < 1152921504606846976) (hae : a + 2 < e) (he : e ≤ d.size) (hpa : a ≤ pv) (hpe : pv < e) :
    Run T f_slices_partitionOrdered_uint64 [.hs 1 b 0 d.size, .int .i64 a, .int .i64 e, .int .i64 pv] (SD h b d)
      (.tup [.int .i64 ((Sort.partition (Sort.ltInt) d a e pv).1 : Nat), .bool (Sort.partition (Sort.ltInt) d a e pv).2.1]) (SD h b (Sort.partition (Sort.ltInt) d a e pv).2.2) := by
  generalize hP : Sort.partition (Sort.ltInt) d a e pv = P
  refine Run.start t_slices_partitionOrdered_uint64 ?_
  unfold k_slices_partitionOrdered_uint64
  unfold Sort.partition at hP
  have r1 := SD_row hb d
  have gl := SD_ints d
  have hbs := SD_lt hb d
  have g0 := SD_getN d a (by omega)
  have g1 := SD_getN d pv (by omega)
  obtain ⟨j, hj⟩ : ∃ j, j = e - 1 := ⟨_, rfl⟩
  have e1 : (e : Int) - 1 = (j : Int) := by omega
  simp only [← hj] at hP
  simp (disch := omega) [r1, g0, g1, gl, e1]
  have hd : (Sort.swp d a pv).size = d.size := swp_size _ _ _
  generalize Sort.swp d a pv = d1 at *
  generalize d.size = n at *
  clear g0 g1 r1 gl hbs
  have u1 := Sort.scanUp_ge (fun x => Sort.ltInt x d1[a]!) d1 j (a + 1)
  have u2 := scanUp_len (fun x => Sort.ltInt x d1[a]!) d1 j n (by omega) (a + 1) (by omega)
  have hu := up0 hb a n d1 hd hn (by omega) j (by omega) (fun x => Sort.ltInt x d1[a]!) hpos1 _ (a + 1) (Nat.le_refl _) (by omega) []
  simp only [List.append_nil] at hu
  simp only [Int.natCast_add, Int.cast_ofNat_Int] at hu
  refine hu _ _ ?_
  generalize Sort.scanUp (fun x => Sort.ltInt x d1[a]!) d1 j (a + 1) = i2 at *
  simp (disch := omega)
  refine dn1 hb a n d1 hd hn (by omega) i2 (by omega) (by omega) (fun x => !Sort.ltInt x d1[a]!) hneg1 j (by omega) [(43, .bool false)] _ _ ?_
  have v1 := Sort.scanDown_le (fun x => !Sort.ltInt x d1[a]!) d1 i2 j
  generalize Sort.scanDown (fun x => !Sort.ltInt x d1[a]!) d1 i2 j = j2 at *
  have r1 := SD_row hb d1
  have gl := SD_ints d1
  have hbs := SD_lt hb d1
  have g0 := SD_getN d1 a (by omega)
  have g1 := SD_getN d1 j2 (by omega)
  by_cases c2 : i2 > j2
  · have c1 : (j2 : Int) < i2 := by omega
    have c3 : j2 < i2 := by omega
    rw [if_pos c2] at hP
    subst hP
    simp (disch := omega) [c1, c3, r1, g0, g1, gl]
  · have c1 : ¬ (j2 : Int) < i2 := by omega
    have c3 : ¬ j2 < i2 := by omega
    rw [if_neg c2] at hP
    have g2 := SD_getN d1 i2 (by omega)
    have e2 : (j2 : Int) - 1 = ((j2 - 1 : Nat) : Int) := by omega
    simp (disch := omega) [c1, c3, r1, g0, g1, g2, gl, e2]
    have hl := pl_loop hb a n hn (by omega) (j2 + 1 - i2) (i2 + 1) (j2 - 1) (Sort.swp d1 i2 j2) (by omega) (by omega) (by omega) (by omega) (by rw [swp_size]; exact hd) []
    simp only [Int.natCast_add, Int.cast_ofNat_Int, List.append_nil] at hl
    refine hl _ _ ?_
    generalize Sort.partLoop (Sort.ltInt) a (i2 + 1) (j2 - 1) (Sort.swp d1 i2 j2) = r at *
    subst hP
    intro i' tl k1 k2
    have r1 := SD_row hb r.2
    have gl := SD_ints r.2
    have hbs := SD_lt hb r.2
    have g0 := SD_getN r.2 a (by omega)
    have g1 := SD_getN r.2 r.1 (by omega)
    simp (disch := omega) [r1, g0, g1, gl]
end
section
variable {h : Heap} {b : Nat}
theorem pe_loop (hb : b < h.length) (a n : Nat) (hn : n < 1152921504606846976) (han : a < n) : ∀ (m i j : Nat) (d : Array Int), j + 1 - i ≤ m → a < i → i ≤ n → j < n → d.size = n → ∀ tl ks Q,
    (∀ j' e, Xk T ks (.x 0) ([(0, .hs 1 b 0 n), (1, .int .i64 a), (9, .int .i64 ((Sort.partEqLoop (Sort.ltInt) a i j d).1 : Nat)), (10, .int .i64 j')] ++ e) (SD h b (Sort.partEqLoop (Sort.ltInt) a i j d).2) Q) →
    Xc T l_slices_partitionEqualOrdered_uint64_2 ks ([(0, .hs 1 b 0 n), (1, .int .i64 a), (9, .int .i64 i), (10, .int .i64 j)] ++ tl) (SD h b d) Q := by
  intro m
  induction m with
  | zero =>
    intro i j d hm hai hi hj hd tl ks Q hx
    rw [L_slices_partitionEqualOrdered_uint64_2]; unfold bl_slices_partitionEqualOrdered_uint64_2
    rw [Sort.partEqLoop_eq] at hx
    have u1 := Sort.scanUp_ge (fun x => !Sort.ltInt d[a]! x) d j i
    have u2 := scanUp_len (fun x => !Sort.ltInt d[a]! x) d j n hj i hi
    simp (disch := omega)
    have hu := eq0 hb a n d hd hn han j hj (fun x => !Sort.ltInt d[a]! x) hneg2 _ i (Nat.le_refl _) hi []
    simp only [List.append_nil] at hu
    refine hu _ _ ?_
    generalize Sort.scanUp (fun x => !Sort.ltInt d[a]! x) d j i = i2 at *
    simp (disch := omega)
    refine eq1 hb a n d hd hn han i2 (by omega) (by omega) (fun x => Sort.ltInt d[a]! x) hpos2 j hj [(43, .bool false)] _ _ ?_
    have v1 := Sort.scanDown_le (fun x => Sort.ltInt d[a]! x) d i2 j
    generalize Sort.scanDown (fun x => Sort.ltInt d[a]! x) d i2 j = j2 at *
    rw [if_pos (show i2 > j2 by omega)] at hx
    have c1 : (j2 : Int) < i2 := by omega
    simp (disch := omega) [c1]
    have := hx j2 [(64, .bool true)]
    simpa using this
  | succ m ih =>
    intro i j d hm hai hi hj hd tl ks Q hx
    rw [L_slices_partitionEqualOrdered_uint64_2]; unfold bl_slices_partitionEqualOrdered_uint64_2
    rw [Sort.partEqLoop_eq] at hx
    have u1 := Sort.scanUp_ge (fun x => !Sort.ltInt d[a]! x) d j i
    have u2 := scanUp_len (fun x => !Sort.ltInt d[a]! x) d j n hj i hi
    simp (disch := omega)
    have hu := eq0 hb a n d hd hn han j hj (fun x => !Sort.ltInt d[a]! x) hneg2 _ i (Nat.le_refl _) hi []
    simp only [List.append_nil] at hu
    refine hu _ _ ?_
    generalize Sort.scanUp (fun x => !Sort.ltInt d[a]! x) d j i = i2 at *
    simp (disch := omega)
    refine eq1 hb a n d hd hn han i2 (by omega) (by omega) (fun x => Sort.ltInt d[a]! x) hpos2 j hj [(43, .bool false)] _ _ ?_
    have v1 := Sort.scanDown_le (fun x => Sort.ltInt d[a]! x) d i2 j
    generalize Sort.scanDown (fun x => Sort.ltInt d[a]! x) d i2 j = j2 at *
    by_cases c2 : i2 > j2
    · rw [if_pos c2] at hx
      have c1 : (j2 : Int) < i2 := by omega
      simp (disch := omega) [c1]
      have := hx j2 [(64, .bool true)]
      simpa using this
    · rw [if_neg c2] at hx
      have c1 : ¬ (j2 : Int) < i2 := by omega
      have c3 : ¬ j2 < i2 := by omega
      have r1 := SD_row hb d
      have gl := SD_ints d
      have hbs := SD_lt hb d
      have g0 := SD_getN d i2 (by omega)
      have g1 := SD_getN d j2 (by omega)
      have e1 : (j2 : Int) - 1 = ((j2 - 1 : Nat) : Int) := by omega
      simp (disch := omega) [c1, c3, r1, g0, g1, gl]
      have := ih (i2 + 1) (j2 - 1) (Sort.swp d i2 j2) (by omega) (by omega) (by omega) (by omega) (by rw [swp_size]; exact hd) [] ks Q hx
      rw [e1]
      simpa using this
theorem parteq_run (hb : b < h.length) (d : Array Int) (a e pv : Nat) (hn : d.size < 1152921504606846976) (hae : a + 2 < e) (he : e ≤ d.size) (hpa : a ≤ pv) (hpe : pv < e) :
    Run T f_slices_partitionEqualOrdered_uint64 [.hs 1 b 0 d.size, .int .i64 a, .int .i64 e, .int .i64 pv] (SD h b d)
      (.int .i64 ((Sort.partitionEqual (Sort.ltInt) d a e pv).1 : Nat)) (SD h b (Sort.partitionEqual (Sort.ltInt) d a e pv).2) := by
  generalize hP : Sort.partitionEqual (Sort.ltInt) d a e pv = P
  refine Run.start t_slices_partitionEqualOrdered_uint64 ?_
  unfold k_slices_partitionEqualOrdered_uint64
  unfold Sort.partitionEqual at hP
  have r1 := SD_row hb d
  have gl := SD_ints d
  have hbs := SD_lt hb d
  have g0 := SD_getN d a (by omega)
  have g1 := SD_getN d pv (by omega)
  obtain ⟨j, hj⟩ : ∃ j, j = e - 1 := ⟨_, rfl⟩
  have e1 : (e : Int) - 1 = (j : Int) := by omega
  simp only [← hj] at hP
  simp (disch := omega) [r1, g0, g1, gl, e1]
  have hd : (Sort.swp d a pv).size = d.size := swp_size _ _ _
  generalize Sort.swp d a pv = d1 at *
  generalize d.size = n at *
  have hl := pe_loop hb a n hn (by omega) (j + 1 - (a + 1)) (a + 1) j d1 (by omega) (by omega) (by omega) (by omega) hd []
  simp only [Int.natCast_add, Int.cast_ofNat_Int, List.append_nil] at hl
  refine hl _ _ ?_
  rw [hP]
  intro j' tl
  simp (disch := omega)
end
theorem share4 {α β γ δ : Type} {P : Prop} (C : α → β → γ → δ → Prop) (R : α → β → γ → δ → Prop) (main : (∀ a b c d, C a b c d → R a b c d) → P) (rest : ∀ a b c d, C a b c d → R a b c d) : P := main rest
theorem Xb_nb {w : Bool} {a b : ACode} {ks : List Kt} {e : Env} {h : Heap} {Q : Ex → Env → Heap → Prop} (h1 : w = false → Xc T a ks e h Q) (h2 : w = true → Xc T b ks e h Q) : Xb T (some (!w)) a b ks e h Q := by
  cases w
  · exact (Xb_dec (c := True) (fun _ => h1 rfl) (fun h => absurd trivial h))
  · exact (Xb_dec (c := False) (fun h => h.elim) (fun _ => h2 rfl))
/-- The rows of h0 but row b are as they were. -/
def Agree (h0 : Heap) (b : Nat) (g : Heap) : Prop := h0.length ≤ g.length ∧ ∀ r, r < h0.length → r ≠ b → g.row r = h0.row r
section
variable {h0 h : Heap} {b : Nat}
theorem Agree.app {g : Heap} (ha : Agree h0 b g) (k : Heap) : Agree h0 b (g ++ k) := ⟨by rw [List.length_append]; have := ha.1; omega, fun r h1 h2 => by
  rw [row_app (by have := ha.1; omega)]; exact ha.2 r h1 h2⟩
theorem Agree.refl : Agree h0 b h0 := ⟨Nat.le_refl _, fun _ _ _ => rfl⟩
theorem Agree.hb (ha : Agree h0 b h) (hb0 : b < h0.length) : b < h.length := Nat.lt_of_lt_of_le hb0 ha.1
theorem thawD (hb : b < h.length) (d : Array Int) (n : Nat) (hd : d.size = n) : ((hsCells (SD h b d) 1 b 0 n).bind fun cs => if chunkOk 1 false cs = true then some (V.ps 1 (chunk 1 false n cs)) else none) = some (.ps 1 (u64L d.toList)) := by
  subst hd
  have hc : hsCells (SD h b d) 1 b 0 d.size = some (u64L d.toList) := by
    simp [hsCells, SD_row hb, SD_ints]
    exact List.take_of_length_le (by rw [SD_ints]; exact Nat.le_refl _)
  have ck : chunkOk 1 false (u64L d.toList) = true := by simp [chunkOk, u64L]
  rw [hc, Option.bind_some, if_pos ck, chunk1 _ _ (SD_ints d)]
theorem pdq_fun (n : Nat) (a e lim : Nat) (d : Array Int) (hd : d.size = n) (hn : n < 64) (hlim : lim < 1000) (hae : a ≤ e) (he : e ≤ n)
    (hl : ∀ ks Q, (∀ g d' env, Agree h0 b g → Sort.PermIn a e d d' → Sort.SortedIn (Sort.ltInt) a e d' → Xk T ks .r env (SD g b d') Q) →
      Xc T l_slices_pdqsortOrdered_uint64_0 ks [(0, .hs 1 b 0 n), (1, .int .i64 a), (2, .int .i64 e), (3, .int .i64 lim), (8, .bool true), (9, .bool true)] (SD h b d) Q) :
    ∃ g d', Agree h0 b g ∧ Sort.PermIn a e d d' ∧ Sort.SortedIn (Sort.ltInt) a e d' ∧ Run T f_slices_pdqsortOrdered_uint64 [.hs 1 b 0 n, .int .i64 a, .int .i64 e, .int .i64 lim] (SD h b d) (.tup []) (SD g b d') := by
  have key : ∃ v h', (v = .tup [] ∧ ∃ g d', h' = SD g b d' ∧ Agree h0 b g ∧ Sort.PermIn a e d d' ∧ Sort.SortedIn (Sort.ltInt) a e d') ∧ Run T f_slices_pdqsortOrdered_uint64 [.hs 1 b 0 n, .int .i64 a, .int .i64 e, .int .i64 lim] (SD h b d) v h' := by
    refine Run.startP t_slices_pdqsortOrdered_uint64 ?_
    unfold k_slices_pdqsortOrdered_uint64
    simp (disch := omega)
    refine hl _ _ fun g d' env h1 h2 h3 => ?_
    simp (disch := omega)
    exact ⟨g, d', rfl, h1, h2, h3⟩
  obtain ⟨v, h', ⟨rfl, g, d', rfl, h1, h2, h3⟩, hr⟩ := key
  exact ⟨g, d', h1, h2, h3, hr⟩
set_option maxHeartbeats 4000000 in
theorem pdq_loop (hb0 : b < h0.length) (hs : Sort.SWO (Sort.ltInt)) (n : Nat) (hn : n < 64) : ∀ (m a e lim : Nat) (d : Array Int) (h : Heap) (wb wp : Bool), e - a ≤ m → a ≤ e → e ≤ n → d.size = n → lim < 1000 → Sort.Below (Sort.ltInt) a e d → Agree h0 b h → ∀ ks Q,
    (∀ g d' env, Agree h0 b g → Sort.PermIn a e d d' → Sort.SortedIn (Sort.ltInt) a e d' → Xk T ks .r env (SD g b d') Q) →
      Xc T l_slices_pdqsortOrdered_uint64_0 ks [(0, .hs 1 b 0 n), (1, .int .i64 a), (2, .int .i64 e), (3, .int .i64 lim), (8, .bool wb), (9, .bool wp)] (SD h b d) Q := by
  intro m
  induction m using Nat.strongRecOn with
  | ind m ih =>
  intro a e lim d h wb wp hm hae he hd hlim hB ha ks Q hx
  rw [L_slices_pdqsortOrdered_uint64_0]; unfold bl_slices_pdqsortOrdered_uint64_0
  obtain ⟨l, hl⟩ : ∃ l, l = e - a := ⟨_, rfl⟩
  have e1 : (e : Int) - a = (l : Int) := by omega
  have hb := ha.hb hb0
  by_cases c1 : l ≤ 12
  · have c1' : (l : Int) ≤ 12 := by omega
    subst hd
    simp (disch := omega) [e1, c1, c1']
    rw [Xf_run (ins_run hb d a e (by omega) hae he)]
    have hi := Sort.insertionSort_holds hs d a e hae he
    simp (disch := omega)
    exact hx _ _ _ ha hi.1 hi.2
  have c1' : ¬ (l : Int) ≤ 12 := by omega
  by_cases c2 : lim = 0
  · subst hd
    simp (disch := omega) [e1, c1, c1', c2]
    rw [Xf_run (heap_run hb d a e (by omega) (by omega) he)]
    have hi := Sort.heapSort_holds hs d a e hae he
    simp (disch := omega)
    exact hx _ _ _ ha hi.1 hi.2
  have c2' : ¬ (lim : Int) = 0 := by omega
  simp (disch := omega) [e1, c1, c1', c2, c2']
  refine share4 (fun (g : Heap) (d1 : Array Int) (lim : Nat) (_ : List (Nat × V)) => Agree h0 b g ∧ Sort.PermIn a e d d1 ∧ lim < 1000) ?R1 (fun hR => ?main1) ?rest1
  case main1 =>
    apply Xb_nb
    · intro hw
      simp (disch := omega)
      obtain ⟨z, hz⟩ := brk_run hb d a e (by omega) (by omega) (by omega)
      rw [hd] at hz
      have haa := ha.app [some [z]]
      have hp := Sort.breakPatterns_holds d a e hae (by omega)
      obtain ⟨d1, hd1⟩ : ∃ d1, d1 = Sort.breakPatterns d a e := ⟨_, rfl⟩
      obtain ⟨g, hg⟩ : ∃ g, g = h ++ [some [z]] := ⟨_, rfl⟩
      rw [← hd1, ← hg] at hz
      rw [← hd1] at hp
      rw [← hg] at haa
      rw [Xf_run hz]
      obtain ⟨lim', hlim'⟩ : ∃ lim', lim' = lim - 1 := ⟨_, rfl⟩
      have e2 : (lim : Int) - 1 = (lim' : Int) := by omega
      simp (disch := omega) [e2]
      generalize ([] : List (Nat × V)) = tl
      exact hR g d1 lim' tl ⟨haa, hp, by omega⟩
    · intro hw
      simp (disch := omega)
      generalize [((35 : Nat), V.bool (!wb))] = tl
      exact hR h d lim tl ⟨ha, Sort.permIn_refl _ _ _, hlim⟩
  case rest1 =>
    intro g d1 lim tl ⟨hg, hp1, hlim⟩
    have hd1 : d1.size = n := by rw [hp1.1]; exact hd
    have hB1 := hB.perm (by omega) hp1
    obtain ⟨hZ, hz⟩ := choose_run d1 a e (by omega) (by omega) (by omega)
    have th := thawD (hg.hb hb0) d1 n hd1
    have hpv := Sort.choosePivot_holds (Sort.ltInt) d1 a e (by omega)
    simp (disch := omega) [th]
    rw [Xp_run hz (by simp [u64L_hfs]) (by simp) (by simp [scalar])]
    generalize Sort.choosePivot (Sort.ltInt) d1 a e = pv at *
    obtain ⟨p, hint⟩ := pv
    obtain ⟨hp2, hp3⟩ := hpv
    simp only at hp2 hp3
    obtain ⟨g1, hgg⟩ : ∃ g1, g1 = g := ⟨_, rfl⟩
    rw [← hgg] at hg ⊢
    have hg1 := hg
    simp (disch := omega)
    refine share4 (fun (d2 : Array Int) (p : Nat) (hint : Int) (_ : List (Nat × V)) => Sort.PermIn a e d d2 ∧ a ≤ p ∧ p < e) ?R2 (fun hR => ?main2) ?rest2
    case main2 =>
      refine Xb_dec ?m2a ?m2b
      case m2b =>
        intro hw
        simp (disch := omega)
        generalize [((50 : Nat), V.bool (decide (hintN hint = 2)))] = tl
        generalize hintN hint = hint
        obtain ⟨d2, hd2⟩ : ∃ d2, d2 = d1 := ⟨_, rfl⟩
        obtain ⟨p2, hpp2⟩ : ∃ p2, p2 = p := ⟨_, rfl⟩
        rw [← hd2, ← hpp2]
        exact hR d2 p2 hint tl ⟨by rw [hd2]; exact hp1, by omega, by omega⟩
      case m2a =>
        intro hw
        simp (disch := omega)
        have hr := rev_run (hg1.hb hb0) d1 a e (by omega) (by omega) (by omega)
        rw [hd1] at hr
        have hp := Sort.reverseRange_holds d1 a e hae (by omega)
        obtain ⟨d2, hd2⟩ : ∃ d2, d2 = Sort.reverseRange d1 a e := ⟨_, rfl⟩
        rw [← hd2] at hr hp
        rw [Xf_run hr]
        obtain ⟨p', hp'⟩ : ∃ p', p' = e - 1 - (p - a) := ⟨_, rfl⟩
        have e2 : (e : Int) - 1 - (p - a) = (p' : Int) := by omega
        simp (disch := omega) [e2]
        exact hR d2 p' 1 [] ⟨Sort.permIn_trans _ _ _ a e hp1 hp, by omega, by omega⟩
    case rest2 =>
      intro d2 p hint tl ⟨hp4, hp5, hp6⟩
      have hd2 : d2.size = n := by rw [hp4.1]; exact hd
      have hB2 := hB.perm (by omega) hp4
      clear hz hd1 hB1 hp1 hp2 hp3 hB
      have hb1 := hg1.hb hb0
      have hae2 : a < e := by omega
      have he2 : e ≤ d2.size := by omega
      have hpi := pins_run hb1 d2 a e (by omega) hae2 he2
      have hpj := Sort.partialInsertionSort_holds hs d2 a e hae2 he2 hB2
      rw [hd2] at hpi
      have r1 := SD_row hb1 d2
      have gp := SD_getN d2 p (by omega)
      cases wb <;> cases wp <;> simp (disch := omega)
      rotate_left 3
      refine Xb_dec (fun hw => ?_) (fun hw => ?_)
      simp (disch := omega)
      rw [Xf_run hpi]
      simp (disch := omega)
      refine Xb_intro (fun h1 => ?_) (fun h1 => ?_)
      · simp (disch := omega)
        exact hx _ _ _ hg1 (Sort.permIn_trans _ _ _ a e hp4 hpj.1) (hpj.2 h1)
      obtain ⟨d5, hd5⟩ : ∃ d5, d5 = (Sort.partialInsertionSort (Sort.ltInt) d2 a e).1 := ⟨_, rfl⟩
      have hpm := hpj.1
      rw [← hd5] at hpm ⊢
      replace hp4 := Sort.permIn_trans _ _ _ a e hp4 hpm
      replace hB2 := hB2.perm (by omega) hpm
      replace hd2 : d5.size = n := by rw [hpm.1]; exact hd2
      replace he2 : e ≤ d5.size := by omega
      clear hpi hpj hd5 hpm
      obtain ⟨d2, hd6⟩ : ∃ x, x = d5 := ⟨_, rfl⟩
      rw [← hd6] at hp4 hB2 hd2 he2 ⊢
      clear hd6
      replace r1 := SD_row hb1 d2
      replace gp := SD_getN d2 p (by omega)
      simp (disch := omega)
      rotate_left 1
      simp (disch := omega) [hw]
      all_goals
        refine lift (R := ?_) (fun hR => ?main4) ?rest4
        case main4 =>
          refine Xg_dec (fun c3 => ?_) (fun c3 => ?_)
          · have i1 : ((a : Int) - 1).toNat = a - 1 := by omega
            have ga := SD_getN d2 (a - 1) (by omega)
            simp (disch := omega) [c3, i1, r1, ga, gp, Less_p]
            refine Xb_decn (fun c4 => ?_) (fun c4 => ?_)
            · simp (disch := omega)
              have hq := parteq_run hb1 d2 a e p (by omega) (by omega) (by omega) hp5 hp6
              have hnl : Sort.ltInt d2[a - 1]! d2[p]! = false := decide_eq_false c4
              have hre := Sort.round_eq hs (Sort.partitionEqual_holds (Sort.ltInt)) c3 hp5 hp6 he2 hB2 hnl rfl (mid := (Sort.partitionEqual (Sort.ltInt) d2 a e p).1) (d4 := (Sort.partitionEqual (Sort.ltInt) d2 a e p).2)
              generalize Sort.partitionEqual (Sort.ltInt) d2 a e p = P at hq hre
              obtain ⟨mid, d4⟩ := P
              obtain ⟨q1, q2, q3, q4, q5⟩ := hre
              rw [hd2] at hq
              rw [Xf_run hq]
              simp (disch := omega)
              simp only at q1 q2 q3 q4 q5
              refine ih (e - mid) (by omega) mid e lim d4 g1 _ _ (Nat.le_refl _) q2 he (by rw [q3]; exact hd2) hlim q4 hg1 ks Q fun g' d' env k1 k2 k3 => ?_
              obtain ⟨k4, k5⟩ := q5 d' k2 k3
              exact hx g' d' env k1 (Sort.permIn_trans _ _ _ a e hp4 k4) k5
            · simp (disch := omega) [c4]
              exact hR trivial
          · simp (disch := omega) [c3]
            exact hR trivial
        case rest4 =>
          have hq := partn_run hb1 d2 a e p (by omega) (by omega) (by omega) hp5 hp6
          have hre := Sort.round_part hs (Sort.partition_holds (Sort.ltInt)) hp5 hp6 he2 hB2 rfl (mid := (Sort.partition (Sort.ltInt) d2 a e p).1) (ap := (Sort.partition (Sort.ltInt) d2 a e p).2.1) (d4 := (Sort.partition (Sort.ltInt) d2 a e p).2.2)
          generalize Sort.partition (Sort.ltInt) d2 a e p = P at hq hre
          obtain ⟨mid, ap, d4⟩ := P
          obtain ⟨q1, q2, q3, q4, q5, q6, q7⟩ := hre
          rw [hd2] at hq
          rw [Xf_run hq]
          simp only at q1 q2 q3 q4 q5 q6 q7
          simp (disch := omega)
          have hd4 : d4.size = n := by rw [q3]; exact hd2
          refine Xb_dec (fun c5 => ?_) (fun c5 => ?_)
          · simp (disch := omega)
            obtain ⟨g', d', k1, k2, k3, hrun⟩ := pdq_fun n a mid lim d4 hd4 hn hlim q1 (by omega) (fun ks Q hh => ih (mid - a) (by omega) a mid lim d4 g1 true true (Nat.le_refl _) q1 (by omega) hd4 hlim q4 hg1 ks Q hh)
            rw [Xf_run hrun]
            simp (disch := omega)
            obtain ⟨k4, k5⟩ := q6 d' k2 k3
            have := ih (e - (mid + 1)) (by omega) (mid + 1) e lim d' g' (decide ((l : Int) / 8 ≤ mid - a)) ap (Nat.le_refl _) (by omega) he (by rw [k2.1]; exact hd4) hlim k4 k1 ks Q fun g2 d5 env k6 k7 k8 => by
              obtain ⟨k9, k10⟩ := k5 d5 k7 k8
              exact hx g2 d5 env k6 (Sort.permIn_trans _ _ _ a e hp4 k9) k10
            simpa using this
          · simp (disch := omega)
            obtain ⟨g', d', k1, k2, k3, hrun⟩ := pdq_fun n (mid + 1) e lim d4 hd4 hn hlim (by omega) (by omega) (fun ks Q hh => ih (e - (mid + 1)) (by omega) (mid + 1) e lim d4 g1 true true (Nat.le_refl _) (by omega) (by omega) hd4 hlim q5 hg1 ks Q hh)
            simp only [Int.natCast_add, Int.cast_ofNat_Int] at hrun
            rw [Xf_run hrun]
            simp (disch := omega)
            obtain ⟨k4, k5⟩ := q7 d' k2 k3
            have := ih (mid - a) (by omega) a mid lim d' g' (decide ((l : Int) / 8 ≤ e - mid)) ap (Nat.le_refl _) (by omega) (by omega) (by rw [k2.1]; exact hd4) hlim k4 k1 ks Q fun g2 d5 env k6 k7 k8 => by
              obtain ⟨k9, k10⟩ := k5 d5 k7 k8
              exact hx g2 d5 env k6 (Sort.permIn_trans _ _ _ a e hp4 k9) k10
            simpa using this
theorem sortf_run (hb0 : b < h0.length) (ha : Agree h0 b h) (d : Array Int) (hn : d.size < 64) :
    ∃ g d', Agree h0 b g ∧ Sort.PermIn 0 d.size d d' ∧ Sort.SortedIn (Sort.ltInt) 0 d.size d' ∧ Run T f_slices_Sort_uint64_uint64 [.hs 1 b 0 d.size] (SD h b d) (.tup []) (SD g b d') := by
  have hlim := bitsLen_le d.size (by omega)
  obtain ⟨g, d', k1, k2, k3, hrun⟩ := pdq_fun (h0 := h0) (b := b) (h := h) d.size 0 d.size (Sort.bitsLen d.size) d rfl hn (by omega) (by omega) (by omega) (fun ks Q hh => pdq_loop hb0 Sort.swo_ltInt d.size hn d.size 0 d.size (Sort.bitsLen d.size) d h true true (by omega) (by omega) (by omega) rfl (by omega) (Or.inl rfl) ha ks Q hh)
  refine ⟨g, d', k1, k2, k3, ?_⟩
  refine Run.start t_slices_Sort_uint64_uint64 ?_
  unfold k_slices_Sort_uint64_uint64
  simp (disch := omega)
  rw [Xp_run (len_run [] d.size (by omega)) (by simp) (by simp) (by simp)]
  simp (disch := omega)
  rw [Xf_run (by simpa using hrun)]
  simp (disch := omega)
end
end Ev
