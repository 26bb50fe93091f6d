/- Bytes: rows of them as abstract values; how many frames; small functions of the references. The law PoolNone: a nil pool has nothing. Wear: which block is worn least, which most. Wear: the reference's answers, gaps, what may be written. Sorting whole numbers: the library's insertion sort, held against its plain text. Sorting few whole numbers: slices.Sort of at most twelve. Whole numbers that stand beside equal ones left out: slices.Compact. Whole numbers taken out of a slice of the heap: slices.DeleteFunc. A pool: counts, the blocks that are free, and what is made. The law PoolRoom: a pool's room is how many pages can be used. Each theorem states its own conditions. -/
import Derived.Test.YtjinlddplcopgaaMCode
import Derived.Test.YtjinlddplcopgaaMR01
import Derived.Sort.AssemblyPlain
set_option linter.all false
namespace Ev
open Go
set_option maxRecDepth 10000
attribute [-simp] getElem?_pos getElem?_neg
@[simp] theorem row_app_k (h l : Heap) (k : Nat) : Heap.row (h ++ l) (h.length + k) = Heap.row l k := by
  simp [Heap.row, List.getElem?_append_right]
@[simp] theorem row_app_0 (h l : Heap) : Heap.row (h ++ l) h.length = Heap.row l 0 := by
  simp [Heap.row, List.getElem?_append_right]
def bys (b : List UInt8) : List V := b.map byteV
theorem bys_len (b : List UInt8) : (bys b).length = b.length := by simp [bys]
theorem bys_get (b : List UInt8) (i : Nat) : (bys b)[i]? = (b[i]?).map byteV := by simp [bys]
theorem byteV_def (c : UInt8) : byteV c = .int .u8 (c.toNat : Int) := rfl
theorem u8_inj {a b : UInt8} : ((a.toNat : Int) = b.toNat) ↔ a = b := ⟨fun h => UInt8.toNat_inj.1 (by omega), fun h => by rw [h]⟩
/-- A number of eight bits, as a byte. -/
theorem byte_of (n : Int) (h0 : 0 ≤ n) (h1 : n < 256) : V.int .u8 n = byteV (UInt8.ofNat n.toNat) := by
  rw [byteV_def]
  congr 1
  have := UInt8.toNat_ofNat_of_lt' (n := n.toNat) (by show n.toNat < 256; omega)
  omega
@[simp] theorem eq_byte (a b : UInt8) : eqV .int (byteV a) (byteV b) = some (decide (a = b)) := by
  rw [byteV_def, byteV_def, eq_int]
  congr 1
  exact decide_eq_decide.2 u8_inj
@[simp] theorem conv_byte (h : Heap) (k : IntKind) (c : UInt8) : convV h (.i k) (byteV c) = some (.int k (k.wrap (c.toNat : Int))) := rfl
@[simp] theorem cells_byte (c : UInt8) : V.cells (byteV c) = [byteV c] := rfl
@[simp] theorem one_byte (c : UInt8) : V.one (byteV c) = true := rfl
@[simp] theorem hf_byte (c : UInt8) : V.hf (byteV c) = true := rfl
theorem Ty.bytes {b : Nat} {x : V} (h : Ty (.sl false b [.i .u8]) x) : ∃ l : List UInt8, x = .ps 1 (bys l) ∧ l.length * b ≤ 140737488351232 := by
  obtain ⟨xs, rfl, h1, h2⟩ := h.elems_one
  obtain ⟨l, rfl, _⟩ := exists_map byteV (fun _ => True) xs fun y hy => by
    obtain ⟨n, rfl, h3, h4⟩ := (h2 y hy).int
    have h3 : 0 ≤ n := h3
    have h4 : n ≤ 255 := h4
    exact ⟨_, byte_of n h3 (by omega), trivial⟩
  exact ⟨l, rfl, by simpa using h1⟩
section
variable {ks : List Kt} {ops : List AOpr} {K : Kp} {e : Env} {h : Heap} {Q : Ex → Env → Heap → Prop} {d : Nat} {lent : Bool}
end
theorem awake23 : ∃ h', Run T f_law23_awake [] [] (.bool true) h' := Run.closed (n := 200) (by kernel_rfl)
section
variable {ks : List Kt} {ops : List AOpr} {K : Kp} {e : Env} {h : Heap} {Q : Ex → Env → Heap → Prop} {d : Nat} {lent : Bool}
theorem awake23_p : Xp T f_law23_awake (some ([], lent)) h (some d) ops K ks e Q = Xo T ops K ks ((d, .bool true) :: e) h Q := by
  obtain ⟨h', r⟩ := awake23
  exact Xp_run r (by simp) rfl (by simp [scalar])
end
section
variable {ks : List Kt} {ops : List AOpr} {K : Kp} {e : Env} {h : Heap} {Q : Ex → Env → Heap → Prop} {d : Nat} {lent : Bool}
end
def ofS (c : List Int) (b : Int) : Int := if b < 0 then 0 else max (c.getD b.toNat 0) 0
theorem ofS_ge (c : List Int) (b : Int) : 0 ≤ ofS c b := by unfold ofS; split <;> omega
theorem Of_run (c : List Int) (b : Int) (h : Heap) (hc : c.length < 4611686018427387904) : Run T f_wear_Of [.ps 1 (ints c), .int .i64 b] h (.int .i64 (ofS c b)) h := by
  refine Run.start t_wear_Of ?_
  unfold k_wear_Of
  simp (disch := omega)
  apply Xg_decn
  · intro c1
    simp (disch := omega) [c1, ints_len]
    apply Xb_dec
    · intro c2
      simp (disch := omega) [ofS, c1]
      rw [List.getElem?_eq_none (by omega)]
      rfl
    · intro c2
      have hb : b.toNat < c.length := by omega
      simp (disch := omega) [ofS, c1, ints_get, List.getElem?_eq_getElem hb]
  · intro c1
    simp (disch := omega) [c1, ofS]
section
variable {ks : List Kt} {ops : List AOpr} {K : Kp} {e : Env} {h : Heap} {Q : Ex → Env → Heap → Prop} {d : Nat} {lent : Bool}
theorem Of_p (c : List Int) (b : Int) (hc : c.length < 4611686018427387904) : Xp T f_wear_Of (some ([.ps 1 (ints c), .int .i64 b], lent)) h (some d) ops K ks e Q = Xo T ops K ks ((d, .int .i64 (ofS c b)) :: e) h Q :=
  Xp_run (Of_run c b [] hc) (by simp [ints_hfs]) rfl (by simp [scalar])
end
def aheadL (c : List Int) (a b : Int) : Bool := decide (ofS c a < ofS c b) || (decide (ofS c a = ofS c b) && decide (a < b))
theorem Least1_run (c : List Int) (a b : Int) (g : Heap) (hg : g.row 0 = some [.ps 1 (ints c)]) (hc : c.length < 4611686018427387904) : Run T f_wear_Least_1 [.int .i64 a, .int .i64 b, .ptr 0 0] g (.bool (aheadL c a b)) g := by
  refine Run.start t_wear_Least_1 ?_
  unfold k_wear_Least_1
  simp (disch := omega) [hg, Of_p]
  apply Xg_decn
  · intro c1
    simp (disch := omega) [c1]
    apply Xg_dec
    · intro c2
      simp (disch := omega) [c2, aheadL]
    · intro c2
      simp (disch := omega) [c1, c2, aheadL]
  · intro c1
    simp (disch := omega) [c1, aheadL]
/-- The foremost of a list. -/
def bestS (ahead : Int → Int → Bool) : List Int → Int
  | [] => 0
  | x :: r => r.foldl (fun out b => if ahead b out then b else out) x
theorem bestS_app (ahead : Int → Int → Bool) (l : List Int) (b : Int) (hl : l ≠ []) : bestS ahead (l ++ [b]) = if ahead b (bestS ahead l) then b else bestS ahead l := by
  cases l with
  | nil => exact absurd rfl hl
  | cons x r =>
    show (r ++ [b]).foldl _ x = _
    rw [List.foldl_append]; rfl
theorem bestS_nil (ahead : Int → Int → Bool) : bestS ahead [] = 0 := rfl
theorem bestS_one (ahead : Int → Int → Bool) (x : Int) : bestS ahead [x] = x := rfl
theorem best_loop (f : Nat) (ahead : Int → Int → Bool) (l : List Int) (cap : List V) (g : Heap) (hf : T.free f = true) (hl : l.length < 4611686018427387904)
    (hah : ∀ a b, Run T f (.int .i64 a :: .int .i64 b :: cap) g (.bool (ahead a b)) g) : ∀ (k i : Nat), i + k = l.length → ∀ ks Q,
      Xk T ks (.x 0) [(0, .ps 1 (ints l)), (1, .fn f cap), (6, .int .i64 (bestS ahead l)), (9, .ps 1 (ints l)), (10, .int .i64 l.length), (11, .int .i64 l.length), (12, .bool false)] g Q →
      Xc T l_wear_best_0 ks [(0, .ps 1 (ints l)), (1, .fn f cap), (6, .int .i64 (bestS ahead (l.take i))), (9, .ps 1 (ints l)), (10, .int .i64 l.length), (11, .int .i64 i)] g Q := by
  intro k
  induction k with
  | zero =>
    intro i hk ks Q hQ
    rw [L_wear_best_0]; unfold bl_wear_best_0
    have e1 : i = l.length := by omega
    subst e1
    simp (disch := omega)
    simpa using hQ
  | succ k ih =>
    intro i hk ks Q hQ
    rw [L_wear_best_0]; unfold bl_wear_best_0
    have e1 : i < l.length := by omega
    have e3 : (i : Int) < l.length := by omega
    have ht : l.take (i + 1) = l.take i ++ [l[i]] := by rw [List.take_succ, List.getElem?_eq_getElem e1]; rfl
    have hn := ih (i + 1) (by omega) ks Q hQ
    simp (disch := omega) [e3, ints_get, List.getElem?_eq_getElem e1]
    rcases Nat.eq_zero_or_pos i with h0 | h0
    · subst h0
      simp (disch := omega)
      rw [ht] at hn
      simpa [bestS_one] using hn
    · have h1 : ¬ (i : Int) = 0 := by omega
      have h2 : i ≠ 0 := by omega
      have hne : l.take i ≠ [] := by
        intro hh
        rcases List.take_eq_nil_iff.1 hh with e | e
        · omega
        · rw [e] at e1; simp at e1
      rw [ht, bestS_app _ _ _ hne] at hn
      simp (disch := omega) [h2, hf]
      rw [Xf_run (hah _ _)]
      simp (disch := omega)
      apply Xb_intro
      · intro hb
        simp (disch := omega)
        rw [hb] at hn
        simpa using hn
      · intro hb
        simp (disch := omega)
        rw [hb] at hn
        simpa using hn
theorem best_run (f : Nat) (ahead : Int → Int → Bool) (l : List Int) (cap : List V) (g : Heap) (hf : T.free f = true) (hl : l.length < 4611686018427387904)
    (hah : ∀ a b, Run T f (.int .i64 a :: .int .i64 b :: cap) g (.bool (ahead a b)) g) : Run T f_wear_best [.ps 1 (ints l), .fn f cap] g (.tup [.int .i64 (bestS ahead l), .bool (decide (l ≠ []))]) g := by
  refine Run.start t_wear_best ?_
  unfold k_wear_best
  simp (disch := omega) [ints_len]
  have := best_loop f ahead l cap g hf hl hah l.length 0 (by omega)
  simp [bestS_nil] at this
  refine this _ _ ?_
  simp (disch := omega) [ints_len]
  cases l <;> simp
theorem Least_run (l c : List Int) (hl : l.length < 4611686018427387904) (hc : c.length < 4611686018427387904) : Run T f_wear_Least [.ps 1 (ints l), .ps 1 (ints c)] [] (.tup [.int .i64 (bestS (aheadL c) l), .bool (decide (l ≠ []))]) [some [.ps 1 (ints c)]] := by
  refine Run.start t_wear_Least ?_
  unfold k_wear_Least
  simp (disch := omega)
  have := best_run f_wear_Least_1 (aheadL c) l [.ptr 0 0] [some [.ps 1 (ints c)]] rfl hl (fun a b => Least1_run c a b _ (by simp) hc)
  simp at this
  rw [Xf_run this]
  simp (disch := omega)
section
variable {ks : List Kt} {ops : List AOpr} {K : Kp} {e : Env} {h : Heap} {Q : Ex → Env → Heap → Prop} {d : Nat} {lent : Bool}
theorem Least_p (l c : List Int) (hl : l.length < 4611686018427387904) (hc : c.length < 4611686018427387904) : Xp T f_wear_Least (some ([.ps 1 (ints l), .ps 1 (ints c)], lent)) h (some d) ops K ks e Q = Xo T ops K ks ((d, .tup [.int .i64 (bestS (aheadL c) l), .bool (decide (l ≠ []))]) :: e) h Q :=
  Xp_run (Least_run l c hl hc) (by simp [ints_hfs]) (by simp) (by simp [scalar])
end
/-- An index of the foremost. -/
def Ix (ahead : Int → Int → Bool) (l : List Int) (k : Int) : Prop := (l = [] ∧ k = -1) ∨ (0 ≤ k ∧ k < l.length ∧ l[k.toNat]? = some (bestS ahead l))
theorem Ix.step {ahead : Int → Int → Bool} {l : List Int} {i : Nat} {k : Int} (h : Ix ahead (l.take i) k) (hi : i < l.length) (k' : Int) (hk : k' = if k < 0 then (i : Int) else if ahead l[i] (bestS ahead (l.take i)) then (i : Int) else k) : Ix ahead (l.take (i + 1)) k' := by
  have ht : l.take (i + 1) = l.take i ++ [l[i]] := by rw [List.take_succ, List.getElem?_eq_getElem hi]; rfl
  rcases h with ⟨h1, h2⟩ | ⟨h1, h2, h3⟩
  · rw [if_pos (by omega)] at hk
    have hi0 : i = 0 := by
      rcases List.take_eq_nil_iff.1 h1 with e | e
      · exact e
      · rw [e] at hi; simp at hi
    subst hi0 hk
    rw [ht]
    exact .inr ⟨by simp, by simp, by simp [bestS_one]⟩
  · rw [if_neg (by omega)] at hk
    rw [List.length_take] at h2
    have hne : l.take i ≠ [] := fun hh => by rw [hh] at h3; simp at h3
    rw [List.getElem?_take, if_pos (by omega)] at h3
    refine .inr ?_
    rw [ht, bestS_app _ _ _ hne, List.length_append, List.length_take, List.length_singleton]
    split at hk
    · rename_i ha
      rw [if_pos ha]
      subst hk
      refine ⟨by omega, by omega, ?_⟩
      rw [List.getElem?_append_right (by simp; omega)]
      have : ((i : Int)).toNat - (l.take i).length = 0 := by rw [List.length_take]; omega
      rw [this]; rfl
    · rename_i ha
      rw [if_neg ha]
      subst hk
      refine ⟨h1, by omega, ?_⟩
      rw [List.getElem?_append_left (by rw [List.length_take]; omega), List.getElem?_take, if_pos (by omega)]
      exact h3
theorem Index_loop (h : Heap) (l : List Int) (x : Int) (hb : l.length < 4611686018427387904) : ∀ (k i : Nat), i + k = l.length → ∀ ks Q,
    (x ∉ l.drop i → Xk T ks (.x 0) [(0, .ps 1 (ints l)), (1, .int .i64 x), (7, .int .i64 l.length), (8, .int .i64 l.length), (9, .bool false)] h Q) →
    (x ∈ l.drop i → ∀ j : Nat, Xk T ks .r [(4, .int .i64 j)] h Q) →
    Xc T l_slices_Index_int_int_0 ks [(0, .ps 1 (ints l)), (1, .int .i64 x), (7, .int .i64 l.length), (8, .int .i64 i)] h Q := by
  intro k
  induction k with
  | zero =>
    intro i hk ks Q h1 h2
    rw [L_slices_Index_int_int_0]; unfold bl_slices_Index_int_int_0
    have e0 : i = l.length := by omega
    subst e0
    simp (disch := omega)
    exact h1 (by simp)
  | succ k ih =>
    intro i hk ks Q h1 h2
    rw [L_slices_Index_int_int_0]; unfold bl_slices_Index_int_int_0
    have e1 : i < l.length := by omega
    have e3 : (i : Int) < l.length := by omega
    have da : l.drop i = l[i] :: l.drop (i + 1) := List.drop_eq_getElem_cons e1
    simp (disch := omega) [ints_get, e3, List.getElem?_eq_getElem e1]
    apply Xb_dec
    · intro he
      simp (disch := omega)
      exact h2 (by rw [da, ← he]; simp) i
    · intro hne
      simp (disch := omega)
      have := ih (i + 1) (by omega) ks Q (fun hh => h1 (by rw [da, List.mem_cons]; exact fun q => q.elim hne hh)) (fun hh => h2 (by rw [da, List.mem_cons]; exact .inr hh))
      simpa using this
theorem Index_run (l : List Int) (x : Int) (h : Heap) (hb : l.length < 4611686018427387904) : ∃ j : Int, (0 ≤ j ↔ x ∈ l) ∧ Run T f_slices_Index_int_int [.ps 1 (ints l), .int .i64 x] h (.int .i64 j) h := by
  obtain ⟨v, h', ⟨k, rfl, rfl, hk⟩, hr⟩ := Run.startP (P := fun v h' => ∃ k : Int, v = .int .i64 k ∧ h' = h ∧ (0 ≤ k ↔ x ∈ l)) t_slices_Index_int_int (vs := [.ps 1 (ints l), .int .i64 x]) (h := h) (by
    unfold k_slices_Index_int_int
    simp (disch := omega) [ints_len]
    have := Index_loop h l x hb l.length 0 (by omega)
    simp at this
    refine this _ _ (fun hx => ?_) (fun hx j => ?_)
    · simp (disch := omega) [hx]
    · simp (disch := omega) [hx])
  exact ⟨k, hk, hr⟩
theorem Contains_run (l : List Int) (x : Int) (h : Heap) (hb : l.length < 4611686018427387904) : Run T f_slices_Contains_int_int [.ps 1 (ints l), .int .i64 x] h (.bool (decide (x ∈ l))) h := by
  refine Run.start t_slices_Contains_int_int ?_
  unfold k_slices_Contains_int_int
  obtain ⟨j, hj, hr⟩ := Index_run l x [] hb
  simp (disch := omega)
  rw [Xp_run hr (by simp [ints_hfs]) rfl (by simp [scalar])]
  simp (disch := omega) [hj]
section
variable {ks : List Kt} {ops : List AOpr} {K : Kp} {e : Env} {h : Heap} {Q : Ex → Env → Heap → Prop} {d : Nat} {lent : Bool}
theorem Contains_p (l : List Int) (x : Int) (hl : l.length < 4611686018427387904) : Xp T f_slices_Contains_int_int (some ([.ps 1 (ints l), .int .i64 x], lent)) h (some d) ops K ks e Q = Xo T ops K ks ((d, .bool (decide (x ∈ l))) :: e) h Q :=
  Xp_run (Contains_run l x [] hl) (by simp [ints_hfs]) rfl (by simp [scalar])
end
section
variable {ks : List Kt} {ops : List AOpr} {K : Kp} {e : Env} {h : Heap} {Q : Ex → Env → Heap → Prop} {d : Nat} {lent : Bool}
end
/-- A heap with the row that is sorted. -/
def SD (h : Heap) (b : Nat) (d : Array Int) : Heap := h.set b (some (ints d.toList))
def atD (d : Array Int) (i : Nat) : Int := d[i]!
section
variable {h : Heap} {b : Nat}
theorem SD_len (d : Array Int) : (SD h b d).length = h.length := by simp [SD]
theorem SD_row (hb : b < h.length) (d : Array Int) : (SD h b d).row b = some (ints d.toList) := by unfold SD; rw [row_set hb]
theorem SD_getN (d : Array Int) (i : Nat) (h1 : i < d.size) : (ints d.toList)[i]? = some (.int .i64 (atD d i)) := by
  rw [ints_get]
  simp [h1, atD]
theorem SD_ints (d : Array Int) : (ints d.toList).length = d.size := by simp [ints]
theorem SD_lt (hb : b < h.length) (d : Array Int) : b < List.length (SD h b d) := by rw [SD_len]; exact hb
theorem swp_size (d : Array Int) (i j : Nat) : (Sort.swp d i j).size = d.size := by simp [Sort.swp]
@[simp] theorem SD_swap (d : Array Int) (i j : Nat) : List.set (SD h b d) b (some (((ints d.toList).set i (.int .i64 (atD d j))).set j (.int .i64 (atD d i)))) = SD h b (Sort.swp d i j) := by
  unfold SD Sort.swp atD
  rw [List.set_set]
  congr 2
  simp [ints, List.map_set]
end
theorem isNaN_run (x : Int) (h : Heap) : Run T f_cmp_isNaN_int [.int .i64 x] h (.bool false) h := by
  refine Run.start t_cmp_isNaN_int ?_
  unfold k_cmp_isNaN_int
  simp (disch := omega)
section
variable {ks : List Kt} {ops : List AOpr} {K : Kp} {e : Env} {h : Heap} {Q : Ex → Env → Heap → Prop} {d : Nat} {lent : Bool}
theorem isNaN_p (x : Int) : Xp T f_cmp_isNaN_int (some ([.int .i64 x], lent)) h (some d) ops K ks e Q = Xo T ops K ks ((d, .bool false) :: e) h Q :=
  Xp_run (isNaN_run x []) (by simp) rfl (by simp [scalar])
end
theorem Less_run (x y : Int) (h : Heap) : Run T f_cmp_Less_int [.int .i64 x, .int .i64 y] h (.bool (decide (x < y))) h := by
  refine Run.start t_cmp_Less_int ?_
  unfold k_cmp_Less_int
  simp (disch := omega) [isNaN_p]
section
variable {ks : List Kt} {ops : List AOpr} {K : Kp} {e : Env} {h : Heap} {Q : Ex → Env → Heap → Prop} {d : Nat} {lent : Bool}
theorem Less_p (x y : Int) : Xp T f_cmp_Less_int (some ([.int .i64 x, .int .i64 y], lent)) h (some d) ops K ks e Q = Xo T ops K ks ((d, .bool (decide (x < y))) :: e) h Q :=
  Xp_run (Less_run x y []) (by simp) rfl (by simp [scalar])
end
section
variable {h : Heap} {b : Nat}
theorem ins_in (hb : b < h.length) (a n : Nat) (v1 v6 : V) (a' : Nat) (hv1 : v1 = .int .i64 a) : ∀ (j : Nat) (d : Array Int), d.size = n → n < 4611686018427387904 → j < n → ∀ ks Q,
    (∀ j', Xk T ks (.x 2) [(0, .hs 1 b 0 n), (1, v1), (2, .int .i64 a'), (6, v6), (7, .int .i64 j'), (30, .bool false)] (SD h b (Sort.insInner Sort.ltInt a j d)) Q) →
    Xc T l_slices_insertionSortOrdered_int_0 ks [(0, .hs 1 b 0 n), (1, v1), (2, .int .i64 a'), (6, v6), (7, .int .i64 j)] (SD h b d) Q := by
  intro j
  subst hv1
  induction j with
  | zero =>
    intro d hd hn hj ks Q hQ
    rw [L_slices_insertionSortOrdered_int_0]; unfold bl_slices_insertionSortOrdered_int_0
    have c1 : ¬ (a : Int) < 0 := by omega
    simp (disch := omega) [c1]
    exact hQ 0
  | succ j ih =>
    intro d hd hn hj ks Q hQ
    rw [L_slices_insertionSortOrdered_int_0]; unfold bl_slices_insertionSortOrdered_int_0
    have e1 : j < d.size := by omega
    have e2 : j + 1 < d.size := by omega
    have g1 := SD_getN d j e1
    have g2 := SD_getN d (j + 1) e2
    have r1 := SD_row hb d
    have gl := SD_ints d
    have hbs := SD_lt hb d
    have e5 : ((j : Int) + 1 - 1) = j := by omega
    have e6 : ((j : Int) + 1).toNat = j + 1 := by omega
    by_cases c1 : a < j + 1
    · have c1' : (a : Int) < (j : Int) + 1 := by omega
      simp (disch := omega) [c1, c1', e5, e6, r1, g1, g2, Less_p]
      by_cases c3 : atD d (j + 1) < atD d j
      · have hl : Sort.ltInt d[j + 1]! d[j]! = true := decide_eq_true c3
        have hi := ih (Sort.swp d (j + 1) j) (by rw [swp_size]; exact hd) hn (by omega) ks Q (fun j' => by
          have := hQ j'
          unfold Sort.insInner at this
          rw [if_pos (by simp [hl]; omega)] at this
          exact this)
        simp (disch := omega) [c3, e5, e6, r1, g1, g2, gl]
        exact hi
      · have hl : Sort.ltInt d[j + 1]! d[j]! = false := decide_eq_false c3
        have := hQ ((j : Int) + 1)
        unfold Sort.insInner at this
        rw [if_neg (by simp [hl])] at this
        simp (disch := omega) [c3]
        simpa using this
    · have c1' : ¬ (a : Int) < (j : Int) + 1 := by omega
      have := hQ ((j : Int) + 1)
      unfold Sort.insInner at this
      rw [if_neg (by simp; omega)] at this
      simp (disch := omega) [c1, c1']
      simpa using this
theorem insInner_size (lt : Int → Int → Bool) (a : Nat) : ∀ (j : Nat) (d : Array Int), (Sort.insInner lt a j d).size = d.size
  | 0, d => rfl
  | j + 1, d => by
    unfold Sort.insInner
    split
    · rw [insInner_size lt a j, swp_size]
    · rfl
theorem ins_out (hb : b < h.length) (a e n : Nat) (hn : n < 4611686018427387904) (he : e ≤ n) : ∀ (m i : Nat) (d : Array Int), e - i ≤ m → d.size = n → ∀ ks Q,
    (∀ i' : Int, Xk T ks (.x 0) [(0, .hs 1 b 0 n), (1, .int .i64 a), (2, .int .i64 e), (6, .int .i64 i'), (12, .bool false)] (SD h b (Sort.insOuter Sort.ltInt a e i d)) Q) →
    Xc T l_slices_insertionSortOrdered_int_1 ks [(0, .hs 1 b 0 n), (1, .int .i64 a), (2, .int .i64 e), (6, .int .i64 i)] (SD h b d) Q := by
  intro m
  induction m with
  | zero =>
    intro i d hm hd ks Q hQ
    rw [L_slices_insertionSortOrdered_int_1]; unfold bl_slices_insertionSortOrdered_int_1
    have c1 : ¬ (i : Int) < e := by omega
    have c2 : ¬ i < e := by omega
    have := hQ i
    unfold Sort.insOuter at this
    rw [if_neg c2] at this
    simp (disch := omega) [c1, c2]
    exact this
  | succ m ih =>
    intro i d hm hd ks Q hQ
    by_cases c2 : i < e
    · rw [L_slices_insertionSortOrdered_int_1]; unfold bl_slices_insertionSortOrdered_int_1
      simp (disch := omega) [c2]
      refine ins_in hb a n (.int .i64 a) (.int .i64 i) e rfl i d hd hn (by omega) _ _ fun j' => ?_
      simp (disch := omega)
      have := ih (i + 1) (Sort.insInner Sort.ltInt a i d) (by omega) (by rw [← hd]; exact insInner_size _ _ _ _) ks Q (fun i' => by
        have := hQ i'
        unfold Sort.insOuter at this
        rw [if_pos c2] at this
        exact this)
      simpa using this
    · rw [L_slices_insertionSortOrdered_int_1]; unfold bl_slices_insertionSortOrdered_int_1
      have := hQ i
      unfold Sort.insOuter at this
      rw [if_neg c2] at this
      simp (disch := omega) [c2]
      exact this
theorem ins_run (hb : b < h.length) (d : Array Int) (a e : Nat) (hn : d.size < 4611686018427387904) (hae : a ≤ e) (he : e ≤ d.size) :
    Run T f_slices_insertionSortOrdered_int [.hs 1 b 0 d.size, .int .i64 a, .int .i64 e] (SD h b d) (.tup []) (SD h b (Sort.insertionSort Sort.ltInt d a e)) := by
  refine Run.start t_slices_insertionSortOrdered_int ?_
  unfold k_slices_insertionSortOrdered_int
  simp (disch := omega)
  have := ins_out hb a e d.size hn he (e - (a + 1)) (a + 1) d (by omega) rfl
  simp at this
  refine this _ _ fun i' => ?_
  simp (disch := omega) [Sort.insertionSort]
end
theorem lenTab_get : ∀ n, n < 64 → ([0, 1, 2, 2, 3, 3, 3, 3, 4, 4, 4, 4, 4, 4, 4, 4, 5, 5, 5, 5, 5, 5, 5, 5, 5, 5, 5, 5, 5, 5, 5, 5, 6, 6, 6, 6, 6, 6, 6, 6, 6, 6, 6, 6, 6, 6, 6, 6, 6, 6, 6, 6, 6, 6, 6, 6, 6, 6, 6, 6, 6, 6, 6, 6, 7, 7, 7, 7, 7, 7, 7, 7, 7, 7, 7, 7, 7, 7, 7, 7, 7, 7, 7, 7, 7, 7, 7, 7, 7, 7, 7, 7, 7, 7, 7, 7, 7, 7, 7, 7, 7, 7, 7, 7, 7, 7, 7, 7, 7, 7, 7, 7, 7, 7, 7, 7, 7, 7, 7, 7, 7, 7, 7, 7, 7, 7, 7, 7, 8, 8, 8, 8, 8, 8, 8, 8, 8, 8, 8, 8, 8, 8, 8, 8, 8, 8, 8, 8, 8, 8, 8, 8, 8, 8, 8, 8, 8, 8, 8, 8, 8, 8, 8, 8, 8, 8, 8, 8, 8, 8, 8, 8, 8, 8, 8, 8, 8, 8, 8, 8, 8, 8, 8, 8, 8, 8, 8, 8, 8, 8, 8, 8, 8, 8, 8, 8, 8, 8, 8, 8, 8, 8, 8, 8, 8, 8, 8, 8, 8, 8, 8, 8, 8, 8, 8, 8, 8, 8, 8, 8, 8, 8, 8, 8, 8, 8, 8, 8, 8, 8, 8, 8, 8, 8, 8, 8, 8, 8, 8, 8, 8, 8, 8, 8, 8, 8, 8, 8, 8, 8, 8, 8, 8, 8, 8, 8] : List UInt8)[n]? = some (UInt8.ofNat (Sort.bitsLen n)) := by decide +kernel
theorem bitsLen_le : ∀ n, n < 64 → Sort.bitsLen n ≤ 6 := by decide +kernel
theorem len64_run (h : Heap) (n : Nat) (hn : n < 64) : Run T f_math_bits_Len64 [.int .u64 n] h (.int .i64 (Sort.bitsLen n : Nat)) h := by
  refine Run.start t_math_bits_Len64 ?_
  unfold k_math_bits_Len64
  have c1 : ¬ (4294967296 : Int) ≤ n := by omega
  have c2 : ¬ (65536 : Int) ≤ n := by omega
  have c3 : ¬ (256 : Int) ≤ n := by omega
  have hb := bitsLen_le n hn
  have hm : Sort.bitsLen n % 256 = Sort.bitsLen n := by omega
  simp (disch := omega) [c1, c2, c3, lenTab_get n hn, byteV, hm]
theorem len_run (h : Heap) (n : Nat) (hn : n < 64) : Run T f_math_bits_Len [.int .u64 n] h (.int .i64 (Sort.bitsLen n : Nat)) h := by
  refine Run.start t_math_bits_Len ?_
  unfold k_math_bits_Len
  simp (disch := omega)
  rw [Xp_run (len64_run [] n hn) (by simp) (by simp) (by simp)]
  simp (disch := omega)
section
variable {h : Heap} {b : Nat}
theorem pdq_small (hb : b < h.length) (d : Array Int) (lim : Int) (hn : d.size ≤ 12) :
    Run T f_slices_pdqsortOrdered_int [.hs 1 b 0 d.size, .int .i64 0, .int .i64 d.size, .int .i64 lim] (SD h b d) (.tup []) (SD h b (Sort.insertionSort Sort.ltInt d 0 d.size)) := by
  refine Run.start t_slices_pdqsortOrdered_int ?_
  unfold k_slices_pdqsortOrdered_int
  simp (disch := omega)
  rw [L_slices_pdqsortOrdered_int_0]; unfold bl_slices_pdqsortOrdered_int_0
  have c1 : (d.size : Int) ≤ 12 := by omega
  simp (disch := omega) [c1]
  have := ins_run hb d 0 d.size (by omega) (by omega) (by omega)
  simp only [Int.natCast_zero, Int.ofNat_zero, Int.cast_ofNat_Int, Int.natCast_eq_zero] at this
  rw [Xf_run (by simpa using this)]
  simp (disch := omega)
theorem sort_small (hb : b < h.length) (d : Array Int) (hn : d.size ≤ 12) :
    Run T f_slices_Sort_int_int [.hs 1 b 0 d.size] (SD h b d) (.tup []) (SD h b (Sort.insertionSort Sort.ltInt d 0 d.size)) := by
  refine Run.start t_slices_Sort_int_int ?_
  unfold k_slices_Sort_int_int
  simp (disch := omega)
  rw [Xp_run (len_run [] d.size (by omega)) (by simp) (by simp) (by simp)]
  simp (disch := omega)
  rw [Xf_run (by simpa using pdq_small hb d (Sort.bitsLen d.size : Nat) hn)]
  simp (disch := omega)
end
theorem Clone_int (l : List Int) (hn : l.length ≤ 1000000) (hl : l ≠ []) (h : Heap) : Run T f_slices_Clone_int_int [.ps 1 (ints l)] h (.hs 1 h.length 0 l.length) (h ++ [some (ints l)]) := by
  have nc : ∀ h : Heap, newCells h 1 (.ps 1 (ints l)) = some (ints l) := fun h => by
    simp [newCells, flat_ints]
  refine Run.start t_slices_Clone_int_int ?_
  unfold k_slices_Clone_int_int
  simp (disch := omega)
  refine Xc_nilc (fun C => rfl) rfl (v := .ps 1 (ints l)) (by cases l with | nil => exact absurd rfl hl | cons _ _ => rfl) ?_
  have il : (ints l).length = l.length := by simp [ints]
  have ne : ¬ ints l = [] := fun e => by
    have := congrArg List.length e
    rw [il] at this
    exact hl (List.eq_nil_of_length_eq_zero this)
  simp (disch := omega) [nc, ne, il]
theorem Clone_nil (h : Heap) : Run T f_slices_Clone_int_int [.ps 1 []] h (.hn 1) h := by
  refine Run.start t_slices_Clone_int_int ?_
  unfold k_slices_Clone_int_int
  simp (disch := omega)
  refine Xc_may (fun C => rfl) rfl rfl .r [(2, .hn 1)] h ?_ ?_ ?_
  · simp (disch := omega)
  · simp (disch := omega)
  · simp (disch := omega)
/-- The other rows stay. -/
def HK (g g' : Heap) (j : Nat) : Prop := g.length ≤ g'.length ∧ ∀ i, i ≠ j → i < g.length → Heap.row g' i = Heap.row g i
theorem HK.refl (g : Heap) (j : Nat) : HK g g j := ⟨Nat.le_refl _, fun _ _ _ => rfl⟩
theorem HK.app (g w : Heap) (j : Nat) : HK g (g ++ w) j := ⟨by simp, fun i _ h => row_app h⟩
theorem HK.set (g : Heap) (j : Nat) (v : Option (List V)) : HK g (g.set j v) j := ⟨by simp, fun i hi h => row_ne (fun e => hi e.symm)⟩
theorem HK.trans {g g' g'' : Heap} {j : Nat} (h : HK g g' j) (k : HK g' g'' j) : HK g g'' j := ⟨Nat.le_trans h.1 k.1, fun i hi hl => (k.2 i hi (Nat.lt_of_lt_of_le hl h.1)).trans (h.2 i hi hl)⟩
theorem hlt {g : Heap} {j : Nat} {cs : List V} (h : Heap.row g j = some cs) : j < g.length := by
  unfold Heap.row at h
  cases hg : g[j]? with
  | none => rw [hg] at h; cases h
  | some v => exact (List.getElem?_eq_some_iff.1 hg).1
/-- A list without those that stand beside an equal one. -/
def ddF (p : Int) : List Int → List Int
  | [] => []
  | y :: r => if y = p then ddF p r else y :: ddF y r
def dd : List Int → List Int
  | [] => []
  | x :: r => x :: ddF x r
theorem ddF_app (l : List Int) : ∀ (p y : Int), ddF p (l ++ [y]) = ddF p l ++ (if y = (p :: l).getLast (by simp) then [] else [y]) := by
  induction l with
  | nil => intro p y; by_cases c : y = p <;> simp [ddF, c]
  | cons x r ih =>
    intro p y
    rw [List.cons_append, ddF, ddF]
    by_cases c : x = p
    · rw [if_pos c, if_pos c, ih]
      subst c
      by_cases c2 : y = (x :: r).getLast (by simp) <;> simp [c2]
    · rw [if_neg c, if_neg c, ih]
      by_cases c2 : y = (x :: r).getLast (by simp) <;> simp [c2]
theorem dd_take (l : List Int) (i : Nat) (h1 : 1 ≤ i) (h : i < l.length) : dd (l.take (i + 1)) = dd (l.take i) ++ (if l[i] = l[i - 1] then [] else [l[i]]) := by
  match l, h with
  | x :: r, h =>
    obtain ⟨i, rfl⟩ : ∃ k, i = k + 1 := ⟨i - 1, by omega⟩
    have hi : i < r.length := by simpa using h
    have e : r.take (i + 1) = r.take i ++ [r[i]] := by rw [List.take_succ, List.getElem?_eq_getElem hi]; rfl
    simp only [List.take_succ_cons, dd]
    rw [e, ddF_app]
    have g : (x :: r.take i).getLast (by simp) = (x :: r)[i] := by
      rw [List.getLast_eq_getElem]
      cases i with
      | zero => simp
      | succ i => simp [Nat.min_eq_left (Nat.le_of_lt hi)]
    rw [g]
    simp
theorem dd_len (l : List Int) : (dd l).length ≤ l.length := by
  cases l with
  | nil => simp [dd]
  | cons x r =>
    have : ∀ (r : List Int) (p : Int), (ddF p r).length ≤ r.length := by
      intro r
      induction r with
      | nil => intro p; simp [ddF]
      | cons y r ih =>
        intro p
        rw [ddF]
        split
        · have := ih p; simp; omega
        · have := ih y; simp; omega
    have := this r x
    simp [dd, this]
theorem dd_pos (l : List Int) (h : l ≠ []) : 1 ≤ (dd l).length := by
  cases l with
  | nil => exact absurd rfl h
  | cons x r => simp [dd]
theorem slN_lo (s b len M : Nat) (h : M < len) : slV (.sl s) (.hs s b 0 len) (some (.int .i64 M)) none none = some (.hs s b (M * s) (len - M)) := by
  have h1 : (0 : Int) ≤ M ∧ (M : Int) ≤ len := by omega
  have h2 : len - M ≠ 0 := by omega
  have h3 : M ≤ len := by omega
  simp [slV, bndO, bndV, h3, h2]
theorem slN_hi (s b len M : Nat) (h : M ≤ len) : slV (.sl s) (.hs s b 0 len) none (some (.int .i64 M)) none = some (if M = 0 then .ps s [] else .hs s b 0 M) := by
  simp [slV, bndO, bndV, h]
  split <;> rfl
theorem clrN (h : Heap) (s b off len : Nat) (z cs : List V) (hz : z.length = s) (hr : h.row b = some cs) (hl : off + len * s ≤ cs.length) : clrV h s z (.hs s b off len) = some (.tup [], h.set b (some (spliceL cs off (repZ len z)))) := by
  simp [clrV, hr, hz, hl]
section
variable {h : Heap} {b : Nat}
theorem cmp_in (l : List Int) (N K0 : Nat) (hN : l.length = N) (hb6 : N ≤ 1000000) (hK : 1 ≤ K0) (hK' : K0 < N) : ∀ (m k2 k : Nat) (cur : List Int) (h : Heap), 1 ≤ k2 → K0 + k2 + m = N → cur.length = N → h.row b = some (ints cur) → k ≤ K0 + k2 - 1 → (dd (l.take (K0 + k2))).length = k → cur.take k = dd (l.take (K0 + k2)) → cur.drop (K0 + k2 - 1) = l.drop (K0 + k2 - 1) → ∀ ks Q,
    (∀ h' cur' z, HK h h' b → cur'.length = N → Heap.row h' b = some (ints cur') → cur'.take (dd l).length = dd l → Xk T ks (.x 2) ((0, .hs 1 b 0 N) :: (3, .int .i64 (dd l).length) :: z) h' Q) →
    Xc T l_slices_Compact_int_int_0 ks [(0, .hs 1 b 0 N), (3, .int .i64 k), (4, .hs 1 b K0 (N - K0)), (5, .int .i64 k2)] h Q := by
  intro m
  induction m with
  | zero =>
    intro k2 k cur h h1 h2 hc hr hk hd ht hdr ks Q hx
    rw [L_slices_Compact_int_int_0]; unfold bl_slices_Compact_int_int_0
    have c1 : ¬ (k2 : Int) < ((N - K0 : Nat) : Int) := by omega
    have e1 : l.take (K0 + k2) = l := List.take_of_length_le (by omega)
    rw [e1] at hd ht
    rw [← hd] at ht
    simp (disch := omega) [c1]
    rw [← hd] at *
    exact hx h cur _ (HK.refl _ _) hc hr ht
  | succ m ih =>
    intro k2 k cur h h1 h2 hc hr hk hd ht hdr ks Q hx
    rw [L_slices_Compact_int_int_0]; unfold bl_slices_Compact_int_int_0
    have c1 : (k2 : Int) < ((N - K0 : Nat) : Int) := by omega
    have jl := hlt hr
    have il : (ints cur).length = N := by rw [ints_len, hc]
    have hq : ∀ (p : Nat) (hp : p < l.length), K0 + k2 - 1 ≤ p → (ints cur)[p]? = some (.int .i64 l[p]) := fun p hp h4 => by
      rw [ints_get]
      have := congrArg (fun z => z[p - (K0 + k2 - 1)]?) hdr
      simp only [List.getElem?_drop] at this
      rw [show K0 + k2 - 1 + (p - (K0 + k2 - 1)) = p by omega] at this
      rw [this, List.getElem?_eq_getElem hp]; rfl
    have g1 := hq (K0 + k2) (by omega) (by omega)
    have g2 := hq (K0 + (k2 - 1)) (by omega) (by omega)
    have e5 : ((k2 : Int) - 1).toNat = k2 - 1 := by omega
    have c2 : ((k2 : Int) - 1) < ((N - K0 : Nat) : Int) := by omega
    have dt := dd_take l (K0 + k2) (by omega) (by omega)
    have e6 : K0 + k2 - 1 = K0 + (k2 - 1) := by omega
    have ee : ((k2 : Int) + 1) = ((k2 + 1 : Nat) : Int) := by omega
    simp only [e6] at dt
    have tk : (l.take (K0 + k2 + 1)).length = K0 + k2 + 1 := by rw [List.length_take]; omega
    simp (disch := omega) [c1, hr, g1, g2, e5, il]
    by_cases c3 : l[K0 + k2]'(by omega) = l[K0 + (k2 - 1)]'(by omega)
    · rw [if_pos c3, List.append_nil] at dt
      have := ih (k2 + 1) k cur h (by omega) (by omega) hc hr (by omega) (by rw [← Nat.add_assoc, dt]; exact hd) (by rw [← Nat.add_assoc, dt]; exact ht) (by
        rw [show K0 + (k2 + 1) - 1 = (K0 + k2 - 1) + 1 by omega, ← List.drop_drop, ← List.drop_drop, hdr]) ks Q hx
      simp (disch := omega) [c3]
      simpa using this
    · rw [if_neg c3] at dt
      have kN : k < N := by omega
      have := ih (k2 + 1) (k + 1) (cur.set k (l[K0 + k2]'(by omega))) (h.set b (some (ints (cur.set k (l[K0 + k2]'(by omega)))))) (by omega) (by omega) (by simp [hc]) (by rw [row_set jl]) (by omega) (by rw [← Nat.add_assoc, dt]; simp [hd]) (by
          rw [← Nat.add_assoc, dt, ← ht, List.take_succ, List.take_set_of_le (Nat.le_refl _), List.getElem?_set_self (by omega)]; rfl) (by
          rw [List.drop_set_of_lt (by omega), show K0 + (k2 + 1) - 1 = (K0 + k2 - 1) + 1 by omega, ← List.drop_drop, ← List.drop_drop, hdr]) ks Q (fun h' cur' z a b' => hx h' cur' z ((HK.set _ _ _).trans a) b')
      have si : ints (cur.set k (l[K0 + k2]'(by omega))) = (ints cur).set k (.int .i64 (l[K0 + k2]'(by omega))) := by simp [ints, List.map_set]
      rw [si] at this
      simp (disch := omega) [c3, hr, g1, il, kN]
      simpa using this
theorem cmp_out (l : List Int) (N : Nat) (hN : l.length = N) (hb6 : N ≤ 1000000) : ∀ (m k : Nat) (h : Heap), 1 ≤ k → k + m = N → h.row b = some (ints l) → dd (l.take k) = l.take k → ∀ ks Q,
    (dd l = l → ∀ z, Xk T ks (.x 0) ((0, .hs 1 b 0 N) :: z) h Q) →
    (∀ h' R, HK h h' b → Heap.row h' b = some R → (dd l).length ≤ R.length → R.take (dd l).length = ints (dd l) → Xk T ks .r [(2, .hs 1 b 0 (dd l).length)] h' Q) →
    Xc T l_slices_Compact_int_int_1 ks [(0, .hs 1 b 0 N), (3, .int .i64 k)] h Q := by
  intro m
  induction m with
  | zero =>
    intro k h h1 h2 hr hd ks Q hx hy
    rw [L_slices_Compact_int_int_1]; unfold bl_slices_Compact_int_int_1
    have c1 : ¬ (k : Int) < N := by omega
    rw [List.take_of_length_le (by omega)] at hd
    simp (disch := omega) [c1]
    exact hx hd _
  | succ m ih =>
    intro k h h1 h2 hr hd ks Q hx hy
    rw [L_slices_Compact_int_int_1]; unfold bl_slices_Compact_int_int_1
    have c1 : (k : Int) < N := by omega
    have kN : k < N := by omega
    have il : (ints l).length = N := by rw [ints_len, hN]
    have g1 : (ints l)[k]? = some (.int .i64 (l[k]'(by omega))) := by rw [ints_get, List.getElem?_eq_getElem (by omega)]; rfl
    have g2 : (ints l)[k - 1]? = some (.int .i64 (l[k - 1]'(by omega))) := by rw [ints_get, List.getElem?_eq_getElem (by omega)]; rfl
    have e5 : ((k : Int) - 1).toNat = k - 1 := by omega
    have dt := dd_take l k (by omega) (by omega)
    simp (disch := omega) [c1, hr, g1, g2, e5, il, kN]
    by_cases c3 : l[k]'(by omega) = l[k - 1]'(by omega)
    · rw [if_pos c3, List.append_nil] at dt
      have tk : (l.take k).length = k := by rw [List.length_take]; omega
      have sv1 := slN_lo 1 b N k kN
      have cI := cmp_in (b := b) l N k hN hb6 h1 kN m 1 k l h (by omega) (by omega) hN hr (by omega) (by rw [dt, hd, tk]) (by rw [dt, hd]) rfl
      have dp := dd_pos l (by intro e; rw [e] at hN; simp at hN; omega)
      have dl : (dd l).length < N := by
        have : ∀ (m i : Nat), k + 1 + i + m = N → (dd (l.take (k + 1 + i))).length ≤ k + i → (dd l).length ≤ N - 1 := by
          intro m
          induction m with
          | zero => intro i h3 h4; rw [List.take_of_length_le (by omega)] at h4; omega
          | succ m ih =>
            intro i h3 h4
            refine ih (i + 1) (by omega) ?_
            have := dd_take l (k + 1 + i) (by omega) (by omega)
            rw [← Nat.add_assoc, this, List.length_append]
            split <;> simp <;> omega
        have := this m 0 (by omega) (by rw [Nat.add_zero, dt, hd, tk]; omega)
        omega
      generalize hM : (dd l).length = M at *
      simp (disch := omega) [c3, sv1]
      refine cI _ _ fun h' cur z q1 q2 q3 q4 => ?_
      have sv2 := slN_lo 1 b N M dl
      have sv3 := slN_hi 1 b N M (by omega)
      have il2 : (ints cur).length = N := by rw [ints_len, q2]
      have cv := clrN h' 1 b (M * 1) (N - M) [.int .i64 0] (ints cur) rfl q3 (by rw [il2]; omega)
      have M0 : M ≠ 0 := by omega
      have rl : (repZ (N - M) [V.int .i64 0]).length = N - M := by simp [repZ]
      rw [if_neg M0] at sv3
      simp only [Nat.mul_one] at sv2 cv
      simp (disch := omega) [sv2, sv3, cv]
      refine hy _ _ (q1.trans (HK.set _ _ _)) (row_set (hlt q3)) ?_ ?_
      · simp only [spliceL, List.length_append, List.length_take, rl, il2]; omega
      · unfold spliceL
        rw [List.append_assoc, List.take_left' (by rw [List.length_take]; omega)]
        rw [← q4]; simp [ints, List.map_take]
    · rw [if_neg c3, hd] at dt
      have := ih (k + 1) h (by omega) (by omega) hr (by rw [dt, List.take_succ, List.getElem?_eq_getElem (by omega)]; rfl) ks Q hx hy
      simp (disch := omega) [c3]
      simpa using this
end
theorem Compact_run (l : List Int) (hb6 : l.length ≤ 1000000) (hl : l ≠ []) (b : Nat) (h : Heap) (hr : h.row b = some (ints l)) :
    ∃ h' R, Run T f_slices_Compact_int_int [.hs 1 b 0 l.length] h (.hs 1 b 0 (dd l).length) h' ∧ HK h h' b ∧ Heap.row h' b = some R ∧ (dd l).length ≤ R.length ∧ R.take (dd l).length = ints (dd l) := by
  have ln : l.length ≠ 0 := fun e => hl (List.eq_nil_of_length_eq_zero e)
  have lp := cmp_out (b := b) l l.length rfl hb6 (l.length - 1) 1 h (by omega) (by omega) hr (by
    cases l with
    | nil => exact absurd rfl hl
    | cons x r => simp [dd, ddF])
  obtain ⟨v, h', ⟨ev, R, q1, q2, q3, q4⟩, r⟩ := Run.startP (P := fun v h' => v = .hs 1 b 0 (dd l).length ∧ ∃ R, HK h h' b ∧ Heap.row h' b = some R ∧ (dd l).length ≤ R.length ∧ R.take (dd l).length = ints (dd l)) (vs := [.hs 1 b 0 l.length]) (h := h) t_slices_Compact_int_int (by
    unfold k_slices_Compact_int_int
    by_cases c : l.length < 2
    · have e : dd l = l := by
        match l, c with
        | [], _ => rfl
        | [x], _ => rfl
        | x :: y :: r, c => simp at c; omega
      have c' : (l.length : Int) < 2 := by omega
      simp (disch := omega) [c, c', e]
      exact ⟨HK.refl _ _, ints l, hr, by rw [ints_len]; omega, List.take_of_length_le (by rw [ints_len]; omega)⟩
    · have c' : ¬ (l.length : Int) < 2 := by omega
      simp (disch := omega) [c, c']
      refine lp _ _ (fun e z => ?_) (fun h' R q1 q2 q3 q4 => ?_)
      · simp (disch := omega) [e]
        exact ⟨HK.refl _ _, ints l, hr, by rw [ints_len]; omega, List.take_of_length_le (by rw [ints_len]; omega)⟩
      · simp (disch := omega)
        exact ⟨q1, R, q2, q3, q4⟩)
  subst ev
  exact ⟨h', R, r, q1, q2, q3, q4⟩
/-- A test that turns nothing. -/
structure Pd (g0 : Heap) (b f : Nat) (cap : List V) (p : Int → Bool) : Prop where
  free : T.free f = true
  run : ∀ g, HK g0 g b → ∀ y : Int, Run T f (.int .i64 y :: cap) g (.bool (p y)) g
/-- Where the first is that passes. -/
def fIx (p : Int → Bool) : List Int → Nat → Int
  | [], _ => -1
  | y :: r, i => if p y then (i : Int) else fIx p r (i + 1)
theorem fIx_neg (p : Int → Bool) : ∀ (l : List Int) (i : Nat), fIx p l i = -1 → l.filter (fun y => !p y) = l
  | [], _, _ => rfl
  | y :: r, i, h => by
    by_cases c : p y = true
    · simp only [fIx, if_pos c] at h; omega
    · simp only [fIx, if_neg c] at h
      have := fIx_neg p r (i + 1) h
      simp [c, this]
theorem fIx_at (p : Int → Bool) : ∀ (l : List Int) (i : Nat), fIx p l i ≠ -1 → ∃ k : Nat, fIx p l i = ((i + k : Nat) : Int) ∧ k < l.length ∧ l.filter (fun y => !p y) = l.take k ++ (l.drop (k + 1)).filter (fun y => !p y)
  | [], _, h => absurd rfl h
  | y :: r, i, h => by
    by_cases c : p y = true
    · exact ⟨0, by simp [fIx, c], by simp, by simp [c]⟩
    · simp only [fIx, if_neg c] at h ⊢
      obtain ⟨k, e1, e2, e3⟩ := fIx_at p r (i + 1) h
      refine ⟨k + 1, by rw [e1]; congr 1; omega, by simpa using e2, ?_⟩
      simp [c, e3]
theorem tk_get {R : List V} {n : Nat} {l : List Int} (h : R.take n = ints l) (i : Nat) (hi : i < n) (hl : i < l.length) : R[i]? = some (.int .i64 l[i]) := by
  have := congrArg (fun z => z[i]?) h
  simp only [List.getElem?_take, if_pos hi, ints_get, List.getElem?_eq_getElem hl] at this
  rw [this]; rfl
theorem tk_set {R : List V} {n : Nat} {l : List Int} (h : R.take n = ints l) (i : Nat) (x : Int) : (R.set i (.int .i64 x)).take n = ints (l.set i x) := by
  rw [List.take_set, h]; simp [ints, List.map_set]
section
variable {g0 g : Heap} {b f : Nat} {cap : List V} {p : Int → Bool}
theorem ixf_loop (hp : Pd g0 b f cap p) (l : List Int) (n : Nat) (hn : n ≤ 1000000) (hl : l.length = n) (R : List V) (hR : R.take n = ints l) (hRl : n ≤ R.length) (hk : HK g0 g b) (hr : g.row b = some R) : ∀ (m i : Nat), i + m = n → ∀ ks Q,
    (fIx p (l.drop i) i = -1 → ∀ e, Xk T ks (.x 0) e g Q) →
    (fIx p (l.drop i) i ≠ -1 → Xk T ks .r [(4, .int .i64 (fIx p (l.drop i) i))] g Q) →
    Xc T l_slices_IndexFunc_int_int_0 ks [(0, .hs 1 b 0 n), (1, .fn f cap), (7, .int .i64 n), (8, .int .i64 i)] g Q := by
  have hf := hp.free
  intro m
  induction m with
  | zero =>
    intro i hi ks Q h1 h2
    have e : l.drop i = [] := List.drop_eq_nil_of_le (by omega)
    rw [e] at h1
    have e2 : ¬ (i : Int) < n := by omega
    rw [L_slices_IndexFunc_int_int_0]; unfold bl_slices_IndexFunc_int_int_0
    simp (disch := omega) [e2]
    exact h1 rfl _
  | succ m ih =>
    intro i hi ks Q h1 h2
    have hil : i < l.length := by omega
    have e := List.drop_eq_getElem_cons hil
    rw [e] at h1 h2
    have e1 : (i : Int) < n := by omega
    have g1 := tk_get hR i (by omega) hil
    have ih := ih (i + 1) (by omega) ks Q
    rw [show ((i + 1 : Nat) : Int) = (i : Int) + 1 from rfl] at ih
    rw [L_slices_IndexFunc_int_int_0]; unfold bl_slices_IndexFunc_int_int_0
    simp (disch := omega) [e1, hr, g1, hf]
    rw [Xf_run (hp.run g hk _)]
    simp only [fIx] at h1 h2
    by_cases c : p l[i] = true
    · rw [if_pos c] at h1 h2
      simp (disch := omega) [c]
      exact h2 (by omega)
    · rw [if_neg c] at h1 h2
      simp (disch := omega) [c]
      exact ih h1 h2
theorem ixf_run (hp : Pd g0 b f cap p) (l : List Int) (hn : l.length ≤ 1000000) (R : List V) (hR : R.take l.length = ints l) (hRl : l.length ≤ R.length) (hk : HK g0 g b) (hr : g.row b = some R) : Run T f_slices_IndexFunc_int_int [.hs 1 b 0 l.length, .fn f cap] g (.int .i64 (fIx p l 0)) g := by
  refine Run.start t_slices_IndexFunc_int_int ?_
  unfold k_slices_IndexFunc_int_int
  simp (disch := omega)
  have := ixf_loop hp l l.length hn rfl R hR hRl hk hr l.length 0 (by omega)
  refine this _ _ (fun h e => ?_) (fun h => ?_)
  · have h : fIx p l 0 = -1 := h
    simp [h]
  · have h : ¬ fIx p l 0 = -1 := h
    simp [h]
theorem dlf_loop (hp : Pd g0 b f cap p) (N : Nat) (hN : N ≤ 1000000) : ∀ (m k : Nat), k + m = N → ∀ (i : Nat) (cur : List Int) (R : List V) (g : Heap), cur.length = N → i ≤ k → R.take N = ints cur → N ≤ R.length → HK g0 g b → g.row b = some R → ∀ ks Q,
    (∀ z g' cur' R', HK g g' b → cur'.length = N → R'.take N = ints cur' → N ≤ R'.length → Heap.row g' b = some R' → i + ((cur.drop k).filter (fun y => !p y)).length ≤ N → cur'.take (i + ((cur.drop k).filter (fun y => !p y)).length) = cur.take i ++ (cur.drop k).filter (fun y => !p y) →
      Xk T ks (.x 0) ((0, .hs 1 b 0 N) :: (1, .fn f cap) :: (5, .int .i64 ((i + ((cur.drop k).filter (fun y => !p y)).length : Nat) : Int)) :: z) g' Q) →
    Xc T l_slices_DeleteFunc_int_int_0 ks [(0, .hs 1 b 0 N), (1, .fn f cap), (5, .int .i64 i), (6, .int .i64 k)] g Q := by
  have hf := hp.free
  intro m
  induction m with
  | zero =>
    intro k hk i cur R g hc hi hR hRl hg hr ks Q hx
    have e : cur.drop k = [] := List.drop_eq_nil_of_le (by omega)
    have e2 : ¬ (k : Int) < N := by omega
    rw [L_slices_DeleteFunc_int_int_0]; unfold bl_slices_DeleteFunc_int_int_0
    simp (disch := omega) [e2]
    have := hx [(6, .int .i64 k), (19, .bool false)] g cur R (HK.refl _ _) hc hR hRl hr (by rw [e]; simp; omega) (by rw [e]; simp)
    rw [e] at this
    simpa using this
  | succ m ih =>
    intro k hk i cur R g hc hi hR hRl hg hr ks Q hx
    have hl : k < cur.length := by omega
    have e := List.drop_eq_getElem_cons hl
    have e1 : (k : Int) < N := by omega
    have g1 := tk_get hR k (by omega) hl
    have ih := ih (k + 1) (by omega)
    rw [show ((k + 1 : Nat) : Int) = (k : Int) + 1 from rfl] at ih
    rw [e] at hx
    have jl := hlt hr
    rw [L_slices_DeleteFunc_int_int_0]; unfold bl_slices_DeleteFunc_int_int_0
    simp (disch := omega) [e1, hr, g1, hf]
    rw [Xf_run (hp.run g hg _)]
    by_cases c : p cur[k] = true
    · rw [List.filter_cons_of_neg (by simp [c])] at hx
      simp (disch := omega) [c]
      exact ih i cur R g hc (by omega) hR hRl hg hr ks Q hx
    · rw [List.filter_cons_of_pos (by simp [c])] at hx
      have iR : i < R.length := by omega
      have iN : i < N := by omega
      simp (disch := omega) [c, hr, iR, iN]
      have d1 : (cur.set i cur[k]).drop (k + 1) = cur.drop (k + 1) := List.drop_set_of_lt (by omega)
      have t1 : (cur.set i cur[k]).take (i + 1) = cur.take i ++ [cur[k]] := by
        rw [List.take_succ, List.take_set_of_le (Nat.le_refl _), List.getElem?_set_self (by omega)]; rfl
      have := ih (i + 1) (cur.set i cur[k]) (R.set i (.int .i64 cur[k])) (g.set b (some (R.set i (.int .i64 cur[k])))) (by simp [hc]) (by omega) (tk_set hR i _) (by simpa using hRl) (hg.trans (HK.set _ _ _)) (row_set jl) ks Q (fun z g' cur' R' a1 a2 a3 a4 a5 a6 a7 => by
        rw [d1] at a6 a7 ⊢
        rw [t1] at a7
        simp only [List.length_cons] at hx
        have e1 : i + 1 + ((cur.drop (k + 1)).filter (fun y => !p y)).length = i + (((cur.drop (k + 1)).filter (fun y => !p y)).length + 1) := by omega
        rw [e1] at a6 a7 ⊢
        exact hx z g' cur' R' ((HK.set _ _ _).trans a1) a2 a3 a4 a5 a6 (by rw [a7]; simp))
      simpa using this
/-- A heap slice of whole numbers. -/
def fv (b : Nat) (l : List Int) : V := if l = [] then .ps 1 [] else .hs 1 b 0 l.length
theorem dlf_run (hp : Pd g0 b f cap p) (l : List Int) (hn : l.length ≤ 1000000) (hne : l ≠ []) (R : List V) (hR : R.take l.length = ints l) (hRl : l.length ≤ R.length) (hk : HK g0 g b) (hr : g.row b = some R) :
    ∃ g' R', Run T f_slices_DeleteFunc_int_int [.hs 1 b 0 l.length, .fn f cap] g (fv b (l.filter fun y => !p y)) g' ∧ HK g g' b ∧ Heap.row g' b = some R' ∧ R'.take (l.filter fun y => !p y).length = ints (l.filter fun y => !p y) ∧ (l.filter fun y => !p y).length ≤ R'.length := by
  obtain ⟨v, h', ⟨ev, hk', R', q1, q2, q3⟩, r⟩ := Run.startP (P := fun v g' => v = fv b (l.filter fun y => !p y) ∧ HK g g' b ∧ ∃ R', Heap.row g' b = some R' ∧ R'.take (l.filter fun y => !p y).length = ints (l.filter fun y => !p y) ∧ (l.filter fun y => !p y).length ≤ R'.length) (vs := [.hs 1 b 0 l.length, .fn f cap]) (h := g) t_slices_DeleteFunc_int_int (by
    unfold k_slices_DeleteFunc_int_int
    simp (disch := omega)
    rw [Xf_run (ixf_run hp l hn R hR hRl hk hr)]
    by_cases c : fIx p l 0 = -1
    · have e := fIx_neg p l 0 c
      simp (disch := omega) [c]
      rw [e]
      exact ⟨by simp [fv, hne], HK.refl _ _, R, hr, hR, hRl⟩
    · obtain ⟨k, e1, e2, e3⟩ := fIx_at p l 0 c
      rw [Nat.zero_add] at e1
      have c' : ¬ ((k : Int) = -1) := by omega
      have lp := dlf_loop hp l.length hn (l.length - (k + 1)) (k + 1) (by omega) k l R g rfl (by omega) hR hRl hk hr
      rw [show ((k + 1 : Nat) : Int) = (k : Int) + 1 from rfl] at lp
      rw [e1]
      simp (disch := omega) [c']
      refine lp _ _ (fun z g' cur' R' h0 h1 h2 h3 h4 h5 h6 => ?_)
      have hk : (l.filter fun y => !p y) = cur'.take (k + ((l.drop (k + 1)).filter fun y => !p y).length) := by rw [h6, e3]
      have kf : ((l.drop (k + 1)).filter fun y => !p y).length ≤ l.length - (k + 1) := by have := List.length_filter_le (fun y => !p y) (l.drop (k + 1)); rwa [List.length_drop] at this
      generalize hM : k + ((l.drop (k + 1)).filter fun y => !p y).length = M at *
      have hMl : M < l.length := by omega
      have fl : (l.filter fun y => !p y).length = M := by rw [hk, List.length_take]; omega
      have sv1 := slN_lo 1 b l.length M hMl
      have sv2 := slN_hi 1 b l.length M (by omega)
      have cv := clrN g' 1 b (M * 1) (l.length - M) [.int .i64 0] R' rfl h4 (by omega)
      simp only [Nat.mul_one] at sv1 cv
      have rl : (repZ (l.length - M) [V.int .i64 0]).length = l.length - M := by simp [repZ]
      simp (disch := omega) [sv1, sv2, cv]
      refine ⟨?_, h0.trans (HK.set _ _ _), _, row_set (hlt h4), ?_, ?_⟩
      · unfold fv
        by_cases z0 : M = 0
        · rw [if_pos z0, if_pos (List.eq_nil_of_length_eq_zero (by rw [fl, z0]))]
        · rw [if_neg z0, if_neg (fun e => by rw [e] at fl; simp at fl; omega), fl]
      · rw [fl]
        unfold spliceL
        rw [List.append_assoc, List.take_left' (by rw [List.length_take]; omega), hk]
        have := congrArg (List.take M) h2
        rw [List.take_take, Nat.min_eq_left (by omega)] at this
        rw [this]; simp [ints, List.map_take]
      · rw [fl]; simp only [spliceL, List.length_append, List.length_take, rl]; omega)
  subst ev
  exact ⟨h', R', r, hk', q1, q2, q3⟩
end
/-- All rows stay. -/
def HA (g g' : Heap) : Prop := g.length ≤ g'.length ∧ ∀ i, i < g.length → Heap.row g' i = Heap.row g i
theorem HA.app (g w : Heap) : HA g (g ++ w) := ⟨by simp, fun i h => row_app h⟩
theorem HA.step {g h : Heap} {b : Nat} (k : HA g h) (hb : g.length ≤ b) (v : Option (List V)) (w : Heap) : HA g (h.set b v ++ w) := by
  refine ⟨by have := k.1; simp; omega, fun i hi => ?_⟩
  have := k.1
  rw [row_app (by simp; omega), row_ne (by omega)]
  exact k.2 i hi
theorem HA.upd {g h : Heap} {b : Nat} (k : HA g h) (hb : g.length ≤ b) (v : Option (List V)) : HA g (h.set b v) := by
  have := k.step hb v []
  rwa [List.append_nil] at this
def CntV (C : List Int) (v : V) : Prop := v = .ps 1 (ints C) ∨ (C = [] ∧ v = .hn 1)
theorem AddG_loop (g : Heap) (c : List Int) (cv : V) (hcv : CntV c cv) (x : Int) (fl : Bool) (hc : c.length ≤ 1024) (n : Nat) (hn : n ≤ 2000) : ∀ (k i : Nat) (h : Heap) (b : Nat), i + k = n → 1 ≤ i → g.length ≤ b → HA g h → h.row b = some (ints ((List.range i).map fun (j : Nat) => ofS c j)) → ∀ ks Q,
    (∀ h b, g.length ≤ b → HA g h → h.row b = some (ints ((List.range n).map fun (j : Nat) => ofS c j)) → Xk T ks (.x 0) [(0, cv), (1, .int .i64 x), (6, .bool fl), (7, .hs 1 b 0 n), (22, .int .i64 n), (23, .int .i64 n), (24, .bool false)] h Q) →
    Xc T l_wear_Add_0 ks [(0, cv), (1, .int .i64 x), (6, .bool fl), (7, .hs 1 b 0 i), (22, .int .i64 n), (23, .int .i64 i)] h Q := by
  intro k
  induction k with
  | zero =>
    intro i h b hk hi hgb hga hr ks Q hQ
    rw [L_wear_Add_0]; unfold bl_wear_Add_0
    have e1 : i = n := by omega
    subst e1
    simp (disch := omega)
    exact hQ h b hgb hga hr
  | succ k ih =>
    intro i h b hk hi hgb hga hr ks Q hQ
    rw [L_wear_Add_0]; unfold bl_wear_Add_0
    have e3 : (i : Int) < n := by omega
    have hb := row_lt hr
    have hlen : (ints ((List.range i).map fun (j : Nat) => ofS c j)).length = i := by simp [ints]
    have := ih (i + 1) (h.set b none ++ [some (ints ((List.range i).map fun (j : Nat) => ofS c j) ++ [V.int .i64 (ofS c i)])]) h.length (by omega) (by omega) (by have := hga.1; omega) (hga.step hgb _ _) (by
      have hl : (h.set b none).length = h.length := by simp
      rw [← hl, row_new]
      rw [List.range_succ]
      simp [ints]) ks Q hQ
    rcases hcv with rfl | ⟨rfl, rfl⟩
    · simp (disch := omega) [e3, Of_p, hr, hlen]
      simpa using this
    · have op := fun {ks ops K e h Q d lent} => Of_p (ks := ks) (ops := ops) (K := K) (e := e) (h := h) (Q := Q) (d := d) (lent := lent) [] i (by simp)
      have i0 : ints [] = [] := rfl
      rw [i0] at op
      simp (disch := omega) [e3, op, hr, hlen]
      simpa using this
theorem AddG_run (g : Heap) (c : List Int) (cv : V) (hcv : CntV c cv) (b : Nat) (hc : c.length ≤ 1024) (hb : b ≤ 1023) : ∃ c' g', c'.length ≤ 1024 ∧ HA g g' ∧ Run T f_wear_Add [cv, .int .i64 b] g (.ps 1 (ints c')) g' := by
  obtain ⟨n, hn⟩ : ∃ n, n = max c.length (b + 1) := ⟨_, rfl⟩
  obtain ⟨r, hr⟩ : ∃ r, r = (List.range n).map fun (j : Nat) => ofS c j := ⟨_, rfl⟩
  have rl : r.length = n := by simp [hr]
  have hbr : b < r.length := by omega
  have r0 : 0 ≤ r[b] := by
    have : r[b] = ofS c b := by simp [hr]
    rw [this]; exact ofS_ge c b
  have lv : lenV false cv = some (.int .i64 c.length) := by rcases hcv with rfl | ⟨rfl, rfl⟩ <;> simp [lenV, ints_len]
  obtain ⟨v, g', ⟨ev, hg⟩, k⟩ := Run.startP (P := fun v g' => v = .ps 1 (ints (if r[b] < 65535 then r.set b (r[b] + 1) else r)) ∧ HA g g') (vs := [cv, .int .i64 b]) (h := g) t_wear_Add (by
    unfold k_wear_Add
    have m1 : max (c.length : Int) ((b : Int) + 1) = n := by omega
    have c1 : (b : Int) ≤ 1023 := by omega
    simp (disch := omega) [c1, lv, m1]
    rw [L_wear_Add_0]; unfold bl_wear_Add_0
    have e3 : 0 < n := by omega
    have hl := AddG_loop g c cv hcv b true hc n (by omega) (n - 1) 1 (g ++ [some [.int .i64 (ofS c 0)]]) g.length (by omega) (by omega) (by omega) (HA.app _ _) (by rw [row_new]; simp [ints])
    simp at hl
    have fin : ∀ ks Q, (∀ h b', g.length ≤ b' → HA g h → Heap.row h b' = some (ints r) → Xk T ks (.x 0) [(0, cv), (1, .int .i64 b), (6, .bool true), (7, .hs 1 b' 0 n), (22, .int .i64 n), (23, .int .i64 n), (24, .bool false)] h Q) → Xc T l_wear_Add_0 ks [(0, cv), (1, .int .i64 b), (6, .bool true), (7, .hs 1 g.length 0 1), (22, .int .i64 n), (23, .int .i64 1)] (g ++ [some [.int .i64 (ofS c 0)]]) Q := fun ks Q hh => hl ks Q (by rw [hr] at hh; exact hh)
    have go : ∀ (h : Heap) (b' : Nat), g.length ≤ b' → HA g h → Heap.row h b' = some (ints r) → True := fun _ _ _ _ _ => trivial
    rcases hcv with rfl | ⟨rfl, rfl⟩
    · simp (disch := omega) [e3, Of_p]
      refine fin _ _ fun h b' hgb hga hrw => ?_
      have hrl := row_lt hrw
      have hg := List.getElem?_eq_getElem hbr
      have hbn : b < n := by omega
      simp (disch := omega) [hrw, ints_get, hg, hbn]
      apply Xb_dec
      · intro c2
        have hlen : (ints r).length = r.length := ints_len r
        simp (disch := omega) [hrw, ints_get, hg, hlen, hbr, hbn]
        have hset : (ints r).set b (.int .i64 (r[b] + 1)) = ints (r.set b (r[b] + 1)) := by
          simp [ints, List.map_set]
        have hx : r[b] + 1 < 9223372036854775808 := by omega
        simp (disch := omega) [hset, c2]
        have hfr := freeze_hs (h := h.set b' (some (ints (r.set b (r[b] + 1))))) (b := b') (cs := ints (r.set b (r[b] + 1))) (by rw [row_set hrl]) (ints_one _)
        rw [ints_len, List.length_set, rl] at hfr
        simp [hfr]
        exact hga.upd hgb _
      · intro c2
        simp (disch := omega) [c2]
        have hfr := freeze_hs hrw (ints_one _)
        rw [ints_len, rl] at hfr
        simp [hfr]
        exact hga.upd hgb _
    · have op := fun {ks ops K e h Q d lent} => Of_p (ks := ks) (ops := ops) (K := K) (e := e) (h := h) (Q := Q) (d := d) (lent := lent) [] 0 (by simp)
      have i0 : ints [] = [] := rfl
      rw [i0] at op
      simp (disch := omega) [e3, op]
      refine fin _ _ fun h b' hgb hga hrw => ?_
      have hrl := row_lt hrw
      have hg := List.getElem?_eq_getElem hbr
      have hbn : b < n := by omega
      simp (disch := omega) [hrw, ints_get, hg, hbn]
      apply Xb_dec
      · intro c2
        have hlen : (ints r).length = r.length := ints_len r
        simp (disch := omega) [hrw, ints_get, hg, hlen, hbr, hbn]
        have hset : (ints r).set b (.int .i64 (r[b] + 1)) = ints (r.set b (r[b] + 1)) := by
          simp [ints, List.map_set]
        have hx : r[b] + 1 < 9223372036854775808 := by omega
        simp (disch := omega) [hset, c2]
        have hfr := freeze_hs (h := h.set b' (some (ints (r.set b (r[b] + 1))))) (b := b') (cs := ints (r.set b (r[b] + 1))) (by rw [row_set hrl]) (ints_one _)
        rw [ints_len, List.length_set, rl] at hfr
        simp [hfr]
        exact hga.upd hgb _
      · intro c2
        simp (disch := omega) [c2]
        have hfr := freeze_hs hrw (ints_one _)
        rw [ints_len, rl] at hfr
        simp [hfr]
        exact hga.upd hgb _)
  subst ev
  refine ⟨_, g', ?_, hg, k⟩
  split
  · rw [List.length_set]; omega
  · omega
/-- The cells of the free blocks. -/
def FreeV (F : List Int) (v : V) (pb : Nat) (g : Heap) : Prop :=
  (F = [] ∧ (v = .ps 1 [] ∨ v = .hn 1)) ∨ (F ≠ [] ∧ ∃ b R, v = .hs 1 b 0 F.length ∧ b ≠ pb ∧ Heap.row g b = some R ∧ R.take F.length = ints F ∧ F.length ≤ R.length)
structure PS (pb : Nat) (F C : List Int) (n op : Int) (o : Bool) (bl pg : Int) (g : Heap) : Prop where
  ex : ∃ v cv, FreeV F v pb g ∧ CntV C cv ∧ Heap.row g pb = some [v, cv, .int .i64 n, .int .u64 op, .bool o, .int .i64 bl, .int .i64 pg]
  fl : F.length ≤ 10
  nd : F.Nodup
  mem : ∀ x ∈ F, 0 ≤ x ∧ x ≤ 255
  cl : C.length ≤ 1024
theorem FreeV.app {F : List Int} {v : V} {pb : Nat} {g : Heap} (h : FreeV F v pb g) (w : Heap) : FreeV F v pb (g ++ w) := by
  rcases h with h | ⟨h1, b, R, h2, h3, h4, h5⟩
  · exact .inl h
  · exact .inr ⟨h1, b, R, h2, h3, by rw [row_app (hlt h4)]; exact h4, h5⟩
theorem FreeV.upd {F : List Int} {v : V} {pb : Nat} {g : Heap} (h : FreeV F v pb g) (x : Option (List V)) : FreeV F v pb (g.set pb x) := by
  rcases h with h | ⟨h1, b, R, h2, h3, h4, h5⟩
  · exact .inl h
  · exact .inr ⟨h1, b, R, h2, h3, by rw [row_ne (fun e => h3 e.symm)]; exact h4, h5⟩
theorem PS.app {pb : Nat} {F C : List Int} {n op : Int} {o : Bool} {bl pg : Int} {g : Heap} (hp : PS pb F C n op o bl pg g) (w : Heap) : PS pb F C n op o bl pg (g ++ w) := by
  obtain ⟨⟨v, cv, h1, h2, h3⟩, h4, h5, h6, h7⟩ := hp
  exact ⟨⟨v, cv, h1.app w, h2, by rw [row_app (hlt h3)]; exact h3⟩, h4, h5, h6, h7⟩
theorem swo_lt : Sort.SWO Sort.ltInt := Sort.swo_ltInt
theorem ddF_lt : ∀ (r : List Int) (p : Int), (p :: r).Pairwise (· ≤ ·) → (∀ x ∈ ddF p r, p < x) ∧ (ddF p r).Pairwise (· < ·)
  | [], p, _ => by simp [ddF]
  | y :: r, p, h => by
    have h1 := (List.pairwise_cons.1 h).1
    have h2 := (List.pairwise_cons.1 h).2
    have hy : p ≤ y := h1 y (by simp)
    rw [ddF]
    split
    · rename_i c
      subst c
      exact ddF_lt r y h2
    · rename_i c
      obtain ⟨i1, i2⟩ := ddF_lt r y h2
      refine ⟨fun x hx => ?_, List.pairwise_cons.2 ⟨i1, i2⟩⟩
      rcases List.mem_cons.1 hx with rfl | hx
      · omega
      · have := i1 x hx; omega
theorem dd_lt (l : List Int) (h : l.Pairwise (· ≤ ·)) : (dd l).Pairwise (· < ·) := by
  cases l with
  | nil => exact List.Pairwise.nil
  | cons x r =>
    obtain ⟨i1, i2⟩ := ddF_lt r x h
    exact List.pairwise_cons.2 ⟨i1, i2⟩
theorem ddF_sub : ∀ (r : List Int) (p x : Int), x ∈ ddF p r → x ∈ r
  | [], p, x, h => by simp [ddF] at h
  | y :: r, p, x, h => by
    rw [ddF] at h
    split at h
    · exact List.mem_cons_of_mem _ (ddF_sub r p x h)
    · rcases List.mem_cons.1 h with rfl | h
      · exact List.mem_cons_self
      · exact List.mem_cons_of_mem _ (ddF_sub r y x h)
theorem dd_sub (l : List Int) (x : Int) (h : x ∈ dd l) : x ∈ l := by
  cases l with
  | nil => simp [dd] at h
  | cons y r =>
    rcases List.mem_cons.1 h with rfl | h
    · exact List.mem_cons_self
    · exact List.mem_cons_of_mem _ (ddF_sub r y x h)
theorem ins_sorted (l : List Int) : ∃ l' : List Int, l'.Perm l ∧ l'.Pairwise (· ≤ ·) ∧ Sort.insertionSort Sort.ltInt l.toArray 0 l.toArray.size = l'.toArray := by
  obtain ⟨hp, hs⟩ := Sort.insertionSort_holds swo_lt l.toArray 0 l.toArray.size (Nat.zero_le _) (Nat.le_refl _)
  generalize Sort.insertionSort Sort.ltInt l.toArray 0 l.toArray.size = d at hp hs
  refine ⟨d.toList, ?_, ?_, rfl⟩
  · have := hp.2.2
    have ds : d.size = l.length := by simpa using hp.1
    simp at this
    rwa [List.take_of_length_le (by simp [ds])] at this
  · rw [List.pairwise_iff_getElem]
    intro i j hi hj hij
    have := hs i j (Nat.zero_le _) hij (by rw [← hp.1]; simpa using hj)
    simp only [Sort.ltInt, decide_eq_false_iff_not] at this
    simp at hi hj
    simp only [getElem!_pos d i hi, getElem!_pos d j hj] at this
    simp
    omega
theorem Sort_hn (h : Heap) : Run T f_slices_Sort_int_int [.hn 1] h (.tup []) h := by
  have r1 : Run T f_slices_insertionSortOrdered_int [.hn 1, .int .i64 0, .int .i64 0] h (.tup []) h := by
    refine Run.start t_slices_insertionSortOrdered_int ?_
    unfold k_slices_insertionSortOrdered_int
    simp (disch := omega)
    rw [L_slices_insertionSortOrdered_int_1]; unfold bl_slices_insertionSortOrdered_int_1
    simp (disch := omega)
  have r2 : ∀ lim, Run T f_slices_pdqsortOrdered_int [.hn 1, .int .i64 0, .int .i64 0, .int .i64 lim] h (.tup []) h := fun lim => by
    refine Run.start t_slices_pdqsortOrdered_int ?_
    unfold k_slices_pdqsortOrdered_int
    simp (disch := omega)
    rw [L_slices_pdqsortOrdered_int_0]; unfold bl_slices_pdqsortOrdered_int_0
    simp (disch := omega)
    rw [Xf_run r1]
    simp (disch := omega)
  refine Run.start t_slices_Sort_int_int ?_
  unfold k_slices_Sort_int_int
  have := len_run [] 0 (by omega)
  simp at this
  simp (disch := omega)
  rw [Xp_run this (by simp) (by simp) (by simp)]
  simp (disch := omega)
  rw [Xf_run (r2 _)]
  simp (disch := omega)
theorem Compact_hn (h : Heap) : Run T f_slices_Compact_int_int [.hn 1] h (.hn 1) h := by
  refine Run.start t_slices_Compact_int_int ?_
  unfold k_slices_Compact_int_int
  simp (disch := omega)
theorem New_run (l : List Int) (hl : l.length ≤ 10) (hm : ∀ x ∈ l, 0 ≤ x ∧ x ≤ 255) (n : Int) (h1 : 1 ≤ n) (h2 : n ≤ 9) : ∃ pb F g', Run T f_pool_New [.ps 1 (ints l), .ps 1 [], .int .i64 n, .int .u64 0] [] (.ptr pb 0) g' ∧ PS pb F [] n 0 false 0 0 g' := by
  have mx : max n 1 = n := by omega
  by_cases hne : l = []
  · subst hne
    obtain ⟨v, g', ⟨pb, ev, hp⟩, r⟩ := Run.startP (P := fun v g' => ∃ pb, v = .ptr pb 0 ∧ PS pb [] [] n 0 false 0 0 g') (vs := [.ps 1 (ints []), .ps 1 [], .int .i64 n, .int .u64 0]) (h := []) t_pool_New (by
      unfold k_pool_New
      have e : ints [] = [] := rfl
      simp (disch := omega) [e]
      rw [Xf_run (Clone_nil _)]
      simp (disch := omega)
      rw [Xf_run (Sort_hn _)]
      simp (disch := omega)
      rw [Xf_run (Compact_hn _)]
      simp (disch := omega)
      rw [Xf_run (Clone_nil _)]
      simp (disch := omega) [mx]
      exact ⟨⟨.hn 1, .hn 1, .inl ⟨rfl, .inr rfl⟩, .inr ⟨rfl, rfl⟩, rfl⟩, by simp, by simp, by simp, by simp⟩)
    subst ev
    exact ⟨pb, [], g', r, hp⟩
  · obtain ⟨l', hp, hs, he⟩ := ins_sorted l
    have hl' : l'.length = l.length := hp.length_eq
    have ne' : l' ≠ [] := fun e => hne (List.eq_nil_of_length_eq_zero (by rw [← hl', e]; rfl))
    have dp := dd_pos l' ne'
    have dl := dd_len l'
    obtain ⟨v, g', ⟨pb, ev, hps⟩, r⟩ := Run.startP (P := fun v g' => ∃ pb, v = .ptr pb 0 ∧ PS pb (dd l') [] n 0 false 0 0 g') (vs := [.ps 1 (ints l), .ps 1 [], .int .i64 n, .int .u64 0]) (h := []) t_pool_New (by
      unfold k_pool_New
      simp (disch := omega)
      rw [Xf_run (Clone_int l (by omega) hne [])]
      simp (disch := omega)
      have rs := sort_small (h := [some (ints l)]) (b := 0) (by simp) l.toArray (by simpa using (by omega : l.length ≤ 12))
      rw [he] at rs
      have s0 : SD [some (ints l)] 0 l.toArray = [some (ints l)] := rfl
      have s1 : SD [some (ints l)] 0 l'.toArray = [some (ints l')] := rfl
      rw [s0, s1] at rs
      have ls : l.toArray.size = l.length := by simp
      rw [ls] at rs
      rw [Xf_run rs]
      simp (disch := omega)
      obtain ⟨h', R, rc, q1, q2, q3, q4⟩ := Compact_run l' (by omega) ne' 0 [some (ints l')] rfl
      rw [hl'] at rc
      rw [Xf_run rc]
      simp (disch := omega)
      rw [Xf_run (Clone_nil _)]
      simp (disch := omega) [mx]
      have dne : dd l' ≠ [] := fun e => by rw [e] at dp; simp at dp
      have h0 : 0 < h'.length := hlt q2
      refine ⟨⟨_, _, .inr ⟨dne, 0, R, rfl, by omega, ?_, q4, q3⟩, .inr ⟨rfl, rfl⟩, ?_⟩, by omega, ?_, ?_, by simp⟩
      · rw [row_app h0]; exact q2
      · rw [row_new]
      · exact (dd_lt l' hs).imp fun h => by omega
      · exact fun x hx => hm x (hp.mem_iff.1 (dd_sub l' x hx)))
    subst ev
    exact ⟨pb, _, g', r, hps⟩
section
variable {pb : Nat} {F C : List Int} {n op : Int} {o : Bool} {bl pg : Int} {g : Heap}
theorem At_run (hp : PS pb F C n op o bl pg g) : ∃ g', Run T f_pool_Pool_At [.ptr pb 0] g (.tup [if o then .agg [.int .i64 bl, .int .i64 pg] else .agg [.int .i64 0, .int .i64 0], .bool o]) g' ∧ PS pb F C n op o bl pg g' := by
  obtain ⟨⟨v, cv, h1, h2, h3⟩, h4, h5, h6, h7⟩ := hp
  have pl := hlt h3
  obtain ⟨v', g', ⟨ev, hps⟩, r⟩ := Run.startP (P := fun v g' => v = .tup [if o then .agg [.int .i64 bl, .int .i64 pg] else .agg [.int .i64 0, .int .i64 0], .bool o] ∧ PS pb F C n op o bl pg g') (vs := [.ptr pb 0]) (h := g) t_pool_Pool_At (by
    unfold k_pool_Pool_At
    cases o
    · simp (disch := omega) [h3]
      exact PS.app ⟨⟨v, cv, h1, h2, h3⟩, h4, h5, h6, h7⟩ _
    · simp (disch := omega) [h3]
      exact PS.app ⟨⟨v, cv, h1, h2, h3⟩, h4, h5, h6, h7⟩ _)
  subst ev
  exact ⟨g', r, hps⟩
theorem Opening_run (hp : PS pb F C n op o bl pg g) : Run T f_pool_Pool_Opening [.ptr pb 0] g (.int .u64 op) g := by
  obtain ⟨⟨v, cv, h1, h2, h3⟩, h4, h5, h6, h7⟩ := hp
  refine Run.start t_pool_Pool_Opening ?_
  unfold k_pool_Pool_Opening
  simp (disch := omega) [h3]
theorem Room_run (hp : PS pb F C n op o bl pg g) (h1 : 1 ≤ n) (h2 : n ≤ 9) (p0 : 0 ≤ pg) (p1 : pg ≤ n) : Run T f_pool_Pool_Room [.ptr pb 0] g (.int .i64 (F.length * n + if o then n - pg else 0)) g := by
  obtain ⟨⟨v, cv, q1, q2, h3⟩, h4, h5, h6, h7⟩ := hp
  have b1 : 0 ≤ (F.length : Int) * n := Int.mul_nonneg (by omega) (by omega)
  have b2 : (F.length : Int) * n ≤ 10 * 9 := Int.mul_le_mul (by omega) (by omega) (by omega) (by omega)
  have lv : lenV false v = some (.int .i64 F.length) := by
    rcases q1 with ⟨rfl, rfl | rfl⟩ | ⟨_, b, R, rfl, _⟩ <;> rfl
  refine Run.start t_pool_Pool_Room ?_
  unfold k_pool_Pool_Room
  cases o
  · simp (disch := omega) [h3, lv]
  · simp (disch := omega) [h3, lv]
theorem Step_run (hp : PS pb F C n op o bl pg g) (h1 : 1 ≤ n) (h2 : n ≤ 9) (p0 : 0 ≤ pg) (p1 : pg < n) : ∃ g', Run T f_pool_Pool_Step [.ptr pb 0] g (.tup []) g' ∧ (o = true → PS pb F C n op (decide (pg + 1 < n)) bl (pg + 1) g') := by
  obtain ⟨⟨v, cv, q1, q2, h3⟩, h4, h5, h6, h7⟩ := hp
  have pl := hlt h3
  obtain ⟨v', g', ⟨ev, hps⟩, r⟩ := Run.startP (P := fun v g' => v = .tup [] ∧ (o = true → PS pb F C n op (decide (pg + 1 < n)) bl (pg + 1) g')) (vs := [.ptr pb 0]) (h := g) t_pool_Pool_Step (by
    unfold k_pool_Pool_Step
    cases o
    · simp (disch := omega) [h3]
    · simp (disch := omega) [h3]
      exact ⟨⟨v, cv, q1.upd _, q2, row_set pl⟩, h4, h5, h6, h7⟩)
  subst ev
  exact ⟨g', r, hps⟩
theorem thawH {b : Nat} {R : List V} (h9 : g.row b = some R) (h10 : R.take F.length = ints F) (h11 : F.length ≤ R.length) : ((hsCells g 1 b 0 F.length).bind fun cs => if chunkOk 1 false cs = true then some (V.ps 1 (chunk 1 false F.length cs)) else none) = some (.ps 1 (ints F)) := by
  have hc : hsCells g 1 b 0 F.length = some (ints F) := by
    simp [hsCells, h9, h10, h11]
  have il : (ints F).length = F.length := ints_len F
  have ck : chunkOk 1 false (ints F) = true := by
    simp [chunkOk, ints]
  have cu : chunk 1 false F.length (ints F) = ints F := chunk1 _ _ il
  rw [hc, Option.bind_some, if_pos ck, cu]
theorem Best_run (hp : PS pb F C n op o bl pg g) : Run T f_pool_Pool_Best [.ptr pb 0] g (.tup [.int .i64 (bestS (aheadL C) F), .bool (decide (F ≠ []))]) g := by
  obtain ⟨⟨v, cv, q1, q2, h3⟩, h4, h5, h6, h7⟩ := hp
  have lp : ∀ {ks ops K e Q d lent}, Xp T f_wear_Least (some ([.ps 1 (ints F), .ps 1 (ints C)], lent)) g (some d) ops K ks e Q = Xo T ops K ks ((d, .tup [.int .i64 (bestS (aheadL C) F), .bool (decide (F ≠ []))]) :: e) g Q := Least_p F C (by omega) (by omega)
  refine Run.start t_pool_Pool_Best ?_
  unfold k_pool_Pool_Best
  have i0 : ints [] = [] := rfl
  rcases q1 with ⟨rfl, rfl | rfl⟩ | ⟨hne, b, R, rfl, h8, h9, h10, h11⟩
  · rw [i0] at lp
    rcases q2 with rfl | ⟨rfl, rfl⟩
    · simp (disch := omega) [h3, lp]
    · rw [i0] at lp
      simp (disch := omega) [h3, lp]
  · rw [i0] at lp
    rcases q2 with rfl | ⟨rfl, rfl⟩
    · simp (disch := omega) [h3, lp]
    · rw [i0] at lp
      simp (disch := omega) [h3, lp]
  · have th := thawH h9 h10 h11
    rcases q2 with rfl | ⟨rfl, rfl⟩
    · simp (disch := omega) [h3, th, lp, hne]
    · rw [i0] at lp
      simp (disch := omega) [h3, th, lp, hne]
theorem Begin1_run (b : Int) (s : Nat) (g : Heap) (hr : g.row s = some [.int .i64 b]) (y : Int) : Run T f_pool_Pool_Begin_1 [.int .i64 y, .ptr s 0] g (.bool (decide (y = b))) g := by
  refine Run.start t_pool_Pool_Begin_1 ?_
  unfold k_pool_Pool_Begin_1
  simp (disch := omega) [hr]
theorem Begin_run (hp : PS pb F C n op o bl pg g) (ho : o = false) (h0 : 0 ≤ op) (h1 : op < 1000) (b : Int) (hb : b ∈ F) : ∃ C' g', Run T f_pool_Pool_Begin [.ptr pb 0, .int .i64 b, .bool true] g (.bool true) g' ∧ PS pb (F.filter fun y => !decide (y = b)) C' n (op + 1) true b 0 g' := by
  obtain ⟨⟨v, cv, q1, q2, h3⟩, h4, h5, h6, h7⟩ := hp
  have pl := hlt h3
  have hne : F ≠ [] := fun e => by rw [e] at hb; cases hb
  subst ho
  rcases q1 with ⟨h, _⟩ | ⟨_, fb, R, rfl, h8, h9, h10, h11⟩
  · exact absurd h hne
  obtain ⟨b1, b2⟩ := h6 b hb
  obtain ⟨bn, rfl⟩ : ∃ k : Nat, b = k := ⟨b.toNat, by omega⟩
  have th := fun w => thawH (g := g ++ w) (F := F) (b := fb) (by rw [row_app (hlt h9)]; exact h9) h10 h11
  have cp : ∀ {ks ops K e Q d lent g}, Xp T f_slices_Contains_int_int (some ([.ps 1 (ints F), .int .i64 bn], lent)) g (some d) ops K ks e Q = Xo T ops K ks ((d, .bool true) :: e) g Q := by
    intro ks ops K e Q d lent g
    have := Contains_p (ks := ks) (ops := ops) (K := K) (e := e) (h := g) (Q := Q) (d := d) (lent := lent) F bn (by omega)
    simpa [hb] using this
  have pfl := hlt h9
  obtain ⟨v', g', ⟨C', ev, hps⟩, r⟩ := Run.startP (P := fun v g' => ∃ C', v = .bool true ∧ PS pb (F.filter fun y => !decide (y = (bn : Int))) C' n (op + 1) true bn 0 g') (vs := [.ptr pb 0, .int .i64 bn, .bool true]) (h := g) t_pool_Pool_Begin (by
    unfold k_pool_Pool_Begin
    have r0 : Heap.row (g ++ [some [V.int .i64 (bn : Int)]]) pb = g.row pb := row_app pl
    have r0f : Heap.row (g ++ [some [V.int .i64 (bn : Int)]]) fb = some R := by rw [row_app pfl]; exact h9
    have pd : Pd (g ++ [some [V.int .i64 (bn : Int)]]) fb f_pool_Pool_Begin_1 [.ptr g.length 0] (fun y => decide (y = (bn : Int))) := ⟨rfl, fun g2 hk y => Begin1_run bn g.length g2 (by
      rw [hk.2 g.length (by omega) (by simp), row_new]) y⟩
    obtain ⟨g1, R1, rd, k1, k2, k3, k4⟩ := dlf_run pd F (by omega) hne R h10 h11 (HK.refl _ _) r0f
    simp (disch := omega) [h3, r0, th, cp]
    rw [Xf_run rd]
    have p1 : Heap.row g1 pb = g.row pb := by rw [k1.2 pb (fun e => h8 e.symm) (by simp; omega)]; exact r0
    have p2 : Heap.row g1 g.length = some [.int .i64 bn] := by rw [k1.2 g.length (by omega) (by simp), row_new]
    have pl1 := hlt p2
    have plb : pb < g1.length := by omega
    have pn : g.length ≠ pb := by omega
    have fc : (fv fb (F.filter fun y => !decide (y = (bn : Int)))).cells = [fv fb (F.filter fun y => !decide (y = (bn : Int)))] := by unfold fv; split <;> rfl
    have fo : (fv fb (F.filter fun y => !decide (y = (bn : Int)))).one = true := by unfold fv; split <;> rfl
    obtain ⟨g2, hg2⟩ : ∃ g2, g2 = g1.set pb (some [fv fb (F.filter fun y => !decide (y = (bn : Int))), cv, .int .i64 n, .int .u64 op, .bool false, .int .i64 bl, .int .i64 pg]) := ⟨_, rfl⟩
    have p3 : Heap.row g2 g.length = some [.int .i64 bn] := by rw [hg2, row_ne (fun e => pn e.symm)]; exact p2
    have p4 : Heap.row g2 pb = some [fv fb (F.filter fun y => !decide (y = (bn : Int))), cv, .int .i64 n, .int .u64 op, .bool false, .int .i64 bl, .int .i64 pg] := by rw [hg2, row_set plb]
    have p5 : Heap.row g2 fb = some R1 := by rw [hg2, row_ne (fun e => h8 e.symm)]; exact k2
    simp (disch := omega) [h3, p1, p2, plb, fc, fo]
    rw [← hg2]
    obtain ⟨C', g3, c1, ha, rA⟩ := AddG_run g2 C cv q2 bn h7 (by omega)
    have pl2 := hlt p3
    have plb2 : pb < g2.length := hlt p4
    have p6 : Heap.row g3 g.length = some [.int .i64 bn] := by rw [ha.2 _ pl2]; exact p3
    have p7 : Heap.row g3 pb = some [fv fb (F.filter fun y => !decide (y = (bn : Int))), cv, .int .i64 n, .int .u64 op, .bool false, .int .i64 bl, .int .i64 pg] := by rw [ha.2 _ plb2]; exact p4
    have p8 : Heap.row g3 fb = some R1 := by rw [ha.2 _ (hlt p5)]; exact p5
    have plb3 := hlt p7
    have p9 : ∀ x, Heap.row (g3.set pb x) g.length = some [.int .i64 bn] := fun x => by rw [row_ne (fun e => pn e.symm)]; exact p6
    have opw : op + 1 < 18446744073709551616 := by omega
    have fin : PS pb (F.filter fun y => !decide (y = (bn : Int))) C' n (op + 1) true bn 0 (g3.set pb (some [fv fb (F.filter fun y => !decide (y = (bn : Int))), .ps 1 (ints C'), .int .i64 n, .int .u64 (op + 1), .bool true, .int .i64 bn, .int .i64 0])) := by
      refine ⟨⟨_, _, ?_, .inl rfl, row_set plb3⟩, ?_, h5.filter _, fun x hx => h6 x (List.mem_filter.1 hx).1, c1⟩
      · refine FreeV.upd ?_ _
        unfold fv
        by_cases z : (F.filter fun y => !decide (y = (bn : Int))) = []
        · rw [if_pos z]; exact .inl ⟨z, .inl rfl⟩
        · rw [if_neg z]; exact .inr ⟨z, fb, R1, rfl, h8, p8, k3, k4⟩
      · exact Nat.le_trans (List.length_filter_le _ _) h4
    rw [Xf_run rA]
    generalize fv fb (F.filter fun y => !decide (y = (bn : Int))) = fx at *
    simp (disch := omega) [p6, p7, p9, plb3, opw]
    apply Xc_regf
    simp (disch := omega) [p6, p9, plb3]
    simp (disch := omega) [flagsIn, flagP, evOp, p6, p9, plb3]
    exact ⟨C', fin⟩)
  subst ev
  exact ⟨C', g', r, hps⟩
end
theorem bestS_mem (ahead : Int → Int → Bool) : ∀ (l : List Int), l ≠ [] → bestS ahead l ∈ l := by
  have key : ∀ (k : Nat) (l : List Int), l.length = k + 1 → bestS ahead l ∈ l := by
    intro k
    induction k with
    | zero =>
      intro l hl
      match l, hl with
      | [x], _ => simp [bestS_one]
    | succ k ih =>
      intro l hl
      obtain ⟨r, b, rfl⟩ : ∃ r b, l = r ++ [b] := ⟨l.dropLast, l.getLast (by intro e; rw [e] at hl; cases hl), (List.dropLast_concat_getLast _).symm⟩
      have hr : r.length = k + 1 := by simpa using hl
      have hne : r ≠ [] := by intro e; rw [e] at hr; cases hr
      rw [bestS_app ahead r b hne]
      split
      · simp
      · exact List.mem_append_left _ (ih r hr)
  intro l hl
  exact key (l.length - 1) l (by have : l.length ≠ 0 := fun e => hl (List.eq_nil_of_length_eq_zero e); omega)
theorem filter_one (F : List Int) (b : Int) (hb : b ∈ F) (hn : F.Nodup) : (F.filter fun y => !decide (y = b)).length + 1 = F.length := by
  induction F with
  | nil => cases hb
  | cons x r ih =>
    obtain ⟨h1, h2⟩ := List.nodup_cons.1 hn
    by_cases c : x = b
    · subst c
      have : (r.filter fun y => !decide (y = x)) = r := List.filter_eq_self.2 fun y hy => by
        have : y ≠ x := fun e => h1 (e ▸ hy)
        simp [this]
      simp [this]
    · have := ih (by rcases List.mem_cons.1 hb with e | e; exact absurd e.symm c; exact e) h2
      simp [c]; exact this
/-- What holds ahead of step i. -/
def InvP (F0 n : Int) (i : Int) (f op : Int) (o : Bool) (pg : Int) : Prop :=
  0 ≤ op ∧ 0 ≤ f ∧ f + op = F0 ∧ (o = true → 1 ≤ pg ∧ pg < n ∧ i = (op - 1) * n + pg) ∧ (o = false → i = op * n)
theorem InvP.room {F0 n i f op : Int} {o : Bool} {pg : Int} (h : InvP F0 n i f op o pg) (h1 : 1 ≤ n) (h2 : n ≤ 9) : f * n + (if o then n - pg else 0) = F0 * n - i := by
  obtain ⟨a1, a0, a2, a3, a4⟩ := h
  have : n = 1 ∨ n = 2 ∨ n = 3 ∨ n = 4 ∨ n = 5 ∨ n = 6 ∨ n = 7 ∨ n = 8 ∨ n = 9 := by omega
  cases o
  · have := a4 rfl
    rcases ‹n = 1 ∨ _› with rfl | rfl | rfl | rfl | rfl | rfl | rfl | rfl | rfl <;> simp <;> omega
  · obtain ⟨b1, b2, b3⟩ := a3 rfl
    rcases ‹n = 1 ∨ _› with rfl | rfl | rfl | rfl | rfl | rfl | rfl | rfl | rfl <;> simp <;> omega
theorem InvP.ceil {F0 n i f op : Int} {o : Bool} {pg : Int} (h : InvP F0 n i f op o pg) (h1 : 1 ≤ n) (h2 : n ≤ 9) : (i + n - 1) / n = op := by
  obtain ⟨a1, a0, a2, a3, a4⟩ := h
  have : n = 1 ∨ n = 2 ∨ n = 3 ∨ n = 4 ∨ n = 5 ∨ n = 6 ∨ n = 7 ∨ n = 8 ∨ n = 9 := by omega
  cases o
  · have := a4 rfl
    rcases ‹n = 1 ∨ _› with rfl | rfl | rfl | rfl | rfl | rfl | rfl | rfl | rfl <;> omega
  · obtain ⟨b1, b2, b3⟩ := a3 rfl
    rcases ‹n = 1 ∨ _› with rfl | rfl | rfl | rfl | rfl | rfl | rfl | rfl | rfl <;> omega
theorem InvP.open {F0 n i f op : Int} {pg : Int} (h : InvP F0 n i f op true pg) (h1 : 1 ≤ n) (h2 : n ≤ 9) : InvP F0 n (i + 1) f op (decide (pg + 1 < n)) (pg + 1) := by
  obtain ⟨a1, a0, a2, a3, a4⟩ := h
  obtain ⟨b1, b2, b3⟩ := a3 rfl
  refine ⟨a1, a0, a2, fun e => ?_, fun e => ?_⟩
  · have : pg + 1 < n := of_decide_eq_true e
    exact ⟨by omega, this, by omega⟩
  · have : ¬ pg + 1 < n := of_decide_eq_false e
    have : pg + 1 = n := by omega
    have : (op - 1) * n = op * n - n := by rw [Int.sub_mul, Int.one_mul]
    omega
theorem InvP.begin {F0 n i f op : Int} {pg : Int} (h : InvP F0 n i f op false pg) (h1 : 1 ≤ n) (h2 : n ≤ 9) (hf : 1 ≤ f) : InvP F0 n (i + 1) (f - 1) (op + 1) (decide (0 + 1 < n)) (0 + 1) := by
  obtain ⟨a1, a0, a2, a3, a4⟩ := h
  have := a4 rfl
  refine ⟨by omega, by omega, by omega, fun e => ?_, fun e => ?_⟩
  · have : (0 : Int) + 1 < n := of_decide_eq_true e
    refine ⟨by omega, this, ?_⟩
    rw [Int.add_sub_cancel]; omega
  · have : ¬ (0 : Int) + 1 < n := of_decide_eq_false e
    have : n = 1 := by omega
    subst this; omega
/-- What follows once a block is open. -/
def poolTl : ACode := match bl_law23_PoolRoom_1 with | .seq _ (.seq (.block _ (.seq _ t)) _) => t | _ => .skip
def poolCt : ACode := match bl_law23_PoolRoom_1 with | .seq _ (.seq _ t) => t | _ => .skip
section
variable {n room : Int} {u : Int} {pb : Nat}
theorem room_tail (h1 : 1 ≤ n) (h2 : n ≤ 9) (F0 : Nat) (hF : F0 ≤ 10) (hroom : room = F0 * n) (hu : 0 ≤ u ∧ u < 256) (i : Int) (hi0 : 0 ≤ i) (hi : i < 200) (F C : List Int) (op : Int) (bl pg : Int) (g : Heap) (hp : PS pb F C n op true bl pg g) (p0 : 0 ≤ pg) (p1 : pg < n) (hv : InvP F0 n (i + 1) F.length op (decide (pg + 1 < n)) (pg + 1)) (s : Nat) (hs : s = 66 ∨ s = 55) (ks : List Kt) (Q : Ex → Env → Heap → Prop)
    (hx : ∀ z g', PS pb F C n op (decide (pg + 1 < n)) bl (pg + 1) g' → Xk T ks .n ([(2, .int .u8 u), (9, .int .i64 n), (10, .ptr pb 0), (11, .int .i64 room), (12, .int .i64 (i + 1)), (13, .int .i64 i)] ++ z) g' Q) :
    Xc T poolTl ks [(2, .int .u8 u), (9, .int .i64 n), (10, .ptr pb 0), (11, .int .i64 room), (12, .int .i64 i), (13, .int .i64 i), (s, .bool false)] g Q := by
  obtain ⟨g1, r1, hp1⟩ := Step_run hp h1 h2 p0 p1
  have hp1 := hp1 rfl
  have rr := Room_run hp1 h1 h2 (by omega) (by omega)
  have hr := hv.room h1 h2
  have b0 : 0 ≤ (F0 : Int) * n := Int.mul_nonneg (by omega) (by omega)
  have b1 : (F0 : Int) * n ≤ 10 * 9 := Int.mul_le_mul (by omega) (by omega) (by omega) (by omega)
  rw [hr, ← hroom] at rr
  rw [← hroom] at b0 b1
  unfold poolTl bl_law23_PoolRoom_1
  rcases hs with rfl | rfl
  all_goals
    simp (disch := omega)
    rw [Xf_run r1]
    simp (disch := omega)
    by_cases c : i + 1 = u
    · simp (disch := omega) [c]
      rw [Xf_run rr]
      simp (disch := omega) [c]
      have := hx [(82, .bool false)] g1 hp1
      rw [c] at this
      simpa using this
    · simp (disch := omega) [c]
      exact hx [(82, .bool false)] g1 hp1
theorem room_loop (h1 : 1 ≤ n) (h2 : n ≤ 9) (F0 : Nat) (hF : F0 ≤ 10) (hroom : room = F0 * n) (hu : 0 ≤ u ∧ u < 256) : ∀ (m : Nat) (i : Int) (F C : List Int) (op : Int) (o : Bool) (bl pg : Int) (g : Heap), i + m = 200 → 0 ≤ i → PS pb F C n op o bl pg g → InvP F0 n i F.length op o pg → ∀ ks Q,
    (∀ z g' F C op o bl pg (i : Int), PS pb F C n op o bl pg g' → InvP F0 n i F.length op o pg → (i = room ∨ i = 200) → 0 ≤ i → Xk T ks (.x 2) ((2, .int .u8 u) :: (9, .int .i64 n) :: (10, .ptr pb 0) :: (11, .int .i64 room) :: (12, .int .i64 i) :: z) g' Q) →
    Xc T l_law23_PoolRoom_1 ks [(2, .int .u8 u), (9, .int .i64 n), (10, .ptr pb 0), (11, .int .i64 room), (12, .int .i64 i), (13, .int .i64 i)] g Q := by
  intro m
  induction m with
  | zero =>
    intro i F C op o bl pg g hi h0 hp hv ks Q hx
    rw [L_law23_PoolRoom_1]; unfold bl_law23_PoolRoom_1
    have e : i = 200 := by omega
    subst e
    simp (disch := omega)
    exact hx _ g F C op o bl pg 200 hp hv (.inr rfl) (by omega)
  | succ m ih =>
    intro i F C op o bl pg g hi h0 hp hv ks Q hx
    have fin : ∀ (F C : List Int) (op bl pg : Int) (g : Heap), PS pb F C n op true bl pg g → 0 ≤ pg → pg < n → InvP F0 n (i + 1) F.length op (decide (pg + 1 < n)) (pg + 1) → ∀ s, s = 66 ∨ s = 55 →
        Xc T poolTl (.block 3 :: .seq poolCt :: .seq l_law23_PoolRoom_1 :: ks) [(2, .int .u8 u), (9, .int .i64 n), (10, .ptr pb 0), (11, .int .i64 room), (12, .int .i64 i), (13, .int .i64 i), (s, .bool false)] g Q := fun F C op bl pg g hp p0 p1 hv s hs => by
      refine room_tail h1 h2 F0 hF hroom hu i h0 (by omega) F C op bl pg g hp p0 p1 hv s hs _ _ fun z g' hp' => ?_
      have := ih (i + 1) F C op _ bl (pg + 1) g' (by omega) (by omega) hp' hv ks Q hx
      unfold poolCt bl_law23_PoolRoom_1
      simp (disch := omega)
      exact this
    have e : i < 200 := by omega
    obtain ⟨g1, rAt, hp1⟩ := At_run hp
    have hb : bl_law23_PoolRoom_1 = match bl_law23_PoolRoom_1 with | .seq a (.seq (.block k (.seq b _)) _) => .seq a (.seq (.block k (.seq b poolTl)) poolCt) | _ => .skip := rfl
    rw [L_law23_PoolRoom_1, hb]; unfold bl_law23_PoolRoom_1
    simp (disch := omega) [e]
    rw [Xf_run rAt]
    cases o
    · have hp2 := hp1.app [some [.int .i64 0, .int .i64 0]]
      have rB := Best_run hp2
      simp (disch := omega)
      rw [Xf_run rB]
      by_cases c : F = []
      · simp (disch := omega) [c]
        refine hx _ _ F C op false bl pg i hp2 hv (.inl ?_) h0
        have := hv.room h1 h2
        rw [c] at this
        simp at this
        omega
      · obtain ⟨C', g3, rG, hp3⟩ := Begin_run hp2 rfl hv.1 (by have := hv.2.1; have := hv.2.2.1; omega) _ (bestS_mem (aheadL C) F c)
        simp (disch := omega) [c]
        rw [Xf_run rG]
        have fl := filter_one F _ (bestS_mem (aheadL C) F c) hp.nd
        have hv' := hv.begin h1 h2 (by omega)
        have := fin _ C' (op + 1) _ 0 g3 hp3 (by omega) (by omega) (by
          have e2 : ((F.filter fun y => !decide (y = bestS (aheadL C) F)).length : Int) = F.length - 1 := by omega
          rw [e2]; exact hv') 66 (.inl rfl)
        simp (disch := omega)
        exact this
    · simp (disch := omega)
      have hp2 := hp1.app [some [.int .i64 bl, .int .i64 pg]]
      obtain ⟨q1, q2, q3⟩ := hv.2.2.2.1 rfl
      exact fin F C op bl pg _ hp2 (by omega) (by omega) (hv.open h1 h2) 55 (.inr rfl)
end
def u8L (b : List UInt8) : List Int := b.map fun x => (x.toNat : Int)
theorem free_loop (b : List UInt8) (hb : b.length < 4611686018427387904) (x1 x2 : V) (h : Heap) : ∀ (m i : Nat), i + m = 10 → i ≤ b.length → ∀ ks Q,
    (∀ k, k ≤ 10 → k ≤ b.length → ∀ z, Xk T ks (.x 0) ((0, .ps 1 (bys b)) :: (1, x1) :: (2, x2) :: (7, .ps 1 (ints (u8L (b.take k)))) :: z) h Q) →
    Xc T l_law23_PoolRoom_0 ks [(0, .ps 1 (bys b)), (1, x1), (2, x2), (7, .ps 1 (ints (u8L (b.take i)))), (8, .int .i64 i)] h Q := by
  intro m
  induction m with
  | zero =>
    intro i hi hil ks Q hx
    rw [L_law23_PoolRoom_0]; unfold bl_law23_PoolRoom_0
    have c1 : ¬ (i : Int) < 10 := by omega
    by_cases c : i < b.length
    · have c' : (i : Int) < b.length := by omega
      simp (disch := omega) [c, c', c1, bys_len]
      exact hx i (by omega) hil _
    · have c' : ¬ (i : Int) < b.length := by omega
      simp (disch := omega) [c, c', c1, bys_len]
      exact hx i (by omega) hil _
  | succ m ih =>
    intro i hi hil ks Q hx
    rw [L_law23_PoolRoom_0]; unfold bl_law23_PoolRoom_0
    have c1 : (i : Int) < 10 := by omega
    by_cases c : i < b.length
    · have c' : (i : Int) < b.length := by omega
      have := ih (i + 1) (by omega) c ks Q hx
      have e : u8L (b.take (i + 1)) = u8L (b.take i) ++ [(b[i].toNat : Int)] := by
        unfold u8L
        rw [List.take_succ, List.getElem?_eq_getElem c, List.map_append]; rfl
      have e2 : ints (u8L (b.take (i + 1))) = ints (u8L (b.take i)) ++ [V.int .i64 (b[i].toNat : Int)] := by rw [e]; simp [ints]
      have bl := b[i].toNat_lt
      have il : (ints (u8L (b.take i))).length = i := by simp [ints, u8L]; omega
      rw [e2] at this
      simp (disch := omega) [c, c', c1, bys_len, bys_get, List.getElem?_eq_getElem c, byteV, il]
      exact this
    · have c' : ¬ (i : Int) < b.length := by omega
      simp (disch := omega) [c, c', c1, bys_len]
      exact hx i (by omega) hil _
theorem PoolRoom_run (b : List UInt8) (hb : b.length < 4611686018427387904) (p u : Int) (hp : 0 ≤ p ∧ p < 256) (hu : 0 ≤ u ∧ u < 256) : ∃ h', Run T f_law23_PoolRoom [.ps 1 (bys b), .int .u8 p, .int .u8 u] [] (.bool true) h' := by
  refine Run.startE t_law23_PoolRoom ?_
  unfold k_law23_PoolRoom
  simp (disch := omega)
  have l0 := free_loop b hb (.int .u8 p) (.int .u8 u) [] 10 0 (by omega) (by omega)
  have e0 : ints (u8L (b.take 0)) = [] := rfl
  rw [e0] at l0
  refine l0 _ _ fun k k1 k2 z => ?_
  have tl : (u8L (b.take k)).length ≤ 10 := by simp [u8L]; omega
  have tm : ∀ x ∈ u8L (b.take k), 0 ≤ x ∧ x ≤ 255 := fun x hx => by
    obtain ⟨y, _, rfl⟩ := List.mem_map.1 hx
    have := y.toNat_lt
    omega
  have n1 : p % 9 + 1 ≤ 9 := by omega
  have n0 : 1 ≤ p % 9 + 1 := by omega
  have pm : p.tmod 9 = p % 9 := Int.tmod_eq_emod_of_nonneg hp.1
  obtain ⟨pb, F, g1, rN, hps⟩ := New_run (u8L (b.take k)) tl tm (p % 9 + 1) n0 n1
  have rR := Room_run hps n0 n1 (by omega) (by omega)
  simp (disch := omega) [pm]
  generalize p % 9 + 1 = n at *
  rw [Xf_run rN]
  simp (disch := omega)
  simp only [Bool.false_eq_true, if_false, Int.add_zero] at rR
  rw [Xf_run rR]
  simp (disch := omega)
  have hv : InvP F.length n 0 F.length 0 false 0 := ⟨by omega, by omega, by omega, fun e => (by cases e), fun _ => by simp⟩
  have lp := room_loop (room := (F.length : Int) * n) (u := u) (pb := pb) n0 n1 F.length hps.fl rfl hu 200 0 F [] 0 false 0 0 g1 (by omega) (by omega) hps hv
  refine lp _ _ fun z g' F' C' op o bl pg i hp' hv' hi i0 => ?_
  have rO := Opening_run hp'
  have ce := hv'.ceil n0 n1
  have i2 : i ≤ 200 := by
    rcases hi with rfl | rfl
    · have b1 : (F.length : Int) * n ≤ 10 * 9 := Int.mul_le_mul (by have := hps.fl; omega) (by omega) (by omega) (by omega)
      omega
    · omega
  have op0 : 0 ≤ op := hv'.1
  have op1 : op ≤ 10 := by have := hv'.2.1; have := hv'.2.2.1; have := hps.fl; omega
  have td : (i + n - 1).tdiv n = op := by rw [Int.tdiv_eq_ediv_of_nonneg (by omega)]; exact ce
  have n00 : n ≠ 0 := by omega
  generalize (F.length : Int) * n = room at *
  by_cases ci : i = room
  · simp (disch := omega) [awake23_p, ci]
    rw [Xf_run rO]
    rw [ci] at td i0 i2
    simp (disch := omega) [td, n00]
  · have c2 : i = 200 := by omega
    have c3 : ¬ (200 : Int) = room := by omega
    simp (disch := omega) [awake23_p, c2, c3]
    rw [Xf_run rO]
    rw [c2] at td
    simp (disch := omega) [td, n00]
theorem law_PoolRoom (x y z : V) (hx : Ty (.sl false 1 [.i .u8]) x) (hy : Ty (.i .u8) y) (hz : Ty (.i .u8) z) : ∃ h', Run T f_law23_PoolRoom [x, y, z] [] (.bool true) h' := by
  obtain ⟨b, rfl, hb⟩ := hx.bytes
  obtain ⟨p, rfl, p0, p1⟩ := hy.int
  obtain ⟨u, rfl, u0, u1⟩ := hz.int
  have e0 : IntKind.u8.min = 0 := by decide
  have e1 : IntKind.u8.max = 255 := by decide
  rw [e0] at p0 u0
  rw [e1] at p1 u1
  exact PoolRoom_run b (by omega) p u ⟨p0, by omega⟩ ⟨u0, by omega⟩
end Ev
