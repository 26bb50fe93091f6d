/- The partitions, joined. The partition of equals. The sort itself. A station: frames as values; may a frame be? A station: does a frame go with those of its bundle? A station takes a frame. A station: the numbers that were heard. A station: pairs of numbers, what is missing. A station: frames taken out, how many there are. Frames of one bundle: what they fill. Each theorem states its own conditions. -/
import Derived.Test.YtljndaefacbhfaaQCode
import Derived.Test.YtljndaefacbhfaaQB
set_option linter.all false
namespace Ev
open Go
set_option maxRecDepth 10000
attribute [-simp] getElem?_pos getElem?_neg
theorem hpos1 {d : Array Int} {a : Nat} : ∀ x, (fun x => Sort.ltInt x d[a]!) x = Sort.ltInt x (atD d a) := fun _ => rfl
theorem hneg1 {d : Array Int} {a : Nat} : ∀ x, (fun x => !Sort.ltInt x d[a]!) x = !Sort.ltInt x (atD d a) := fun _ => rfl
theorem hneg2 {d : Array Int} {a : Nat} : ∀ x, (fun x => !Sort.ltInt d[a]! x) x = !Sort.ltInt (atD d a) x := fun _ => rfl
theorem hpos2 {d : Array Int} {a : Nat} : ∀ x, (fun x => Sort.ltInt d[a]! x) x = Sort.ltInt (atD d a) x := fun _ => rfl
theorem scanUp_len (p : Int → Bool) (d : Array Int) (j n : Nat) (hj : j < n) (i : Nat) (hi : i ≤ n) : Sort.scanUp p d j i ≤ n := by
  by_cases h : i ≤ j + 1
  · have := (Sort.scanUp_spec p d j _ i rfl).2.1 h
    omega
  · unfold Sort.scanUp
    rw [if_neg (by simp; omega)]
    exact hi
section
variable {h : Heap} {b : Nat}
theorem pl_loop (hb : b < h.length) (a n : Nat) (hn : n < 1152921504606846976) (han : a < n) : ∀ (m i j : Nat) (d : Array Int), j + 1 - i ≤ m → a < i → i ≤ n → j < n → d.size = n → ∀ tl ks Q,
    (∀ i' e, (Sort.partLoop (Sort.ltInt) a i j d).1 < n → (Sort.partLoop (Sort.ltInt) a i j d).2.size = n → Xk T ks (.x 4) ([(0, .hs 1 b 0 n), (1, .int .i64 a), (10, .int .i64 i'), (11, .int .i64 ((Sort.partLoop (Sort.ltInt) a i j d).1 : Nat))] ++ e) (SD h b (Sort.partLoop (Sort.ltInt) a i j d).2) Q) →
    Xc T l_slices_partitionOrdered_uint64_4 ks ([(0, .hs 1 b 0 n), (1, .int .i64 a), (10, .int .i64 i), (11, .int .i64 j)] ++ tl) (SD h b d) Q := by
  intro m
  induction m with
  | zero =>
    intro i j d hm hai hi hj hd tl ks Q hx
    rw [L_slices_partitionOrdered_uint64_4]; unfold bl_slices_partitionOrdered_uint64_4
    rw [Sort.partLoop_eq] at hx
    have u1 := Sort.scanUp_ge (fun x => Sort.ltInt x d[a]!) d j i
    have u2 := scanUp_len (fun x => Sort.ltInt x d[a]!) d j n hj i hi
    simp (disch := omega)
    have hu := up2 hb a n d hd hn han j hj (fun x => Sort.ltInt x d[a]!) hpos1 _ i (Nat.le_refl _) hi []
    simp only [List.append_nil] at hu
    refine hu _ _ ?_
    generalize Sort.scanUp (fun x => Sort.ltInt x d[a]!) d j i = i2 at *
    simp (disch := omega)
    refine dn3 hb a n d hd hn han i2 (by omega) (by omega) (fun x => !Sort.ltInt x d[a]!) hneg1 j hj [(112, .bool false)] _ _ ?_
    have v1 := Sort.scanDown_le (fun x => !Sort.ltInt x d[a]!) d i2 j
    generalize Sort.scanDown (fun x => !Sort.ltInt x d[a]!) d i2 j = j2 at *
    rw [if_pos (show i2 > j2 by omega)] at hx
    have c1 : (j2 : Int) < i2 := by omega
    simp (disch := omega) [c1]
    have := hx i2 [(134, .bool true)] (by omega) hd
    simpa using this
  | succ m ih =>
    intro i j d hm hai hi hj hd tl ks Q hx
    rw [L_slices_partitionOrdered_uint64_4]; unfold bl_slices_partitionOrdered_uint64_4
    rw [Sort.partLoop_eq] at hx
    have u1 := Sort.scanUp_ge (fun x => Sort.ltInt x d[a]!) d j i
    have u2 := scanUp_len (fun x => Sort.ltInt x d[a]!) d j n hj i hi
    simp (disch := omega)
    have hu := up2 hb a n d hd hn han j hj (fun x => Sort.ltInt x d[a]!) hpos1 _ i (Nat.le_refl _) hi []
    simp only [List.append_nil] at hu
    refine hu _ _ ?_
    generalize Sort.scanUp (fun x => Sort.ltInt x d[a]!) d j i = i2 at *
    simp (disch := omega)
    refine dn3 hb a n d hd hn han i2 (by omega) (by omega) (fun x => !Sort.ltInt x d[a]!) hneg1 j hj [(112, .bool false)] _ _ ?_
    have v1 := Sort.scanDown_le (fun x => !Sort.ltInt x d[a]!) d i2 j
    generalize Sort.scanDown (fun x => !Sort.ltInt x d[a]!) d i2 j = j2 at *
    by_cases c2 : i2 > j2
    · rw [if_pos c2] at hx
      have c1 : (j2 : Int) < i2 := by omega
      simp (disch := omega) [c1]
      have := hx i2 [(134, .bool true)] (by omega) hd
      simpa using this
    · rw [if_neg c2] at hx
      have c1 : ¬ (j2 : Int) < i2 := by omega
      have c3 : ¬ j2 < i2 := by omega
      have r1 := SD_row hb d
      have gl := SD_ints d
      have hbs := SD_lt hb d
      have g0 := SD_getN d i2 (by omega)
      have g1 := SD_getN d j2 (by omega)
      have e1 : (j2 : Int) - 1 = ((j2 - 1 : Nat) : Int) := by omega
      simp (disch := omega) [c1, c3, r1, g0, g1, gl]
      have := ih (i2 + 1) (j2 - 1) (Sort.swp d i2 j2) (by omega) (by omega) (by omega) (by omega) (by rw [swp_size]; exact hd) [] ks Q hx
      rw [e1]
      simpa using this
theorem partn_run (hb : b < h.length) (d : Array Int) (a e pv : Nat) (hn : d.size < 1152921504606846976) (hae : a + 2 < e) (he : e ≤ d.size) (hpa : a ≤ pv) (hpe : pv < e) :
    Run T f_slices_partitionOrdered_uint64 [.hs 1 b 0 d.size, .int .i64 a, .int .i64 e, .int .i64 pv] (SD h b d)
      (.tup [.int .i64 ((Sort.partition (Sort.ltInt) d a e pv).1 : Nat), .bool (Sort.partition (Sort.ltInt) d a e pv).2.1]) (SD h b (Sort.partition (Sort.ltInt) d a e pv).2.2) := by
  generalize hP : Sort.partition (Sort.ltInt) d a e pv = P
  refine Run.start t_slices_partitionOrdered_uint64 ?_
  unfold k_slices_partitionOrdered_uint64
  unfold Sort.partition at hP
  have r1 := SD_row hb d
  have gl := SD_ints d
  have hbs := SD_lt hb d
  have g0 := SD_getN d a (by omega)
  have g1 := SD_getN d pv (by omega)
  obtain ⟨j, hj⟩ : ∃ j, j = e - 1 := ⟨_, rfl⟩
  have e1 : (e : Int) - 1 = (j : Int) := by omega
  simp only [← hj] at hP
  simp (disch := omega) [r1, g0, g1, gl, e1]
  have hd : (Sort.swp d a pv).size = d.size := swp_size _ _ _
  generalize Sort.swp d a pv = d1 at *
  generalize d.size = n at *
  clear g0 g1 r1 gl hbs
  have u1 := Sort.scanUp_ge (fun x => Sort.ltInt x d1[a]!) d1 j (a + 1)
  have u2 := scanUp_len (fun x => Sort.ltInt x d1[a]!) d1 j n (by omega) (a + 1) (by omega)
  have hu := up0 hb a n d1 hd hn (by omega) j (by omega) (fun x => Sort.ltInt x d1[a]!) hpos1 _ (a + 1) (Nat.le_refl _) (by omega) []
  simp only [List.append_nil] at hu
  simp only [Int.natCast_add, Int.cast_ofNat_Int] at hu
  refine hu _ _ ?_
  generalize Sort.scanUp (fun x => Sort.ltInt x d1[a]!) d1 j (a + 1) = i2 at *
  simp (disch := omega)
  refine dn1 hb a n d1 hd hn (by omega) i2 (by omega) (by omega) (fun x => !Sort.ltInt x d1[a]!) hneg1 j (by omega) [(43, .bool false)] _ _ ?_
  have v1 := Sort.scanDown_le (fun x => !Sort.ltInt x d1[a]!) d1 i2 j
  generalize Sort.scanDown (fun x => !Sort.ltInt x d1[a]!) d1 i2 j = j2 at *
  have r1 := SD_row hb d1
  have gl := SD_ints d1
  have hbs := SD_lt hb d1
  have g0 := SD_getN d1 a (by omega)
  have g1 := SD_getN d1 j2 (by omega)
  by_cases c2 : i2 > j2
  · have c1 : (j2 : Int) < i2 := by omega
    have c3 : j2 < i2 := by omega
    rw [if_pos c2] at hP
    subst hP
    simp (disch := omega) [c1, c3, r1, g0, g1, gl]
  · have c1 : ¬ (j2 : Int) < i2 := by omega
    have c3 : ¬ j2 < i2 := by omega
    rw [if_neg c2] at hP
    have g2 := SD_getN d1 i2 (by omega)
    have e2 : (j2 : Int) - 1 = ((j2 - 1 : Nat) : Int) := by omega
    simp (disch := omega) [c1, c3, r1, g0, g1, g2, gl, e2]
    have hl := pl_loop hb a n hn (by omega) (j2 + 1 - i2) (i2 + 1) (j2 - 1) (Sort.swp d1 i2 j2) (by omega) (by omega) (by omega) (by omega) (by rw [swp_size]; exact hd) []
    simp only [Int.natCast_add, Int.cast_ofNat_Int, List.append_nil] at hl
    refine hl _ _ ?_
    generalize Sort.partLoop (Sort.ltInt) a (i2 + 1) (j2 - 1) (Sort.swp d1 i2 j2) = r at *
    subst hP
    intro i' tl k1 k2
    have r1 := SD_row hb r.2
    have gl := SD_ints r.2
    have hbs := SD_lt hb r.2
    have g0 := SD_getN r.2 a (by omega)
    have g1 := SD_getN r.2 r.1 (by omega)
    simp (disch := omega) [r1, g0, g1, gl]
end
section
variable {h : Heap} {b : Nat}
theorem pe_loop (hb : b < h.length) (a n : Nat) (hn : n < 1152921504606846976) (han : a < n) : ∀ (m i j : Nat) (d : Array Int), j + 1 - i ≤ m → a < i → i ≤ n → j < n → d.size = n → ∀ tl ks Q,
    (∀ j' e, Xk T ks (.x 0) ([(0, .hs 1 b 0 n), (1, .int .i64 a), (9, .int .i64 ((Sort.partEqLoop (Sort.ltInt) a i j d).1 : Nat)), (10, .int .i64 j')] ++ e) (SD h b (Sort.partEqLoop (Sort.ltInt) a i j d).2) Q) →
    Xc T l_slices_partitionEqualOrdered_uint64_2 ks ([(0, .hs 1 b 0 n), (1, .int .i64 a), (9, .int .i64 i), (10, .int .i64 j)] ++ tl) (SD h b d) Q := by
  intro m
  induction m with
  | zero =>
    intro i j d hm hai hi hj hd tl ks Q hx
    rw [L_slices_partitionEqualOrdered_uint64_2]; unfold bl_slices_partitionEqualOrdered_uint64_2
    rw [Sort.partEqLoop_eq] at hx
    have u1 := Sort.scanUp_ge (fun x => !Sort.ltInt d[a]! x) d j i
    have u2 := scanUp_len (fun x => !Sort.ltInt d[a]! x) d j n hj i hi
    simp (disch := omega)
    have hu := eq0 hb a n d hd hn han j hj (fun x => !Sort.ltInt d[a]! x) hneg2 _ i (Nat.le_refl _) hi []
    simp only [List.append_nil] at hu
    refine hu _ _ ?_
    generalize Sort.scanUp (fun x => !Sort.ltInt d[a]! x) d j i = i2 at *
    simp (disch := omega)
    refine eq1 hb a n d hd hn han i2 (by omega) (by omega) (fun x => Sort.ltInt d[a]! x) hpos2 j hj [(43, .bool false)] _ _ ?_
    have v1 := Sort.scanDown_le (fun x => Sort.ltInt d[a]! x) d i2 j
    generalize Sort.scanDown (fun x => Sort.ltInt d[a]! x) d i2 j = j2 at *
    rw [if_pos (show i2 > j2 by omega)] at hx
    have c1 : (j2 : Int) < i2 := by omega
    simp (disch := omega) [c1]
    have := hx j2 [(64, .bool true)]
    simpa using this
  | succ m ih =>
    intro i j d hm hai hi hj hd tl ks Q hx
    rw [L_slices_partitionEqualOrdered_uint64_2]; unfold bl_slices_partitionEqualOrdered_uint64_2
    rw [Sort.partEqLoop_eq] at hx
    have u1 := Sort.scanUp_ge (fun x => !Sort.ltInt d[a]! x) d j i
    have u2 := scanUp_len (fun x => !Sort.ltInt d[a]! x) d j n hj i hi
    simp (disch := omega)
    have hu := eq0 hb a n d hd hn han j hj (fun x => !Sort.ltInt d[a]! x) hneg2 _ i (Nat.le_refl _) hi []
    simp only [List.append_nil] at hu
    refine hu _ _ ?_
    generalize Sort.scanUp (fun x => !Sort.ltInt d[a]! x) d j i = i2 at *
    simp (disch := omega)
    refine eq1 hb a n d hd hn han i2 (by omega) (by omega) (fun x => Sort.ltInt d[a]! x) hpos2 j hj [(43, .bool false)] _ _ ?_
    have v1 := Sort.scanDown_le (fun x => Sort.ltInt d[a]! x) d i2 j
    generalize Sort.scanDown (fun x => Sort.ltInt d[a]! x) d i2 j = j2 at *
    by_cases c2 : i2 > j2
    · rw [if_pos c2] at hx
      have c1 : (j2 : Int) < i2 := by omega
      simp (disch := omega) [c1]
      have := hx j2 [(64, .bool true)]
      simpa using this
    · rw [if_neg c2] at hx
      have c1 : ¬ (j2 : Int) < i2 := by omega
      have c3 : ¬ j2 < i2 := by omega
      have r1 := SD_row hb d
      have gl := SD_ints d
      have hbs := SD_lt hb d
      have g0 := SD_getN d i2 (by omega)
      have g1 := SD_getN d j2 (by omega)
      have e1 : (j2 : Int) - 1 = ((j2 - 1 : Nat) : Int) := by omega
      simp (disch := omega) [c1, c3, r1, g0, g1, gl]
      have := ih (i2 + 1) (j2 - 1) (Sort.swp d i2 j2) (by omega) (by omega) (by omega) (by omega) (by rw [swp_size]; exact hd) [] ks Q hx
      rw [e1]
      simpa using this
theorem parteq_run (hb : b < h.length) (d : Array Int) (a e pv : Nat) (hn : d.size < 1152921504606846976) (hae : a + 2 < e) (he : e ≤ d.size) (hpa : a ≤ pv) (hpe : pv < e) :
    Run T f_slices_partitionEqualOrdered_uint64 [.hs 1 b 0 d.size, .int .i64 a, .int .i64 e, .int .i64 pv] (SD h b d)
      (.int .i64 ((Sort.partitionEqual (Sort.ltInt) d a e pv).1 : Nat)) (SD h b (Sort.partitionEqual (Sort.ltInt) d a e pv).2) := by
  generalize hP : Sort.partitionEqual (Sort.ltInt) d a e pv = P
  refine Run.start t_slices_partitionEqualOrdered_uint64 ?_
  unfold k_slices_partitionEqualOrdered_uint64
  unfold Sort.partitionEqual at hP
  have r1 := SD_row hb d
  have gl := SD_ints d
  have hbs := SD_lt hb d
  have g0 := SD_getN d a (by omega)
  have g1 := SD_getN d pv (by omega)
  obtain ⟨j, hj⟩ : ∃ j, j = e - 1 := ⟨_, rfl⟩
  have e1 : (e : Int) - 1 = (j : Int) := by omega
  simp only [← hj] at hP
  simp (disch := omega) [r1, g0, g1, gl, e1]
  have hd : (Sort.swp d a pv).size = d.size := swp_size _ _ _
  generalize Sort.swp d a pv = d1 at *
  generalize d.size = n at *
  have hl := pe_loop hb a n hn (by omega) (j + 1 - (a + 1)) (a + 1) j d1 (by omega) (by omega) (by omega) (by omega) hd []
  simp only [Int.natCast_add, Int.cast_ofNat_Int, List.append_nil] at hl
  refine hl _ _ ?_
  rw [hP]
  intro j' tl
  simp (disch := omega)
end
theorem share4 {α β γ δ : Type} {P : Prop} (C : α → β → γ → δ → Prop) (R : α → β → γ → δ → Prop) (main : (∀ a b c d, C a b c d → R a b c d) → P) (rest : ∀ a b c d, C a b c d → R a b c d) : P := main rest
theorem Xb_nb {w : Bool} {a b : ACode} {ks : List Kt} {e : Env} {h : Heap} {Q : Ex → Env → Heap → Prop} (h1 : w = false → Xc T a ks e h Q) (h2 : w = true → Xc T b ks e h Q) : Xb T (some (!w)) a b ks e h Q := by
  cases w
  · exact (Xb_dec (c := True) (fun _ => h1 rfl) (fun h => absurd trivial h))
  · exact (Xb_dec (c := False) (fun h => h.elim) (fun _ => h2 rfl))
/-- The rows of h0 but row b are as they were. -/
def Agree (h0 : Heap) (b : Nat) (g : Heap) : Prop := h0.length ≤ g.length ∧ ∀ r, r < h0.length → r ≠ b → g.row r = h0.row r
section
variable {h0 h : Heap} {b : Nat}
theorem Agree.app {g : Heap} (ha : Agree h0 b g) (k : Heap) : Agree h0 b (g ++ k) := ⟨by rw [List.length_append]; have := ha.1; omega, fun r h1 h2 => by
  rw [row_app (by have := ha.1; omega)]; exact ha.2 r h1 h2⟩
theorem Agree.hb (ha : Agree h0 b h) (hb0 : b < h0.length) : b < h.length := Nat.lt_of_lt_of_le hb0 ha.1
theorem thawD (hb : b < h.length) (d : Array Int) (n : Nat) (hd : d.size = n) : ((hsCells (SD h b d) 1 b 0 n).bind fun cs => if chunkOk 1 false cs = true then some (V.ps 1 (chunk 1 false n cs)) else none) = some (.ps 1 (u64L d.toList)) := by
  subst hd
  have hc : hsCells (SD h b d) 1 b 0 d.size = some (u64L d.toList) := by
    simp [hsCells, SD_row hb, SD_ints]
    exact List.take_of_length_le (by rw [SD_ints]; exact Nat.le_refl _)
  have ck : chunkOk 1 false (u64L d.toList) = true := by simp [chunkOk, u64L]
  rw [hc, Option.bind_some, if_pos ck, chunk1 _ _ (SD_ints d)]
theorem pdq_fun (n : Nat) (a e lim : Nat) (d : Array Int) (hd : d.size = n) (hn : n < 64) (hlim : lim < 1000) (hae : a ≤ e) (he : e ≤ n)
    (hl : ∀ ks Q, (∀ g d' env, Agree h0 b g → Sort.PermIn a e d d' → Sort.SortedIn (Sort.ltInt) a e d' → Xk T ks .r env (SD g b d') Q) →
      Xc T l_slices_pdqsortOrdered_uint64_0 ks [(0, .hs 1 b 0 n), (1, .int .i64 a), (2, .int .i64 e), (3, .int .i64 lim), (8, .bool true), (9, .bool true)] (SD h b d) Q) :
    ∃ g d', Agree h0 b g ∧ Sort.PermIn a e d d' ∧ Sort.SortedIn (Sort.ltInt) a e d' ∧ Run T f_slices_pdqsortOrdered_uint64 [.hs 1 b 0 n, .int .i64 a, .int .i64 e, .int .i64 lim] (SD h b d) (.tup []) (SD g b d') := by
  have key : ∃ v h', (v = .tup [] ∧ ∃ g d', h' = SD g b d' ∧ Agree h0 b g ∧ Sort.PermIn a e d d' ∧ Sort.SortedIn (Sort.ltInt) a e d') ∧ Run T f_slices_pdqsortOrdered_uint64 [.hs 1 b 0 n, .int .i64 a, .int .i64 e, .int .i64 lim] (SD h b d) v h' := by
    refine Run.startP t_slices_pdqsortOrdered_uint64 ?_
    unfold k_slices_pdqsortOrdered_uint64
    simp (disch := omega)
    refine hl _ _ fun g d' env h1 h2 h3 => ?_
    simp (disch := omega)
    exact ⟨g, d', rfl, h1, h2, h3⟩
  obtain ⟨v, h', ⟨rfl, g, d', rfl, h1, h2, h3⟩, hr⟩ := key
  exact ⟨g, d', h1, h2, h3, hr⟩
set_option maxHeartbeats 4000000 in
theorem pdq_loop (hb0 : b < h0.length) (hs : Sort.SWO (Sort.ltInt)) (n : Nat) (hn : n < 64) : ∀ (m a e lim : Nat) (d : Array Int) (h : Heap) (wb wp : Bool), e - a ≤ m → a ≤ e → e ≤ n → d.size = n → lim < 1000 → Sort.Below (Sort.ltInt) a e d → Agree h0 b h → ∀ ks Q,
    (∀ g d' env, Agree h0 b g → Sort.PermIn a e d d' → Sort.SortedIn (Sort.ltInt) a e d' → Xk T ks .r env (SD g b d') Q) →
      Xc T l_slices_pdqsortOrdered_uint64_0 ks [(0, .hs 1 b 0 n), (1, .int .i64 a), (2, .int .i64 e), (3, .int .i64 lim), (8, .bool wb), (9, .bool wp)] (SD h b d) Q := by
  intro m
  induction m using Nat.strongRecOn with
  | ind m ih =>
  intro a e lim d h wb wp hm hae he hd hlim hB ha ks Q hx
  rw [L_slices_pdqsortOrdered_uint64_0]; unfold bl_slices_pdqsortOrdered_uint64_0
  obtain ⟨l, hl⟩ : ∃ l, l = e - a := ⟨_, rfl⟩
  have e1 : (e : Int) - a = (l : Int) := by omega
  have hb := ha.hb hb0
  by_cases c1 : l ≤ 12
  · have c1' : (l : Int) ≤ 12 := by omega
    subst hd
    simp (disch := omega) [e1, c1, c1']
    rw [Xf_run (ins_run hb d a e (by omega) hae he)]
    have hi := Sort.insertionSort_holds hs d a e hae he
    simp (disch := omega)
    exact hx _ _ _ ha hi.1 hi.2
  have c1' : ¬ (l : Int) ≤ 12 := by omega
  by_cases c2 : lim = 0
  · subst hd
    simp (disch := omega) [e1, c1, c1', c2]
    rw [Xf_run (heap_run hb d a e (by omega) (by omega) he)]
    have hi := Sort.heapSort_holds hs d a e hae he
    simp (disch := omega)
    exact hx _ _ _ ha hi.1 hi.2
  have c2' : ¬ (lim : Int) = 0 := by omega
  simp (disch := omega) [e1, c1, c1', c2, c2']
  refine share4 (fun (g : Heap) (d1 : Array Int) (lim : Nat) (_ : List (Nat × V)) => Agree h0 b g ∧ Sort.PermIn a e d d1 ∧ lim < 1000) ?R1 (fun hR => ?main1) ?rest1
  case main1 =>
    apply Xb_nb
    · intro hw
      simp (disch := omega)
      obtain ⟨z, hz⟩ := brk_run hb d a e (by omega) (by omega) (by omega)
      rw [hd] at hz
      have haa := ha.app [some [z]]
      have hp := Sort.breakPatterns_holds d a e hae (by omega)
      obtain ⟨d1, hd1⟩ : ∃ d1, d1 = Sort.breakPatterns d a e := ⟨_, rfl⟩
      obtain ⟨g, hg⟩ : ∃ g, g = h ++ [some [z]] := ⟨_, rfl⟩
      rw [← hd1, ← hg] at hz
      rw [← hd1] at hp
      rw [← hg] at haa
      rw [Xf_run hz]
      obtain ⟨lim', hlim'⟩ : ∃ lim', lim' = lim - 1 := ⟨_, rfl⟩
      have e2 : (lim : Int) - 1 = (lim' : Int) := by omega
      simp (disch := omega) [e2]
      generalize ([] : List (Nat × V)) = tl
      exact hR g d1 lim' tl ⟨haa, hp, by omega⟩
    · intro hw
      simp (disch := omega)
      generalize [((35 : Nat), V.bool (!wb))] = tl
      exact hR h d lim tl ⟨ha, Sort.permIn_refl _ _ _, hlim⟩
  case rest1 =>
    intro g d1 lim tl ⟨hg, hp1, hlim⟩
    have hd1 : d1.size = n := by rw [hp1.1]; exact hd
    have hB1 := hB.perm (by omega) hp1
    obtain ⟨hZ, hz⟩ := choose_run d1 a e (by omega) (by omega) (by omega)
    have th := thawD (hg.hb hb0) d1 n hd1
    have hpv := Sort.choosePivot_holds (Sort.ltInt) d1 a e (by omega)
    simp (disch := omega) [th]
    rw [Xp_run hz (by simp [u64L_hfs]) (by simp) (by simp [scalar])]
    generalize Sort.choosePivot (Sort.ltInt) d1 a e = pv at *
    obtain ⟨p, hint⟩ := pv
    obtain ⟨hp2, hp3⟩ := hpv
    simp only at hp2 hp3
    obtain ⟨g1, hgg⟩ : ∃ g1, g1 = g := ⟨_, rfl⟩
    rw [← hgg] at hg ⊢
    have hg1 := hg
    simp (disch := omega)
    refine share4 (fun (d2 : Array Int) (p : Nat) (hint : Int) (_ : List (Nat × V)) => Sort.PermIn a e d d2 ∧ a ≤ p ∧ p < e) ?R2 (fun hR => ?main2) ?rest2
    case main2 =>
      refine Xb_dec ?m2a ?m2b
      case m2b =>
        intro hw
        simp (disch := omega)
        generalize [((50 : Nat), V.bool (decide (hintN hint = 2)))] = tl
        generalize hintN hint = hint
        obtain ⟨d2, hd2⟩ : ∃ d2, d2 = d1 := ⟨_, rfl⟩
        obtain ⟨p2, hpp2⟩ : ∃ p2, p2 = p := ⟨_, rfl⟩
        rw [← hd2, ← hpp2]
        exact hR d2 p2 hint tl ⟨by rw [hd2]; exact hp1, by omega, by omega⟩
      case m2a =>
        intro hw
        simp (disch := omega)
        have hr := rev_run (hg1.hb hb0) d1 a e (by omega) (by omega) (by omega)
        rw [hd1] at hr
        have hp := Sort.reverseRange_holds d1 a e hae (by omega)
        obtain ⟨d2, hd2⟩ : ∃ d2, d2 = Sort.reverseRange d1 a e := ⟨_, rfl⟩
        rw [← hd2] at hr hp
        rw [Xf_run hr]
        obtain ⟨p', hp'⟩ : ∃ p', p' = e - 1 - (p - a) := ⟨_, rfl⟩
        have e2 : (e : Int) - 1 - (p - a) = (p' : Int) := by omega
        simp (disch := omega) [e2]
        exact hR d2 p' 1 [] ⟨Sort.permIn_trans _ _ _ a e hp1 hp, by omega, by omega⟩
    case rest2 =>
      intro d2 p hint tl ⟨hp4, hp5, hp6⟩
      have hd2 : d2.size = n := by rw [hp4.1]; exact hd
      have hB2 := hB.perm (by omega) hp4
      clear hz hd1 hB1 hp1 hp2 hp3 hB
      have hb1 := hg1.hb hb0
      have hae2 : a < e := by omega
      have he2 : e ≤ d2.size := by omega
      have hpi := pins_run hb1 d2 a e (by omega) hae2 he2
      have hpj := Sort.partialInsertionSort_holds hs d2 a e hae2 he2 hB2
      rw [hd2] at hpi
      have r1 := SD_row hb1 d2
      have gp := SD_getN d2 p (by omega)
      cases wb <;> cases wp <;> simp (disch := omega)
      rotate_left 3
      refine Xb_dec (fun hw => ?_) (fun hw => ?_)
      simp (disch := omega)
      rw [Xf_run hpi]
      simp (disch := omega)
      refine Xb_intro (fun h1 => ?_) (fun h1 => ?_)
      · simp (disch := omega)
        exact hx _ _ _ hg1 (Sort.permIn_trans _ _ _ a e hp4 hpj.1) (hpj.2 h1)
      obtain ⟨d5, hd5⟩ : ∃ d5, d5 = (Sort.partialInsertionSort (Sort.ltInt) d2 a e).1 := ⟨_, rfl⟩
      have hpm := hpj.1
      rw [← hd5] at hpm ⊢
      replace hp4 := Sort.permIn_trans _ _ _ a e hp4 hpm
      replace hB2 := hB2.perm (by omega) hpm
      replace hd2 : d5.size = n := by rw [hpm.1]; exact hd2
      replace he2 : e ≤ d5.size := by omega
      clear hpi hpj hd5 hpm
      obtain ⟨d2, hd6⟩ : ∃ x, x = d5 := ⟨_, rfl⟩
      rw [← hd6] at hp4 hB2 hd2 he2 ⊢
      clear hd6
      replace r1 := SD_row hb1 d2
      replace gp := SD_getN d2 p (by omega)
      simp (disch := omega)
      rotate_left 1
      simp (disch := omega) [hw]
      all_goals
        refine lift (R := ?_) (fun hR => ?main4) ?rest4
        case main4 =>
          refine Xg_dec (fun c3 => ?_) (fun c3 => ?_)
          · have i1 : ((a : Int) - 1).toNat = a - 1 := by omega
            have ga := SD_getN d2 (a - 1) (by omega)
            simp (disch := omega) [c3, i1, r1, ga, gp, Less_p]
            refine Xb_decn (fun c4 => ?_) (fun c4 => ?_)
            · simp (disch := omega)
              have hq := parteq_run hb1 d2 a e p (by omega) (by omega) (by omega) hp5 hp6
              have hnl : Sort.ltInt d2[a - 1]! d2[p]! = false := decide_eq_false c4
              have hre := Sort.round_eq hs (Sort.partitionEqual_holds (Sort.ltInt)) c3 hp5 hp6 he2 hB2 hnl rfl (mid := (Sort.partitionEqual (Sort.ltInt) d2 a e p).1) (d4 := (Sort.partitionEqual (Sort.ltInt) d2 a e p).2)
              generalize Sort.partitionEqual (Sort.ltInt) d2 a e p = P at hq hre
              obtain ⟨mid, d4⟩ := P
              obtain ⟨q1, q2, q3, q4, q5⟩ := hre
              rw [hd2] at hq
              rw [Xf_run hq]
              simp (disch := omega)
              simp only at q1 q2 q3 q4 q5
              refine ih (e - mid) (by omega) mid e lim d4 g1 _ _ (Nat.le_refl _) q2 he (by rw [q3]; exact hd2) hlim q4 hg1 ks Q fun g' d' env k1 k2 k3 => ?_
              obtain ⟨k4, k5⟩ := q5 d' k2 k3
              exact hx g' d' env k1 (Sort.permIn_trans _ _ _ a e hp4 k4) k5
            · simp (disch := omega) [c4]
              exact hR trivial
          · simp (disch := omega) [c3]
            exact hR trivial
        case rest4 =>
          have hq := partn_run hb1 d2 a e p (by omega) (by omega) (by omega) hp5 hp6
          have hre := Sort.round_part hs (Sort.partition_holds (Sort.ltInt)) hp5 hp6 he2 hB2 rfl (mid := (Sort.partition (Sort.ltInt) d2 a e p).1) (ap := (Sort.partition (Sort.ltInt) d2 a e p).2.1) (d4 := (Sort.partition (Sort.ltInt) d2 a e p).2.2)
          generalize Sort.partition (Sort.ltInt) d2 a e p = P at hq hre
          obtain ⟨mid, ap, d4⟩ := P
          obtain ⟨q1, q2, q3, q4, q5, q6, q7⟩ := hre
          rw [hd2] at hq
          rw [Xf_run hq]
          simp only at q1 q2 q3 q4 q5 q6 q7
          simp (disch := omega)
          have hd4 : d4.size = n := by rw [q3]; exact hd2
          refine Xb_dec (fun c5 => ?_) (fun c5 => ?_)
          · simp (disch := omega)
            obtain ⟨g', d', k1, k2, k3, hrun⟩ := pdq_fun n a mid lim d4 hd4 hn hlim q1 (by omega) (fun ks Q hh => ih (mid - a) (by omega) a mid lim d4 g1 true true (Nat.le_refl _) q1 (by omega) hd4 hlim q4 hg1 ks Q hh)
            rw [Xf_run hrun]
            simp (disch := omega)
            obtain ⟨k4, k5⟩ := q6 d' k2 k3
            have := ih (e - (mid + 1)) (by omega) (mid + 1) e lim d' g' (decide ((l : Int) / 8 ≤ mid - a)) ap (Nat.le_refl _) (by omega) he (by rw [k2.1]; exact hd4) hlim k4 k1 ks Q fun g2 d5 env k6 k7 k8 => by
              obtain ⟨k9, k10⟩ := k5 d5 k7 k8
              exact hx g2 d5 env k6 (Sort.permIn_trans _ _ _ a e hp4 k9) k10
            simpa using this
          · simp (disch := omega)
            obtain ⟨g', d', k1, k2, k3, hrun⟩ := pdq_fun n (mid + 1) e lim d4 hd4 hn hlim (by omega) (by omega) (fun ks Q hh => ih (e - (mid + 1)) (by omega) (mid + 1) e lim d4 g1 true true (Nat.le_refl _) (by omega) (by omega) hd4 hlim q5 hg1 ks Q hh)
            simp only [Int.natCast_add, Int.cast_ofNat_Int] at hrun
            rw [Xf_run hrun]
            simp (disch := omega)
            obtain ⟨k4, k5⟩ := q7 d' k2 k3
            have := ih (mid - a) (by omega) a mid lim d' g' (decide ((l : Int) / 8 ≤ e - mid)) ap (Nat.le_refl _) (by omega) (by omega) (by rw [k2.1]; exact hd4) hlim k4 k1 ks Q fun g2 d5 env k6 k7 k8 => by
              obtain ⟨k9, k10⟩ := k5 d5 k7 k8
              exact hx g2 d5 env k6 (Sort.permIn_trans _ _ _ a e hp4 k9) k10
            simpa using this
theorem sortf_run (hb0 : b < h0.length) (ha : Agree h0 b h) (d : Array Int) (hn : d.size < 64) :
    ∃ g d', Agree h0 b g ∧ Sort.PermIn 0 d.size d d' ∧ Sort.SortedIn (Sort.ltInt) 0 d.size d' ∧ Run T f_slices_Sort_uint64_uint64 [.hs 1 b 0 d.size] (SD h b d) (.tup []) (SD g b d') := by
  have hlim := bitsLen_le d.size (by omega)
  obtain ⟨g, d', k1, k2, k3, hrun⟩ := pdq_fun (h0 := h0) (b := b) (h := h) d.size 0 d.size (Sort.bitsLen d.size) d rfl hn (by omega) (by omega) (by omega) (fun ks Q hh => pdq_loop hb0 Sort.swo_ltInt d.size hn d.size 0 d.size (Sort.bitsLen d.size) d h true true (by omega) (by omega) (by omega) rfl (by omega) (Or.inl rfl) ha ks Q hh)
  refine ⟨g, d', k1, k2, k3, ?_⟩
  refine Run.start t_slices_Sort_uint64_uint64 ?_
  unfold k_slices_Sort_uint64_uint64
  simp (disch := omega)
  rw [Xp_run (len_run [] d.size (by omega)) (by simp) (by simp) (by simp)]
  simp (disch := omega)
  rw [Xf_run (by simpa using hrun)]
  simp (disch := omega)
end
structure Fm where
  num : Int
  id : Int
  off : Int
  tot : Int
  dat : List UInt8
  deriving DecidableEq
def Fm.cs (f : Fm) : List V := [.int .u64 f.num, .int .u64 f.id, .int .i64 f.off, .int .i64 f.tot, .str f.dat]
def Fm.v (f : Fm) : V := .agg f.cs
/-- What a frame's numbers are at all. -/
structure Fm.ok (f : Fm) : Prop where
  n0 : 0 ≤ f.num
  n1 : f.num < 18446744073709551616
  i0 : 0 ≤ f.id
  i1 : f.id < 18446744073709551616
  o0 : -9223372036854775808 ≤ f.off
  o1 : f.off < 9223372036854775808
  t0 : -9223372036854775808 ≤ f.tot
  t1 : f.tot < 9223372036854775808
  d1 : f.dat.length < 4611686018427387904
def lenOk (o t : Int) : Bool := decide (1 ≤ t ∧ t ≤ 3192 ∧ 0 ≤ o ∧ o < t ∧ o % 100 = 0)
theorem length_run (o t : Int) (ho : o < 9223372036854775808) (h : Heap) : Run T f_frame_length [.int .i64 o, .int .i64 t] h (.tup [.int .i64 (if lenOk o t then min 100 (t - o) else 0), .bool (lenOk o t)]) h := by
  refine Run.start t_frame_length ?_
  unfold k_frame_length lenOk
  by_cases c1 : t < 1
  · have e1 : ¬ (1 ≤ t ∧ t ≤ 3192 ∧ 0 ≤ o ∧ o < t ∧ o % 100 = 0) := by omega
    simp (disch := omega) [c1, e1]
  by_cases c2 : 3192 < t
  · have e1 : ¬ (1 ≤ t ∧ t ≤ 3192 ∧ 0 ≤ o ∧ o < t ∧ o % 100 = 0) := by omega
    simp (disch := omega) [c1, c2, e1]
  by_cases c3 : o < 0
  · have e1 : ¬ (1 ≤ t ∧ t ≤ 3192 ∧ 0 ≤ o ∧ o < t ∧ o % 100 = 0) := by omega
    simp (disch := omega) [c1, c2, c3, e1]
  by_cases c4 : t ≤ o
  · have e1 : ¬ (1 ≤ t ∧ t ≤ 3192 ∧ 0 ≤ o ∧ o < t ∧ o % 100 = 0) := by omega
    simp (disch := omega) [c1, c2, c3, c4, e1]
  have e5 : o.tmod 100 = o % 100 := Int.tmod_eq_emod_of_nonneg (by omega)
  by_cases c5 : o % 100 = 0
  · have e1 : (1 ≤ t ∧ t ≤ 3192 ∧ 0 ≤ o ∧ o < t ∧ o % 100 = 0) := by omega
    simp (disch := omega) [c1, c2, c3, c4, c5, e1, e5]
  · have e1 : ¬ (1 ≤ t ∧ t ≤ 3192 ∧ 0 ≤ o ∧ o < t ∧ o % 100 = 0) := by omega
    simp (disch := omega) [c1, c2, c3, c4, c5, e1, e5]
def mayF (f : Fm) : Bool := lenOk f.off f.tot && decide (f.num < 2147483648) && decide (f.id < 2147483648) && decide ((f.dat.length : Int) = min 100 (f.tot - f.off))
section
variable {ks : List Kt} {ops : List AOpr} {K : Kp} {e : Env} {h : Heap} {Q : Ex → Env → Heap → Prop} {d : Nat} {lent : Bool}
theorem length_p (o t : Int) (ho : o < 9223372036854775808) : Xp T f_frame_length (some ([.int .i64 o, .int .i64 t], lent)) h (some d) ops K ks e Q = Xo T ops K ks ((d, .tup [.int .i64 (if lenOk o t then min 100 (t - o) else 0), .bool (lenOk o t)]) :: e) h Q := by
  have := Xp_run (length_run o t ho []) (by simp) rfl (b := false) (by simp) (ks := ks) (ops := ops) (K := K) (e := e) (h := h) (Q := Q) (d := d)
  cases lent with
  | false => exact this
  | true => exact Xp_run (length_run o t ho []) (by simp) rfl (by simp [scalar]) 
end
theorem Check_run (f : Fm) (hf : f.ok) (h : Heap) : ∃ h', Run T f_frame_Check [f.v] h (.int .i64 (if mayF f then 0 else 3)) h' := by
  obtain ⟨num, id, off, tot, dat⟩ := f
  obtain ⟨n0, n1, i0, i1, o0, o1, t0, t1, d1⟩ := hf
  simp only at n0 n1 i0 i1 o0 o1 t0 t1 d1
  refine Run.startE t_frame_Check ?_
  unfold k_frame_Check
  unfold mayF
  simp only [Fm.v, Fm.cs]
  have lp := fun {ks : List Kt} {ops : List AOpr} {K : Kp} {e : Env} {h : Heap} {Q : Ex → Env → Heap → Prop} {d : Nat} => length_p (ks := ks) (ops := ops) (K := K) (e := e) (h := h) (Q := Q) (d := d) (lent := false) off tot o1
  cases c0 : lenOk off tot with
  | false =>
    simp only [c0] at lp
    simp (disch := omega) [lp, c0]
  | true =>
    simp only [c0] at lp
    by_cases c1 : 2147483648 ≤ num
    · have e1 : ¬ num < 2147483648 := by omega
      simp (disch := omega) [lp, c0, c1, e1]
    have e1 : num < 2147483648 := by omega
    by_cases c2 : 2147483648 ≤ id
    · have e2 : ¬ id < 2147483648 := by omega
      simp (disch := omega) [lp, c0, c1, e1, c2, e2]
    have e2 : id < 2147483648 := by omega
    by_cases c3 : (dat.length : Int) = min 100 (tot - off)
    · simp (disch := omega) [lp, c0, c1, e1, c2, e2, c3]
    · simp (disch := omega) [lp, c0, c1, e1, c2, e2, c3]
theorem tmod100 (o : Int) (h : 0 ≤ o) : o.tmod 100 = o % 100 := Int.tmod_eq_emod_of_nonneg h
theorem tdiv100 (o : Int) (h : 0 ≤ o) : o.tdiv 100 = o / 100 := Int.tdiv_eq_ediv_of_nonneg h
theorem RMay_run (f : Fm) (hf : f.ok) (h : Heap) : ∃ h', Run T f_ref32_May [f.v] h (.bool (mayF f)) h' := by
  obtain ⟨num, id, off, tot, dat⟩ := f
  obtain ⟨n0, n1, i0, i1, o0, o1, t0, t1, d1⟩ := hf
  simp only at n0 n1 i0 i1 o0 o1 t0 t1 d1
  refine Run.startE t_ref32_May ?_
  unfold k_ref32_May
  unfold mayF lenOk
  simp only [Fm.v, Fm.cs]
  by_cases c1 : 2147483648 ≤ num
  · have e1 : ¬ num < 2147483648 := by omega
    simp (disch := omega) [c1, e1]
  have e1 : num < 2147483648 := by omega
  by_cases c2 : 2147483648 ≤ id
  · have e2 : ¬ id < 2147483648 := by omega
    simp (disch := omega) [c1, e1, c2, e2]
  have e2 : id < 2147483648 := by omega
  by_cases c3 : tot < 1
  · have e3 : ¬ (1 ≤ tot ∧ tot ≤ 3192 ∧ 0 ≤ off ∧ off < tot ∧ off % 100 = 0) := by omega
    simp (disch := omega) [c1, e1, c2, e2, c3, e3]
  by_cases c4 : 3192 < tot
  · have e3 : ¬ (1 ≤ tot ∧ tot ≤ 3192 ∧ 0 ≤ off ∧ off < tot ∧ off % 100 = 0) := by omega
    simp (disch := omega) [c1, e1, c2, e2, c3, c4, e3]
  by_cases c5 : off < 0
  · have e3 : ¬ (1 ≤ tot ∧ tot ≤ 3192 ∧ 0 ≤ off ∧ off < tot ∧ off % 100 = 0) := by omega
    simp (disch := omega) [c1, e1, c2, e2, c3, c4, c5, e3]
  by_cases c6 : tot ≤ off
  · have e3 : ¬ (1 ≤ tot ∧ tot ≤ 3192 ∧ 0 ≤ off ∧ off < tot ∧ off % 100 = 0) := by omega
    simp (disch := omega) [c1, e1, c2, e2, c3, c4, c5, c6, e3]
  have e7 := tmod100 off (by omega)
  by_cases c7 : off % 100 = 0
  · have e3 : (1 ≤ tot ∧ tot ≤ 3192 ∧ 0 ≤ off ∧ off < tot ∧ off % 100 = 0) := by omega
    simp (disch := omega) [c1, e1, c2, e2, c3, c4, c5, c6, c7, e7, e3, Low_pb]
  · have e3 : ¬ (1 ≤ tot ∧ tot ≤ 3192 ∧ 0 ≤ off ∧ off < tot ∧ off % 100 = 0) := by omega
    simp (disch := omega) [c1, e1, c2, e2, c3, c4, c5, c6, c7, e7, e3]
def firstF (f : Fm) : Int := IntKind.u64.wrap (f.num - f.off / 100)
theorem first_run (f : Fm) (hf : f.ok) (ho : 0 ≤ f.off) (h : Heap) : ∃ h', Run T f_whole_first [f.v] h (.int .u64 (firstF f)) h' := by
  obtain ⟨num, id, off, tot, dat⟩ := f
  obtain ⟨n0, n1, i0, i1, o0, o1, t0, t1, d1⟩ := hf
  simp only at n0 n1 i0 i1 o0 o1 t0 t1 d1 ho
  have e1 := tdiv100 off ho
  refine Run.startE t_whole_first ?_
  unfold k_whole_first firstF
  simp only [Fm.v, Fm.cs]
  simp (disch := omega) [e1]
theorem Fm.vc (f : Fm) : f.v.cells = f.cs := rfl
theorem Fm.one (f : Fm) : f.cs.all V.one = true := rfl
theorem Fm.len (f : Fm) : f.cs.length = 5 := rfl
theorem Fm.hf (f : Fm) : f.v.hf = true := rfl
theorem Fm.eqv (f g : Fm) : eqFs (.cons 0 0 .int (.cons 1 0 .int (.cons 2 0 .int (.cons 3 0 .int (.cons 4 0 .str .nil))))) f.cs g.cs = some (decide (f = g)) := by
  obtain ⟨a, b, c, d, e⟩ := f
  obtain ⟨a', b', c', d', e'⟩ := g
  simp only [Fm.cs]
  by_cases c1 : a = a'
  · by_cases c2 : b = b'
    · by_cases c3 : c = c'
      · by_cases c4 : d = d'
        · by_cases c5 : e = e'
          · simp [c1, c2, c3, c4, c5]
          · simp [c1, c2, c3, c4, c5]
        · simp [c1, c2, c3, c4]
      · simp [c1, c2, c3]
    · simp [c1, c2]
  · simp [c1]
section
variable {ks : List Kt} {ops : List AOpr} {K : Kp} {e : Env} {h : Heap} {Q : Ex → Env → Heap → Prop} {d : Nat} {lent : Bool}
theorem Check_p (f : Fm) (hf : f.ok) : Xp T f_frame_Check (some ([f.v], lent)) h (some d) ops K ks e Q = Xo T ops K ks ((d, .int .i64 (if mayF f then 0 else 3)) :: e) h Q := by
  obtain ⟨h', r⟩ := Check_run f hf []
  exact Xp_run r (by simp [Fm.hf]) rfl (by simp [scalar])
theorem RMay_p (f : Fm) (hf : f.ok) : Xp T f_ref32_May (some ([f.v], lent)) h (some d) ops K ks e Q = Xo T ops K ks ((d, .bool (mayF f)) :: e) h Q := by
  obtain ⟨h', r⟩ := RMay_run f hf []
  exact Xp_run r (by simp [Fm.hf]) rfl (by simp [scalar])
theorem first_p (f : Fm) (hf : f.ok) (ho : 0 ≤ f.off) : Xp T f_whole_first (some ([f.v], lent)) h (some d) ops K ks e Q = Xo T ops K ks ((d, .int .u64 (firstF f)) :: e) h Q := by
  obtain ⟨h', r⟩ := first_run f hf ho []
  exact Xp_run r (by simp [Fm.hf]) rfl (by simp [scalar])
end
/-- A map's row: frames by their numbers. -/
def kvF (f : Fm) : V := .tup [.int .u64 f.num, f.v]
def kvL (L : List Fm) : List V := L.map kvF
theorem kvL_len (L : List Fm) : (kvL L).length = L.length := by simp [kvL]
theorem kvL_get (L : List Fm) (i : Nat) : (kvL L)[i]? = (L[i]?).map kvF := by simp [kvL]
theorem kvL_is (L : List Fm) : isKvs (kvL L) = true := by cases L <;> rfl
def findN (L : List Fm) (n : Int) : Option Fm := L.find? fun g => g.num == n
theorem kvL_find (n : Int) : ∀ (L : List Fm) (i : Nat), ∃ j, kvFind .int (.int .u64 n) (kvL L) i = some ((findN L n).map fun g => (j, g.v))
  | [], i => ⟨0, rfl⟩
  | g :: L, i => by
    obtain ⟨j, hj⟩ := kvL_find n L (i + 1)
    by_cases c : n = g.num
    · exact ⟨i, by simp [kvL, kvF, kvFind, keyEq, findN, c]⟩
    · have c' : ¬ g.num = n := fun e => c e.symm
      refine ⟨j, ?_⟩
      simp only [kvL, List.map_cons, kvF, kvFind, keyEq, if_true, Option.bind_some]
      rw [if_neg (by simpa using c)]
      simp only [findN, List.find?_cons] at hj ⊢
      rw [show (g.num == n) = false by simpa using c']
      exact hj
theorem kvL_count : ∀ L : List Fm, kvCount (kvL L) = some L.length
  | [] => rfl
  | g :: L => by simp [kvL, kvF, kvCount]; exact kvL_count L
/-- A station in the heap. -/
structure SH (h : Heap) (s m : Nat) (L : List Fm) : Prop where
  rs : h.row s = some [.mp m]
  rm : h.row m = some (kvL L)
  ne : s ≠ m
theorem SH.app {h : Heap} {s m : Nat} {L : List Fm} (k : SH h s m L) (J : Heap) : SH (h ++ J) s m L := ⟨by rw [row_app (row_lt k.rs)]; exact k.rs, by rw [row_app (row_lt k.rm)]; exact k.rm, k.ne⟩
structure LOk (L : List Fm) : Prop where
  ok : ∀ f, f ∈ L → f.ok
  may : ∀ f, f ∈ L → mayF f = true
  len : L.length ≤ 40
theorem mayF_off {f : Fm} (h : mayF f = true) : 0 ≤ f.off ∧ f.off < f.tot ∧ f.tot ≤ 3192 ∧ f.off % 100 = 0 ∧ f.num < 2147483648 ∧ f.id < 2147483648 ∧ (f.dat.length : Int) = min 100 (f.tot - f.off) := by
  unfold mayF lenOk at h
  simp only [Bool.and_eq_true, decide_eq_true_eq] at h
  omega
def fits1 (f g : Fm) : Bool := !(g.id == f.id && (!(g.tot == f.tot) || !(firstF g == firstF f)))
def fitsB (L : List Fm) (f : Fm) : Bool := L.all (fits1 f)
theorem pre_row {h J : Heap} {b : Nat} {cs : List V} (hb : h.row b = some cs) : (h ++ J).row b = some cs := by rw [row_app (row_lt hb)]; exact hb
theorem pre_of {h g : Heap} {n : Nat} (hl : h.length ≤ g.length) (hg : ∀ i, i < h.length → g[i]? = h[i]?) : ∃ J, g = h ++ J := by
  refine ⟨g.drop h.length, ?_⟩
  apply List.ext_getElem?
  intro i
  rcases Nat.lt_or_ge i h.length with c | c
  · rw [List.getElem?_append_left c, hg i c]
  · rw [List.getElem?_append_right c, List.getElem?_drop]
    congr 1; omega
/-- The entry that a walk has just told. -/
theorem ent_row {h : Heap} {wk m N last p : Nat} {seen : List Nat} {kvs : List V} {k v : V} (h1 : h.row wk = some [.mp m, .ptr N last, seenV (seen ++ [p])]) (h2 : h.row m = some kvs) (h3 : isKvs kvs = true) (h4 : kvs.length = last) (h5 : kvs[p]? = some (.tup [k, v])) :
    entV h (.itr wk) = some (.tup [k, v]) := by
  have hl : lastV (((seen ++ [p]).map fun j => V.ptr j 0)) = some p := by
    rw [List.map_append]
    generalize seen.map (fun j => V.ptr j 0) = l
    induction l with
    | nil => rfl
    | cons a l ih => cases l with
      | nil => cases a <;> rfl
      | cons b l => cases a <;> exact ih
  simp only [entV, h1, seenV, Option.bind_some, h2, h3, h4, beq_self_eq_true, Bool.and_true, if_true, hl, h5]
theorem set_pre {a : Heap} {wk : Nat} {o : Option (List V)} {J : Heap} (h : a.length ≤ wk) : (a ++ J).set wk o = a ++ J.set (wk - a.length) o := by
  rw [List.set_append]
  rw [if_neg (by omega)]
theorem wfits_run {h : Heap} {s m : Nat} {L : List Fm} (hS : SH h s m L) (hL : LOk L) (f : Fm) (hf : f.ok) (hm : mayF f = true) : ∃ J, Run T f_whole_Station_fits [.ptr s 0, f.v] h (.bool (fitsB L f)) (h ++ J) := by
  have hso := (mayF_off hm).1
  have hr : ∃ v h', (v = .bool (fitsB L f) ∧ ∃ J, h' = h ++ J) ∧ Run T f_whole_Station_fits [.ptr s 0, f.v] h v h' := by
    refine Run.startP t_whole_Station_fits ?_
    unfold k_whole_Station_fits
    simp only [args, Xc_seq]
    simp (disch := omega) [Fm.vc, Fm.one]
    refine Xc_mloop (.r) [(4, .bool (fitsB L f))] (fun h' => ∃ J, h' = h ++ J) ?_ ?_
    · have r1 : (h ++ [some f.cs]).row s = some [.mp m] := pre_row hS.rs
      have r2 : (h ++ [some f.cs]).row m = some (kvL L) := pre_row hS.rm
      simp (disch := omega) [r1, r2, kvL_is, kvL_len]
      refine Mg_walk (Meets.pre h) (wk := h.length + 1) (m := m) (N := L.length)
        (fun seen kvs e hh => kvs = kvL L ∧ e.keep [3, 11] = [(3, .ptr h.length 0), (11, .itr (h.length + 1))] ∧ (∃ J, hh = h ++ some f.cs :: J) ∧ (∃ last, L.length ≤ last ∧ hh.row (h.length + 1) = some [.mp m, .ptr L.length last, seenV seen]) ∧ ∀ p, p ∈ seen → ∀ g, L[p]? = some g → fits1 f g = true)
        ?_ ?_ ?_ L.length [] (kvL L) _ _ (by simp) ?_ (by simp) (by simp)
      · rintro seen kvs e hh ⟨rfl, he, ⟨J, rfl⟩, hw, _⟩
        refine ⟨by rw [he]; rfl, hw, ?_, kvL_is L, kvL_len L⟩
        exact pre_row hS.rm
      · rintro seen kvs e hh ⟨rfl, he, ⟨J, rfl⟩, hw, hall⟩ hn hcov
        have hb : fitsB L f = true := by
          unfold fitsB
          rw [List.all_eq_true]
          intro g hg
          obtain ⟨p, hp⟩ := List.getElem?_of_mem hg
          exact hall p (hcov p _ (by rw [kvL_get, hp]; rfl)) g hp
        rw [he]
        unfold cm_whole_Station_fits_0
        simp [hb]
      · rintro seen kvs e hh p x ⟨rfl, he, ⟨J, rfl⟩, ⟨last, hl1, hw⟩, hall⟩ hn hlt hp hps
        rw [kvL_get] at hp
        cases hg : L[p]? with
        | none => rw [hg] at hp; cases hp
        | some g =>
        rw [hg] at hp
        simp only [Option.map_some, kvF, Option.some.injEq, V.tup.injEq] at hp
        subst hp
        have hgm : g ∈ L := List.mem_of_getElem? hg
        have go := hL.ok g hgm
        have gm := (mayF_off (hL.may g hgm)).1
        have hwl := row_lt hw
        rw [he]
        obtain ⟨Z, hZ⟩ : ∃ Z : Heap, Z = (h ++ some f.cs :: J).set (h.length + 1) (some [.mp m, .ptr L.length L.length, seenV (seen ++ [p])]) := ⟨_, rfl⟩
        have z1 : Z.row (h.length + 1) = some [.mp m, .ptr L.length L.length, seenV (seen ++ [p])] := by rw [hZ, row_set hwl]
        have z2 : Z.row m = some (kvL L) := by
          have : h.length + 1 ≠ m := by have := row_lt hS.rm; omega
          rw [hZ, row_ne this]
          exact pre_row hS.rm
        have z3 : Z.row h.length = some f.cs := by
          rw [hZ, row_ne (by omega)]
          simp
        have zl : h.length < Z.length := row_lt z3
        have zp : ∃ J', Z = h ++ some f.cs :: J' := by
          refine ⟨J.set 0 (some [.mp m, .ptr L.length L.length, seenV (seen ++ [p])]), ?_⟩
          rw [hZ, show h ++ some f.cs :: J = (h ++ [some f.cs]) ++ J by simp, set_pre (by simp)]
          simp
        rw [← hZ]
        have he := ent_row z1 z2 (kvL_is L) (kvL_len L) (p := p) (k := .int .u64 g.num) (v := g.v) (by rw [kvL_get, hg]; rfl)
        clear hZ
        unfold bm_whole_Station_fits_0
        have fp := fun {ks : List Kt} {ops : List AOpr} {K : Kp} {e : Env} {h : Heap} {Q : Ex → Env → Heap → Prop} {d : Nat} => first_p (ks := ks) (ops := ops) (K := K) (e := e) (h := h) (Q := Q) (d := d) (lent := false) f hf hso
        have gp := fun {ks : List Kt} {ops : List AOpr} {K : Kp} {e : Env} {h : Heap} {Q : Ex → Env → Heap → Prop} {d : Nat} => first_p (ks := ks) (ops := ops) (K := K) (e := e) (h := h) (Q := Q) (d := d) (lent := false) g go gm
        have hfit : fits1 f g = !(g.id == f.id && (!(g.tot == f.tot) || !(firstF g == firstF f))) := rfl
        have hin : fits1 f g = false → fitsB L f = false := fun e0 => by
          unfold fitsB
          rw [Bool.eq_false_iff]
          intro e1
          have := List.all_eq_true.1 e1 g hgm
          rw [e0] at this
          cases this
        generalize firstF g = G at hfit gp
        generalize firstF f = F at hfit fp
        generalize fitsB L f = B at hin ⊢
        generalize hX : fits1 f g = X at hfit hin
        have e14 : ∀ q, q ∈ seen ++ [p] → X = true → ∀ g', L[q]? = some g' → fits1 f g' = true := fun q hq hx g' hg' => by
          rcases List.mem_append.1 hq with hq | hq
          · exact hall q hq g' hg'
          · simp at hq
            subst hq
            rw [hg] at hg'
            cases hg'
            rw [hX, hx]
        obtain ⟨gn, gi, go', gt, gd⟩ := g
        obtain ⟨fn, fi, fo, ft, fd⟩ := f
        simp only [Fm.v, Fm.cs] at fp gp he z3 hfit
        have zz : (Z ++ [some [V.int .u64 gn, .int .u64 gi, .int .i64 go', .int .i64 gt, .str gd]]).row h.length = some [V.int .u64 fn, .int .u64 fi, .int .i64 fo, .int .i64 ft, .str fd] := pre_row z3
        have zw : ∀ J : Heap, (Z ++ J).row (h.length + 1) = some [.mp m, .ptr L.length L.length, seenV (seen ++ [p])] := fun J => pre_row z1
        have zq : ∀ J : Heap, ∃ J', Z ++ J = h ++ some (Fm.cs ⟨fn, fi, fo, ft, fd⟩) :: J' := fun J => by
          obtain ⟨J', e⟩ := zp
          exact ⟨J' ++ J, by rw [e]; simp⟩
        have zq2 : ∀ J : Heap, ∃ J', Z ++ J = h ++ J' := fun J => by
          obtain ⟨J', e⟩ := zq J
          exact ⟨_, e⟩
        simp only [Fm.cs] at zq
        by_cases c1 : gi = fi
        · subst c1
          by_cases c2 : gt = ft
          · subst c2
            by_cases c3 : G = F
            · subst c3
              have hx : X = true := by rw [hfit]; simp
              simp (disch := omega) [he, z3, Fm.vc, spliceL, Fm.v, Fm.cs, fp, gp, zz, Wb]
              refine ⟨zq _, ⟨L.length, Nat.le_refl _, zw _⟩, fun q hq => e14 q (by simpa using hq) hx⟩
            · have hx : X = false := by rw [hfit]; simp [c3]
              simp (disch := omega) [he, z3, Fm.vc, spliceL, Fm.v, Fm.cs, c3, fp, gp, zz, Wb, hin hx]
              exact zq2 _
          · have hx : X = false := by rw [hfit]; simp [c2]
            simp (disch := omega) [he, z3, Fm.vc, spliceL, Fm.v, Fm.cs, c2, fp, gp, zz, Wb, hin hx]
            exact zq2 _
        · have hx : X = true := by rw [hfit]; simp [c1]
          simp (disch := omega) [he, z3, Fm.vc, spliceL, Fm.v, Fm.cs, c1, fp, gp, zz, Wb]
          refine ⟨zq _, ⟨L.length, Nat.le_refl _, zw _⟩, fun q hq => e14 q (by simpa using hq) hx⟩
      · refine ⟨rfl, rfl, ⟨_, by simp; rfl⟩, ⟨L.length, Nat.le_refl _, by simp [seenV]⟩, by simp⟩
    · rintro h' ⟨J, rfl⟩
      simp
  obtain ⟨v, h', ⟨rfl, J, rfl⟩, r⟩ := hr
  exact ⟨J, r⟩
theorem look_kv {h : Heap} {m : Nat} {L : List Fm} (hm : h.row m = some (kvL L)) (n : Int) (z : V) (ok : Bool) :
    lookV h .int (.mp m) (.int .u64 n) z ok = some (match findN L n with | some g => if ok then .tup [g.v, .bool true] else g.v | none => if ok then .tup [z, .bool false] else z) := by
  obtain ⟨j, hj⟩ := kvL_find n L 0
  unfold lookV
  simp only [kvsOf, hm, Option.bind_some, keyEq, if_true, hj]
  cases findN L n <;> rfl
theorem mset_kv {h : Heap} {m : Nat} {L : List Fm} (hm : h.row m = some (kvL L)) (f : Fm) (hn : findN L f.num = none) : msetV h .int (.mp m) (.int .u64 f.num) f.v = some (h.set m (some (kvL (L ++ [f])))) := by
  obtain ⟨j, hj⟩ := kvL_find f.num L 0
  rw [hn] at hj
  unfold msetV
  simp only [hm, Option.bind_some, keyEq, if_true, hj, Option.map_none]
  simp [kvL, kvF]
theorem findN_mem {L : List Fm} {n : Int} {g : Fm} (h : findN L n = some g) : g ∈ L ∧ g.num = n := by
  unfold findN at h
  have h1 := List.mem_of_find?_eq_some h
  have h2 := List.find?_some h
  exact ⟨h1, by simpa using h2⟩
theorem findN_none {L : List Fm} {n : Int} (h : findN L n = none) : ∀ g, g ∈ L → g.num ≠ n := fun g hg => by
  unfold findN at h
  have := List.find?_eq_none.1 h g hg
  simpa using this
theorem SH.setM {h : Heap} {s m : Nat} {L : List Fm} (k : SH h s m L) (L' : List Fm) : SH (h.set m (some (kvL L'))) s m L' := ⟨by rw [row_ne (fun e => k.ne e.symm)]; exact k.rs, by rw [row_set (row_lt k.rm)], k.ne⟩
theorem row_app_ge {h J : Heap} {b : Nat} (hb : h.length ≤ b) : (h ++ J).row b = J.row (b - h.length) := by unfold Heap.row; rw [List.getElem?_append_right hb]
def takeE (L : List Fm) (f : Fm) : Int := if mayF f then (match findN L f.num with | some g => if g = f then 15 else 6 | none => if fitsB L f then 0 else 6) else 3
def Fm.z : Fm := ⟨0, 0, 0, 0, []⟩
theorem WTake_run {h : Heap} {s m : Nat} {L : List Fm} (hS : SH h s m L) (hL : LOk L) (f : Fm) (hf : f.ok) :
    ∃ h', SH h' s m (if takeE L f = 0 then L ++ [f] else L) ∧ Run T f_whole_Station_Take [.ptr s 0, f.v] h (.int .i64 (takeE L f)) h' := by
  have hll := hL.len
  have hr : ∃ v h', (v = .int .i64 (takeE L f) ∧ SH h' s m (if takeE L f = 0 then L ++ [f] else L)) ∧ Run T f_whole_Station_Take [.ptr s 0, f.v] h v h' := by
    refine Run.startP t_whole_Station_Take ?_
    unfold k_whole_Station_Take
    have S1 : ∀ J, SH (h ++ J) s m L := fun J => hS.app J
    have cp := fun {ks : List Kt} {ops : List AOpr} {K : Kp} {e : Env} {h : Heap} {Q : Ex → Env → Heap → Prop} {d : Nat} => Check_p (ks := ks) (ops := ops) (K := K) (e := e) (h := h) (Q := Q) (d := d) (lent := false) f hf
    simp only [Fm.v] at cp
    have ft : f.cs.take 5 = f.cs := rfl
    have gt : ∀ g : Fm, g.cs.take 5 = g.cs := fun _ => rfl
    have gl : ∀ g : Fm, g.cs.length = 5 := fun _ => rfl
    have g1 : ∀ g : Fm, g.cs.all V.one = true := fun _ => rfl
    have g2 : ∀ (g : Fm) x, x ∈ g.cs → x.one = true := fun g x hx => List.all_eq_true.1 (g1 g) x hx
    have fl := f.len
    cases cm : mayF f with
    | false =>
      have te : takeE L f = 3 := by unfold takeE; rw [cm]; rfl
      rw [cm] at cp
      simp (disch := omega) [Fm.v, ft, Fm.one, fl, te, cp, g2]
      exact S1 _
    | true =>
      rw [cm] at cp
      have H1 : ∀ J, (h ++ J).row s = some [.mp m] := fun J => (S1 J).rs
      have H2 : ∀ J, (h ++ J).row m = some (kvL L) := fun J => (S1 J).rm
      have e0 : f.cs[0]? = some (.int .u64 f.num) := rfl
      have lk := fun J => look_kv (H2 J) f.num (.agg [.int .u64 0, .int .u64 0, .int .i64 0, .int .i64 0, .str []]) true
      simp (disch := omega) [Fm.v, ft, Fm.one, fl, cp, g2]
      apply Xc_regf
      cases cf : findN L f.num with
      | some g =>
        rw [cf] at lk
        simp only [if_true, Fm.v] at lk
        have te : takeE L f = if g = f then 15 else 6 := by unfold takeE; rw [cm, cf]; rfl
        have sp : spliceL [V.int .u64 0, .int .u64 0, .int .i64 0, .int .i64 0, .str []] 0 g.cs = g.cs := rfl
        simp (disch := omega) [H1, H2, e0, lk, gl, gt, Fm.one, sp, Fm.eqv, -eq_fcons]
        simp (disch := omega) [flagsIn, flagP, evOp, H1, H2, e0, lk, gl, gt, Fm.one, sp, Fm.eqv, -eq_fcons]
        by_cases c1 : g = f
        · simp (disch := omega) [te, c1]
          exact S1 _
        · simp (disch := omega) [te, c1]
          exact S1 _
      | none =>
        rw [cf] at lk
        simp only [if_true, if_false] at lk
        have te : takeE L f = if fitsB L f then 0 else 6 := by unfold takeE; rw [cm, cf]; rfl
        have ms := fun J => mset_kv (H2 J) f cf
        simp (disch := omega) [H1, H2, e0, lk, gl, gt, Fm.one]
        simp (disch := omega) [flagsIn, flagP, evOp, H1, H2, e0, lk, gl, gt, Fm.one, Fm.eqv, -eq_fcons]
        obtain ⟨J2, fr⟩ := wfits_run (S1 [some f.cs, some [.int .u64 0, .int .u64 0, .int .i64 0, .int .i64 0, .str []]]) hL f hf cm
        simp only [Fm.v] at fr
        rw [Xf_run fr]
        rw [List.append_assoc]
        have rf : (h ++ ([some f.cs, some [V.int .u64 0, V.int .u64 0, V.int .i64 0, V.int .i64 0, V.str []]] ++ J2)).row h.length = some f.cs := by rw [row_app_ge (Nat.le_refl _), Nat.sub_self]; rfl
        have rg : Heap.row ([some f.cs, some [V.int .u64 0, V.int .u64 0, V.int .i64 0, V.int .i64 0, V.str []]] ++ J2) 0 = some f.cs := rfl
        generalize [some f.cs, some [V.int .u64 0, .int .u64 0, .int .i64 0, .int .i64 0, .str []]] ++ J2 = J3 at *
        cases ft : fitsB L f with
        | false =>
          simp (disch := omega) [te, ft]
          exact S1 _
        | true =>
          have ml : ∀ J, mlenV (h ++ J) (.mp m) = some (.int .i64 L.length) := fun J => by
            unfold mlenV kvsOf
            simp only [H2, Option.bind_some, kvL_count, Option.map_some]
          simp only [Fm.v] at ms
          have nl : ¬ (65536 : Int) ≤ L.length := by omega
          simp (disch := omega) [te, ft, H1, ml, nl, rf, rg, e0, ms, gt, gl]
          exact (S1 J3).setM _
  obtain ⟨v, h', ⟨rfl, q⟩, r⟩ := hr
  exact ⟨h', q, r⟩
theorem seen_perm {n : Nat} {seen : List Nat} (h1 : seen.Nodup) (h2 : ∀ p, p ∈ seen → p < n) (h3 : ∀ p, p < n → p ∈ seen) : seen.Perm (List.range n) :=
  (List.perm_ext_iff_of_nodup h1 List.nodup_range).2 fun p => ⟨fun h => List.mem_range.2 (h2 p h), fun h => h3 p (List.mem_range.1 h)⟩
theorem range_map {α : Type} (l : List α) : (List.range l.length).filterMap (fun p => l[p]?) = l := by
  induction l with
  | nil => rfl
  | cons a l ih =>
    rw [List.length_cons, List.range_succ_eq_map, List.filterMap_cons]
    simp only [List.getElem?_cons_zero, List.filterMap_map]
    congr 1
def numsL (L : List Fm) (n : Int) : List Int := ((L.map Fm.num).filter fun x => decide (x < n)).mergeSort fun a b => decide (a ≤ b)
theorem numsL_perm (L : List Fm) (n : Int) : (numsL L n).Perm ((L.map Fm.num).filter fun x => decide (x < n)) := List.mergeSort_perm _ _
theorem numsL_sorted (L : List Fm) (n : Int) : (numsL L n).Pairwise (· ≤ ·) := by
  have := List.pairwise_mergeSort (le := fun a b : Int => decide (a ≤ b)) (fun a b c h k => by simp at *; omega) (fun a b => by simp; omega) ((L.map Fm.num).filter fun x => decide (x < n))
  exact this.imp fun h => by simpa using h
theorem sorted_uniq {a b : List Int} (hp : a.Perm b) (ha : a.Pairwise (· ≤ ·)) (hb : b.Pairwise (· ≤ ·)) : a = b := hp.eq_of_pairwise (fun x y _ _ h k => by omega) ha hb
theorem setrow {h : Heap} {b : Nat} {cs : List V} (hr : h.row b = some cs) : h.set b (some cs) = h := by
  have h1 := row_some hr
  apply List.ext_getElem?
  intro i
  by_cases c : b = i
  · subst c; rw [List.getElem?_set_self (row_lt hr), h1]
  · rw [List.getElem?_set_ne c]
/-- Numbers sorted. -/
theorem SortU_run {h : Heap} {b : Nat} {l : List Int} (hr : h.row b = some (u64L l)) (hn : l.length < 64) : ∃ g l', l'.Perm l ∧ l'.Pairwise (· ≤ ·) ∧ Run T f_slices_Sort_uint64_uint64 [.hs 1 b 0 l.length] h (.tup []) g ∧ h.length ≤ g.length ∧ g.row b = some (u64L l') ∧ ∀ i, i < h.length → i ≠ b → g.row i = h.row i := by
  obtain ⟨g2, d', a1, a2, a3, rs⟩ := sortf_run (h0 := h) (h := h) (b := b) (row_lt hr) ⟨Nat.le_refl _, fun _ _ _ => rfl⟩ l.toArray (by simpa using hn)
  have sd : SD h b l.toArray = h := by
    unfold SD
    exact setrow (by simpa using hr)
  have fsz : l.toArray.size = l.length := by simp
  rw [sd, fsz] at rs
  have dsz : d'.size = l.length := by rw [a2.1, fsz]
  have b2 : b < g2.length := Nat.lt_of_lt_of_le (row_lt hr) a1.1
  refine ⟨_, d'.toList, ?_, ?_, rs, by rw [SD_len]; exact a1.1, SD_row b2 d', fun i hi hne => ?_⟩
  · have := a2.2.2
    simp at this
    rwa [List.take_of_length_le (by simp [dsz])] at this
  · rw [List.pairwise_iff_getElem]
    intro i j hi hj hij
    simp at hi hj
    have := a3 i j (Nat.zero_le _) hij (by rw [fsz, ← dsz]; exact hj)
    simp only [Sort.ltInt, decide_eq_false_iff_not] at this
    simp only [getElem!_pos d' i hi, getElem!_pos d' j hj] at this
    simp
    omega
  · unfold SD
    rw [row_ne (fun e => hne e.symm)]
    exact a1.2 i hi hne
theorem SortU_hn (h : Heap) : Run T f_slices_Sort_uint64_uint64 [.hn 1] h (.tup []) h := by
  have r1 : Run T f_slices_insertionSortOrdered_uint64 [.hn 1, .int .i64 0, .int .i64 0] h (.tup []) h := by
    refine Run.start t_slices_insertionSortOrdered_uint64 ?_
    unfold k_slices_insertionSortOrdered_uint64
    simp (disch := omega)
    rw [L_slices_insertionSortOrdered_uint64_1]; unfold bl_slices_insertionSortOrdered_uint64_1
    simp (disch := omega)
  have r2 : ∀ lim, Run T f_slices_pdqsortOrdered_uint64 [.hn 1, .int .i64 0, .int .i64 0, .int .i64 lim] h (.tup []) h := fun lim => by
    refine Run.start t_slices_pdqsortOrdered_uint64 ?_
    unfold k_slices_pdqsortOrdered_uint64
    simp (disch := omega)
    rw [L_slices_pdqsortOrdered_uint64_0]; unfold bl_slices_pdqsortOrdered_uint64_0
    simp (disch := omega)
    rw [Xf_run r1]
    simp (disch := omega)
  refine Run.start t_slices_Sort_uint64_uint64 ?_
  unfold k_slices_Sort_uint64_uint64
  have := len_run [] 0 (by omega)
  simp at this
  simp (disch := omega)
  rw [Xp_run this (by simp) (by simp) (by simp)]
  simp (disch := omega)
  rw [Xf_run (r2 _)]
  simp (disch := omega)
theorem Meets.imp {c : Prop} {S : Heap → Prop} (a : Meets S) : Meets fun h => c → S h := fun x y hx hy hc => a x y (hx hc) (hy hc)
theorem Meets.row (i : Nat) (cs : List V) : Meets fun h => h.row i = some cs := fun x y hx hy => by
  have := hMeet_at x y i (some cs) (row_some hx) (row_some hy)
  simp [Heap.row, this]
theorem get_row {h g : Heap} {i : Nat} (h1 : i < h.length) (h2 : i < g.length) (hr : g.row i = h.row i) : g[i]? = h[i]? := by
  unfold Heap.row at hr
  rw [List.getElem?_eq_getElem h1, List.getElem?_eq_getElem h2] at hr ⊢
  simpa using hr
def accL (L : List Fm) (n : Int) (seen : List Nat) : List Int := ((seen.filterMap fun p => L[p]?).map Fm.num).filter fun x => decide (x < n)
def accV (k b : Nat) : V := if k = 0 then .hn 1 else .hs 1 b 0 k
theorem numbers_run {h : Heap} {s m : Nat} {L : List Fm} (hS : SH h s m L) (hL : LOk L) (n : Int) : ∃ J, Run T f_whole_Station_numbers [.ptr s 0, .int .u64 n] h (.ps 1 (u64L (numsL L n))) (h ++ J) := by
  have hll := hL.len
  have hr : ∃ v h', (v = .ps 1 (u64L (numsL L n)) ∧ ∃ J, h' = h ++ J) ∧ Run T f_whole_Station_numbers [.ptr s 0, .int .u64 n] h v h' := by
    refine Run.startP t_whole_Station_numbers ?_
    unfold k_whole_Station_numbers
    simp (disch := omega)
    have nl : (numsL L n).length ≤ 40 := by
      rw [(numsL_perm L n).length_eq]
      exact Nat.le_trans (List.length_filter_le _ _) (by simpa using hll)
    generalize hN : numsL L n = N at nl
    refine Xc_mloop (.r) [(4, accV N.length (h.length + N.length))] (fun h' => (∃ J, h' = h ++ J) ∧ (N ≠ [] → h'.row (h.length + N.length) = some (u64L N))) ?_ ?_
    · have r1 : ∀ J, (h ++ J).row s = some [.mp m] := fun J => pre_row hS.rs
      have r2 : ∀ J, (h ++ J).row m = some (kvL L) := fun J => pre_row hS.rm
      simp (disch := omega) [hS.rs, hS.rm, kvL_is, kvL_len]
      refine Mg_walk ((Meets.pre h).and (Meets.imp (Meets.row _ _))) (wk := h.length) (m := m) (N := L.length)
        (fun seen kvs e hh => kvs = kvL L ∧ e.keep [1, 5, 14] = [(1, .int .u64 n), (5, accV (accL L n seen).length (h.length + (accL L n seen).length)), (14, .itr h.length)] ∧ (∃ J, hh = h ++ J ∧ J.length = 1 + (accL L n seen).length) ∧ (∃ last, L.length ≤ last ∧ hh.row h.length = some [.mp m, .ptr L.length last, seenV seen]) ∧ (accL L n seen ≠ [] → hh.row (h.length + (accL L n seen).length) = some (u64L (accL L n seen))) ∧ ∀ p, p ∈ seen → p < L.length)
        ?_ ?_ ?_ L.length [] (kvL L) _ _ (by simp) ?_ (by simp) (by simp)
      · rintro seen kvs e hh ⟨rfl, he, ⟨J, rfl, _⟩, hw, _⟩
        exact ⟨by rw [he]; rfl, hw, r2 _, kvL_is L, kvL_len L⟩
      · rintro seen kvs e hh ⟨rfl, he, ⟨J, rfl, hJ⟩, hw, hacc, hlt⟩ hn hcov
        rw [he]
        unfold cm_whole_Station_numbers_0
        have hperm : (accL L n seen).Perm N := by
          have h1 : seen.Perm (List.range L.length) := seen_perm hn hlt fun p hp => hcov p _ (by rw [kvL_get, List.getElem?_eq_getElem hp]; rfl)
          have h2 := ((h1.filterMap fun p => L[p]?).map Fm.num).filter fun x => decide (x < n)
          rw [range_map] at h2
          rw [← hN]
          exact h2.trans (numsL_perm L n).symm
        have hlen := hperm.length_eq
        by_cases c : accL L n seen = []
        · have cN : N = [] := by rw [c] at hperm; exact hperm.nil_eq.symm
          rw [c]
          simp [accV]
          rw [Xf_run (SortU_hn _)]
          simp [cN]
        · have hl : (accL L n seen).length ≠ 0 := fun e => c (List.length_eq_zero_iff.1 e)
          have cN : N ≠ [] := fun e => by rw [e] at hlen; exact hl hlen
          have hlN : N.length ≠ 0 := by omega
          obtain ⟨g, l', p1, p2, rs, p3, p4, p5⟩ := SortU_run (hacc c) (by omega)
          have hlN' : l' = N := sorted_uniq (p1.trans hperm) p2 (by rw [← hN]; exact numsL_sorted L n)
          subst hlN'
          rw [hlen] at rs p4 p5 ⊢
          simp [accV, hlN]
          rw [Xf_run rs]
          simp [cN, p4]
          simp only [List.length_append] at p3
          refine pre_of (n := 0) (by omega) fun i hi => ?_
          rw [get_row (h := h ++ J) (by simp; omega) (by omega) (p5 i (by simp; omega) (by omega)), List.getElem?_append_left hi]
      · rintro seen kvs e hh p x ⟨rfl, he, ⟨J, rfl, hJ⟩, ⟨last, hl1, hw⟩, hacc, _⟩ hn hlt hp hps
        rw [kvL_get] at hp
        cases hg : L[p]? with
        | none => rw [hg] at hp; cases hp
        | some g =>
        rw [hg] at hp
        simp only [Option.map_some, kvF, Option.some.injEq, V.tup.injEq] at hp
        subst hp
        have hpl : p < L.length := (List.getElem?_eq_some_iff.1 hg).1
        have hwl := row_lt hw
        rw [he]
        obtain ⟨Z, hZ⟩ : ∃ Z : Heap, Z = (h ++ J).set h.length (some [.mp m, .ptr L.length L.length, seenV (seen ++ [p])]) := ⟨_, rfl⟩
        have z1 : Z.row h.length = some [.mp m, .ptr L.length L.length, seenV (seen ++ [p])] := by rw [hZ, row_set hwl]
        have zp : Z = h ++ J.set 0 (some [.mp m, .ptr L.length L.length, seenV (seen ++ [p])]) := by rw [hZ, set_pre (Nat.le_refl _)]; simp
        have z2 : Z.row m = some (kvL L) := by rw [zp]; exact r2 _
        have zl : Z.length = h.length + 1 + (accL L n seen).length := by rw [hZ]; simp; omega
        have z3 : accL L n seen ≠ [] → Z.row (h.length + (accL L n seen).length) = some (u64L (accL L n seen)) := fun c => by
          have : (accL L n seen).length ≠ 0 := fun e => c (List.length_eq_zero_iff.1 e)
          rw [hZ, row_ne (by omega)]
          exact hacc c
        rw [← hZ]
        have he := ent_row z1 z2 (kvL_is L) (kvL_len L) (p := p) (k := .int .u64 g.num) (v := g.v) (by rw [kvL_get, hg]; rfl)
        have ha : accL L n (seen ++ [p]) = if g.num < n then accL L n seen ++ [g.num] else accL L n seen := by
          unfold accL
          simp only [List.filterMap_append, List.filterMap_cons, hg, List.filterMap_nil, List.map_append, List.map_cons, List.map_nil, List.filter_append, List.filter_cons, List.filter_nil]
          split <;> simp_all
        have hlt' : ∀ q, q ∈ seen ++ [p] → q < L.length := fun q hq => by
          rcases List.mem_append.1 hq with hq | hq
          · exact hlt q hq
          · simp at hq; omega
        unfold bm_whole_Station_numbers_0
        by_cases c : g.num < n
        · rw [if_pos c] at ha
          by_cases c2 : accL L n seen = []
          · rw [c2] at ha zl ⊢
            simp at zl
            simp [he, accV, c, Wb]
            rw [ha]
            simp [zl]
            refine ⟨⟨_, by rw [zp, List.append_assoc], by simp [hJ, c2]⟩, ⟨L.length, Nat.le_refl _, z1⟩, ?_, fun q hq => hlt' q (by simpa using hq)⟩
            rw [show h.length + 1 = Z.length by omega, row_new]
            rfl
          · have hl : (accL L n seen).length ≠ 0 := fun e => c2 (List.length_eq_zero_iff.1 e)
            have z3' := z3 c2
            have hb : ((accL L n seen).length + 1) * 8 ≤ 140737488355328 := by
              have h1 := nodup_lt L.length seen hn hlt
              have h2 : (accL L n seen).length ≤ seen.length := Nat.le_trans (List.length_filter_le _ _) (by simpa using List.length_filterMap_le _ _)
              omega
            simp [he, accV, c, Wb, hl, z3', u64L_len, hb]
            rw [ha]
            simp [zl]
            refine ⟨by omega, ⟨_, by rw [zp, set_pre (by omega), List.append_assoc], by simp [hJ]; omega⟩, ⟨L.length, Nat.le_refl _, by rw [row_app (by simp; omega), row_ne (by omega)]; exact z1⟩, ?_, fun q hq => hlt' q (by simpa using hq)⟩
            rw [show h.length + ((accL L n seen).length + 1) = (Z.set (h.length + (accL L n seen).length) none).length by simp; omega, row_new]
            simp [u64L]
        · rw [if_neg c] at ha
          simp [he, accV, c, Wb]
          rw [ha]
          simp
          refine ⟨⟨_, zp, by simp [hJ]⟩, ⟨L.length, Nat.le_refl _, z1⟩, z3, fun q hq => hlt' q (by simpa using hq)⟩
      · refine ⟨rfl, rfl, ⟨_, rfl, rfl⟩, ⟨L.length, Nat.le_refl _, by simp [seenV]⟩, by simp [accL]⟩
    · rintro h' ⟨⟨J, rfl⟩, hrow⟩
      by_cases c : N = []
      · subst c
        simp [accV, u64L]
      · have hl : N.length ≠ 0 := fun e => c (List.length_eq_zero_iff.1 e)
        have hrow := hrow c
        have fz := freeze_hs hrow (u64L_one N)
        rw [u64L_len] at fz
        simp [accV, hl, fz]

  obtain ⟨v, h', ⟨rfl, J, rfl⟩, r⟩ := hr
  exact ⟨J, r⟩
structure Pr where
  lo : Int
  hi : Int
  deriving Inhabited
def Pr.cs (p : Pr) : List V := [.int .u64 p.lo, .int .u64 p.hi]
def Pr.v (p : Pr) : V := .agg p.cs
def prs (l : List Pr) : List V := l.flatMap Pr.cs
theorem prs_len : ∀ (l : List Pr), (prs l).length = l.length * 2
  | [] => rfl
  | x :: r => by
    have := prs_len r
    show (x.cs ++ prs r).length = _
    rw [List.length_append, this]; simp [Pr.cs]; omega
theorem prs_app (a b : List Pr) : prs (a ++ b) = prs a ++ prs b := by simp [prs]
def Pr.vs (l : List Pr) : List V := l.map Pr.v
structure Pr.ok (p : Pr) : Prop where
  l0 : 0 ≤ p.lo
  l1 : p.lo < 18446744073709551616
  h0 : 0 ≤ p.hi
  h1 : p.hi < 18446744073709551616
def inP (l : List Pr) (n : Int) : Bool := l.any fun p => decide (p.lo ≤ n) && decide (n ≤ p.hi)
theorem chunkPr : ∀ l : List Pr, chunk 2 true l.length (prs l) = Pr.vs l
  | [] => rfl
  | x :: l => by
    have ih := chunkPr l
    show V.agg ((prs (x :: l)).take 2) :: chunk 2 true l.length ((prs (x :: l)).drop 2) = x.v :: Pr.vs l
    have e : prs (x :: l) = x.cs ++ prs l := rfl
    have hl : x.cs.length = 2 := rfl
    rw [e, List.take_left' hl, List.drop_left' hl, ih]
    rfl
theorem freezePr (h : Heap) (j : Nat) (l : List Pr) (hr : h.row j = some (prs l)) (ag : Bool) : freeze1 (ag || decide (1 < 2)) (.hs 2 j 0 l.length) h = some (.ps 2 (Pr.vs l), h.set j none) := by
  have fl := prs_len l
  simp only [freeze1, hsCells, hr, Option.bind_some, Nat.zero_add, List.drop_zero]
  rw [if_pos (by omega), Option.bind_some, List.take_of_length_le (by omega), if_pos (by simp [chunkOk])]
  have := chunkPr l
  simp only [show (ag || decide (1 < 2)) = true from by simp]
  rw [this]
theorem vs_len (l : List Pr) : (Pr.vs l).length = l.length := by simp [Pr.vs]
theorem vs_get (l : List Pr) (i : Nat) : (Pr.vs l)[i]? = (l[i]?).map Pr.v := by simp [Pr.vs]
theorem In_loop (l : List Pr) (n : Int) (hb : l.length < 4611686018427387904) (h : Heap) : ∀ (m i : Nat), i + m = l.length → ∀ ks Q,
    (inP (l.drop i) n = false → ∀ z, Xk T ks (.x 0) z h Q) → (inP (l.drop i) n = true → Xk T ks .r [(4, .bool true)] h Q) →
    Xc T l_ref34_In_0 ks [(0, .ps 2 (Pr.vs l)), (1, .int .u64 n), (5, .int .i64 i)] h Q := by
  intro m
  induction m with
  | zero =>
    intro i hi ks Q h1 h2
    have e : l.drop i = [] := List.drop_eq_nil_of_le (by omega)
    rw [e] at h1
    have c1 : ¬ (i : Int) < l.length := by omega
    rw [L_ref34_In_0]; unfold bl_ref34_In_0
    simp (disch := omega) [c1, vs_len]
    exact h1 rfl _
  | succ m ih =>
    intro i hi ks Q h1 h2
    have hil : i < l.length := by omega
    have e := List.drop_eq_getElem_cons hil
    have c1 : (i : Int) < l.length := by omega
    have g1 : (Pr.vs l)[i]? = some l[i].v := by rw [vs_get, List.getElem?_eq_getElem hil]; rfl
    have vc : l[i].v.cells = [.int .u64 l[i].lo, .int .u64 l[i].hi] := rfl
    have q : inP (l.drop i) n = ((decide (l[i].lo ≤ n) && decide (n ≤ l[i].hi)) || inP (l.drop (i + 1)) n) := by rw [e]; exact List.any_cons
    rw [q] at h1 h2
    have ih := ih (i + 1) (by omega) ks Q
    rw [show ((i + 1 : Nat) : Int) = (i : Int) + 1 from rfl] at ih
    rw [L_ref34_In_0]; unfold bl_ref34_In_0
    by_cases c2 : l[i].lo ≤ n
    · by_cases c3 : n ≤ l[i].hi
      · simp (disch := omega) [c1, vs_len, g1, vc, c2, c3]
        exact h2 (by rw [decide_eq_true c2, decide_eq_true c3]; rfl)
      · simp (disch := omega) [c1, vs_len, g1, vc, c2, c3]
        rw [decide_eq_true c2, decide_eq_false c3] at h1 h2
        exact ih h1 h2
    · simp (disch := omega) [c1, vs_len, g1, vc, c2]
      rw [decide_eq_false c2] at h1 h2
      exact ih h1 h2
theorem In_run (l : List Pr) (n : Int) (hb : l.length < 4611686018427387904) (h : Heap) : Run T f_ref34_In [.ps 2 (Pr.vs l), .int .u64 n] h (.bool (inP l n)) h := by
  refine Run.start t_ref34_In ?_
  unfold k_ref34_In
  simp (disch := omega)
  have := In_loop l n hb h l.length 0 (by omega)
  refine this _ _ (fun h z => ?_) (fun h => ?_)
  · rw [List.drop_zero] at h; simp [h]
  · rw [List.drop_zero] at h; simp [h]
theorem vs_hf (l : List Pr) : V.hfs (Pr.vs l) = true := by
  induction l with
  | nil => rfl
  | cons x l ih => show (V.hf x.v && V.hfs (Pr.vs l)) = true; rw [ih]; rfl
def aptC (l : List Pr) (i : Nat) : Prop := ∃ p, l[i]? = some p ∧ p.lo ≤ p.hi ∧ (0 < i → ∃ q, l[i - 1]? = some q ∧ q.hi + 2 ≤ p.lo)
theorem Apart_loop (l : List Pr) (hb : l.length < 4611686018427387904) (hok : ∀ p ∈ l, p.ok) (ha : ∀ i, i < l.length → aptC l i) (h : Heap) : ∀ (m i : Nat), i + m = l.length → ∀ ks Q,
    (∀ z, Xk T ks (.x 0) z h Q) → Xc T l_ref34_Apart_0 ks [(0, .ps 2 (Pr.vs l)), (3, .int .i64 i)] h Q := by
  intro m
  induction m with
  | zero =>
    intro i hi ks Q h1
    have c1 : ¬ (i : Int) < l.length := by omega
    rw [L_ref34_Apart_0]; unfold bl_ref34_Apart_0
    simp (disch := omega) [c1, vs_len]
    exact h1 _
  | succ m ih =>
    intro i hi ks Q h1
    have hil : i < l.length := by omega
    have c1 : (i : Int) < l.length := by omega
    obtain ⟨p, hp, c2, c3⟩ := ha i hil
    have pok := hok p (List.mem_of_getElem? hp)
    have g1 : (Pr.vs l)[i]? = some p.v := by rw [vs_get, hp]; rfl
    have vc : ∀ p : Pr, p.v.cells = [.int .u64 p.lo, .int .u64 p.hi] := fun _ => rfl
    have ih := ih (i + 1) (by omega) ks Q h1
    rw [show ((i + 1 : Nat) : Int) = (i : Int) + 1 from rfl] at ih
    rw [L_ref34_Apart_0]; unfold bl_ref34_Apart_0
    have c4 : ¬ p.hi < p.lo := by omega
    by_cases i0 : i = 0
    · subst i0
      have c0 : 0 < l.length := hil
      simp (disch := omega) [c0, vs_len, g1, vc, c4]
      simpa using ih
    · obtain ⟨q, hq, c5⟩ := c3 (by omega)
      have qok := hok q (List.mem_of_getElem? hq)
      have g2 : (Pr.vs l)[i - 1]? = some q.v := by rw [vs_get, hq]; rfl
      have e5 : ((i : Int) - 1).toNat = i - 1 := by omega
      have c6 : ¬ p.lo ≤ q.hi := by omega
      have c7 : ¬ p.lo - q.hi < 2 := by omega
      have i1 : (0 : Int) < i := by omega
      have k1 := pok.l0
      have k2 := pok.l1
      have k3 := qok.h0
      have k4 := qok.h1
      have i2 : 0 < i := by omega
      simp (disch := omega) [c1, vs_len, g1, g2, vc, c4, c6, c7, i1, i2, e5]
      simpa using ih
theorem Apart_run (l : List Pr) (hb : l.length < 4611686018427387904) (hok : ∀ p ∈ l, p.ok) (ha : ∀ i, i < l.length → aptC l i) (h : Heap) : Run T f_ref34_Apart [.ps 2 (Pr.vs l)] h (.bool true) h := by
  refine Run.start t_ref34_Apart ?_
  unfold k_ref34_Apart
  simp (disch := omega)
  have := Apart_loop l hb hok ha h l.length 0 (by omega)
  refine this _ _ (fun z => ?_)
  simp
section
variable {ks : List Kt} {ops : List AOpr} {K : Kp} {e : Env} {h : Heap} {Q : Ex → Env → Heap → Prop} {d : Nat} {lent : Bool}
theorem In_p (l : List Pr) (n : Int) (hb : l.length < 4611686018427387904) : Xp T f_ref34_In (some ([.ps 2 (Pr.vs l), .int .u64 n], lent)) h (some d) ops K ks e Q = Xo T ops K ks ((d, .bool (inP l n)) :: e) h Q :=
  Xp_run (In_run l n hb []) (by simp [vs_hf]) rfl (by simp [scalar])
end
def missL : Int → List Int → Int → List Pr
  | a, [], m => if a < m then [⟨a, m - 1⟩] else []
  | a, n :: r, m => (if a < n then [⟨a, n - 1⟩] else []) ++ missL (n + 1) r m
def ovP (acc : List Pr) (b : Nat) : V := if acc = [] then .hn 2 else .hs 2 b 0 acc.length
/-- What is gathered: in a box, and where it begins in another one. -/
structure MS (h0 g : Heap) (i5 i6 : Nat) (a : Int) (acc : List Pr) : Prop where
  pre : ∃ J, g = h0 ++ J
  r6 : g.row i6 = some [.int .u64 a]
  r5 : ∃ b, g.row i5 = some [ovP acc b] ∧ (acc ≠ [] → g.row b = some (prs acc) ∧ b ≠ i5 ∧ b ≠ i6 ∧ h0.length ≤ b)
  l5 : h0.length ≤ i5
  l6 : h0.length ≤ i6
  ne : i5 ≠ i6
theorem row_end {h : Heap} {b : Nat} {o : Option (List V)} (e : b = h.length) : Heap.row (h ++ [o]) b = o := by subst e; exact row_new
theorem upTo_run {h0 g : Heap} {i5 i6 : Nat} {a n : Int} {acc : List Pr} (ms : MS h0 g i5 i6 a acc) (ha : 0 ≤ a) (hn : n < 18446744073709551616) (hl : acc.length ≤ 1000) :
    ∃ g', MS h0 g' i5 i6 a (acc ++ if a < n then [⟨a, n - 1⟩] else []) ∧ Run T f_whole_Station_Missing_1 [.int .u64 n, .ptr i6 0, .ptr i5 0] g (.tup []) g' := by
  obtain ⟨pre, r6, ⟨b, r5, rb⟩, l5, l6, ne⟩ := ms
  have q5 := row_lt r5
  have q6 := row_lt r6
  by_cases c : a < n
  · have hr : ∃ v g', (v = .tup [] ∧ MS h0 g' i5 i6 a (acc ++ [⟨a, n - 1⟩])) ∧ Run T f_whole_Station_Missing_1 [.int .u64 n, .ptr i6 0, .ptr i5 0] g v g' := by
      refine Run.startP t_whole_Station_Missing_1 ?_
      unfold k_whole_Station_Missing_1
      by_cases ca : acc = []
      · subst ca
        simp [ovP] at r5
        simp (disch := omega) [r6, r5, c]
        refine ⟨?_, ?_, ⟨g.length, ?_, ?_⟩, l5, l6, ne⟩
        · obtain ⟨J, rfl⟩ := pre
          exact ⟨_, by rw [set_pre l5, List.append_assoc]⟩
        · rw [row_app (by simpa using q6), row_ne ne]; exact r6
        · rw [row_app (by simpa using q5), row_set q5]; rfl
        · intro _
          refine ⟨?_, by omega, by omega, by obtain ⟨J, rfl⟩ := pre; simp⟩
          rw [row_end (by simp)]
          rfl
      · obtain ⟨rb1, rb2, rb3, rb4⟩ := rb ca
        have qb := row_lt rb1
        simp [ovP, ca] at r5
        have hb : (acc.length + 1) * 2 * 16 ≤ 140737488355328 := by omega
        have hb2 : (prs acc ++ (⟨a, n - 1⟩ : Pr).cs).length = acc.length * 2 + 2 := by simp [prs_len, Pr.cs]
        have fr : ∀ x, Heap.row (g.set b none ++ x) i5 = some [.hs 2 b 0 acc.length] := fun x => by rw [row_app (by simpa using q5), row_ne rb2]; exact r5
        simp (disch := omega) [r6, r5, c, rb1, prs_len, fr]
        refine ⟨?_, ?_, ⟨g.length, ?_, fun _ => ⟨?_, by omega, by omega, by obtain ⟨J, rfl⟩ := pre; simp⟩⟩, l5, l6, ne⟩
        · obtain ⟨J, rfl⟩ := pre
          exact ⟨_, by rw [set_pre rb4, List.append_assoc, set_pre l5]⟩
        · rw [row_ne ne, row_app (by simpa using q6), row_ne rb3]; exact r6
        · rw [row_set (by simp; omega)]; simp [ovP]
        · rw [row_ne (by omega), row_end (by simp), prs_app]; rfl
    obtain ⟨v, g', ⟨rfl, q⟩, r⟩ := hr
    rw [if_pos c]
    exact ⟨g', q, r⟩
  · refine ⟨g, ?_, ?_⟩
    · rw [if_neg c, List.append_nil]
      exact ⟨pre, r6, ⟨b, r5, rb⟩, l5, l6, ne⟩
    · refine Run.start t_whole_Station_Missing_1 ?_
      unfold k_whole_Station_Missing_1
      simp (disch := omega) [r6, c]
theorem MS.set6 {h0 g : Heap} {i5 i6 : Nat} {a : Int} {acc : List Pr} (ms : MS h0 g i5 i6 a acc) (a' : Int) : MS h0 (g.set i6 (some [.int .u64 a'])) i5 i6 a' acc := by
  obtain ⟨⟨J, rfl⟩, r6, ⟨b, r5, rb⟩, l5, l6, ne⟩ := ms
  refine ⟨⟨_, set_pre l6⟩, by rw [row_set (row_lt r6)], ⟨b, by rw [row_ne (fun e => ne e.symm)]; exact r5, fun c => ?_⟩, l5, l6, ne⟩
  obtain ⟨h1, h2, h3, h4⟩ := rb c
  exact ⟨by rw [row_ne (fun e => h3 e.symm)]; exact h1, h2, h3, h4⟩
theorem miss_loop {h0 : Heap} {i5 i6 : Nat} (l : List Int) (hl : l.length ≤ 40) (hlt : ∀ n, n ∈ l → 0 ≤ n ∧ n < 2147483648) (u v : V) : ∀ (k i : Nat) (g : Heap) (a : Int) (acc : List Pr), i + k = l.length → MS h0 g i5 i6 a acc → 0 ≤ a → acc.length ≤ i → ∀ ks Q,
    (∀ g' a' acc', MS h0 g' i5 i6 a' acc' → 0 ≤ a' → acc'.length ≤ l.length → (∀ m, acc' ++ missL a' [] m = acc ++ missL a (l.drop i) m) → ∀ e, Xk T ks (.x 0) ([(0, u), (1, v), (5, .ptr i5 0), (6, .ptr i6 0), (7, .fn f_whole_Station_Missing_1 [.ptr i6 0, .ptr i5 0])] ++ e) g' Q) →
    Xc T l_whole_Station_Missing_0 ks [(0, u), (1, v), (5, .ptr i5 0), (6, .ptr i6 0), (7, .fn f_whole_Station_Missing_1 [.ptr i6 0, .ptr i5 0]), (13, .ps 1 (u64L l)), (14, .int .i64 l.length), (15, .int .i64 i)] g Q := by
  intro k
  induction k with
  | zero =>
    intro i g a acc hi ms ha hacc ks Q hQ
    rw [L_whole_Station_Missing_0]; unfold bl_whole_Station_Missing_0
    have c : ¬ (i : Int) < l.length := by omega
    simp (disch := omega) [c]
    have := hQ g a acc ms ha (by omega) (fun m => by rw [List.drop_of_length_le (by omega)]) [(13, .ps 1 (u64L l)), (14, .int .i64 l.length), (15, .int .i64 i), (16, .bool false)]
    simpa using this
  | succ k ih =>
    intro i g a acc hi ms ha hacc ks Q hQ
    rw [L_whole_Station_Missing_0]; unfold bl_whole_Station_Missing_0
    have c : (i : Int) < l.length := by omega
    have hil : i < l.length := by omega
    have hn := hlt l[i] (List.getElem_mem hil)
    have gl : (u64L l)[i]? = some (.int .u64 l[i]) := by rw [u64L_get, List.getElem?_eq_getElem hil]; rfl
    generalize hx : l[i] = x at gl hn
    obtain ⟨g1, ms1, r1⟩ := upTo_run ms ha (n := x) (by omega) (by omega)
    obtain ⟨pre, r6, hb, l5, l6, ne⟩ := ms1
    simp (disch := omega) [c, gl]
    rw [Xv_fn (hf := rfl)]
    simp only [List.cons_append, List.nil_append]
    rw [Xf_run r1]
    simp (disch := omega) [r6]
    have hd : ∀ m, (acc ++ if a < x then [⟨a, x - 1⟩] else []) ++ missL (x + 1) (l.drop (i + 1)) m = acc ++ missL a (l.drop i) m := fun m => by
      rw [List.drop_eq_getElem_cons hil, hx]
      simp [missL]
    have ms2 : MS h0 (g1.set i6 (some [.int .u64 (x + 1)])) i5 i6 (x + 1) (acc ++ if a < x then [⟨a, x - 1⟩] else []) := MS.set6 ⟨pre, r6, hb, l5, l6, ne⟩ _
    have := ih (i + 1) _ (x + 1) _ (by omega) ms2 (by omega) (by split <;> simp <;> omega) ks Q fun g' a' acc' q1 q2 q3 q4 e => hQ g' a' acc' q1 q2 q3 (fun m => by rw [q4, hd]) e
    simpa using this
theorem Missing_run {h : Heap} {s m : Nat} {L : List Fm} (hS : SH h s m L) (hL : LOk L) (n : Int) (hn : n < 18446744073709551616) : ∃ J, Run T f_whole_Station_Missing [.ptr s 0, .int .u64 n] h (.ps 2 (Pr.vs (missL 0 (numsL L n) n))) (h ++ J) := by
  have hll := hL.len
  have nl : (numsL L n).length ≤ 40 := by
    rw [(numsL_perm L n).length_eq]
    exact Nat.le_trans (List.length_filter_le _ _) (by simpa using hll)
  have nb : ∀ x, x ∈ numsL L n → 0 ≤ x ∧ x < 2147483648 := fun x hx => by
    have := (numsL_perm L n).mem_iff.1 hx
    simp at this
    obtain ⟨⟨f, hf, rfl⟩, _⟩ := this
    exact ⟨(hL.ok f hf).n0, (mayF_off (hL.may f hf)).2.2.2.2.1⟩
  have hr : ∃ v h', (v = .ps 2 (Pr.vs (missL 0 (numsL L n) n)) ∧ ∃ J, h' = h ++ J) ∧ Run T f_whole_Station_Missing [.ptr s 0, .int .u64 n] h v h' := by
    refine Run.startP t_whole_Station_Missing ?_
    unfold k_whole_Station_Missing
    simp (disch := omega)
    have hS2 : SH (h ++ [some [V.hn 2], some [V.int .u64 0]]) s m L := hS.app _
    obtain ⟨J, nr⟩ := numbers_run hS2 hL n
    rw [Xf_run nr]
    simp (disch := omega) [u64L_len]
    have ms : MS h (h ++ [some [V.hn 2], some [V.int .u64 0]] ++ J) h.length (h.length + 1) 0 [] := by
      refine ⟨⟨_, by rw [List.append_assoc]⟩, ?_, ⟨0, ?_, by simp⟩, Nat.le_refl _, by omega, by omega⟩
      · rw [row_app (by simp), row_app_ge (by omega)]; simp
      · rw [row_app (by simp), row_app_ge (by omega)]; simp [ovP]
    have lp := miss_loop (numsL L n) nl nb (.ptr s 0) (.int .u64 n) (numsL L n).length 0 _ 0 [] (by omega) ms (by omega) (by simp)
    rw [show h ++ [some [V.hn 2], some [V.int .u64 0]] ++ J = h ++ some [V.hn 2] :: some [V.int .u64 0] :: J by simp] at lp
    refine lp _ _ fun g a acc q1 q2 q3 q4 e => ?_
    obtain ⟨g1, ms1, r1⟩ := upTo_run q1 q2 hn (by omega)
    have q5 : acc ++ (if a < n then [⟨a, n - 1⟩] else []) = missL 0 (numsL L n) n := by
      have := q4 n
      simpa [missL] using this
    rw [q5] at ms1
    simp (disch := omega)
    rw [Xv_fn (hf := rfl)]
    simp only [List.cons_append, List.nil_append]
    rw [Xf_run r1]
    obtain ⟨pre, r6, ⟨b, r5, rb⟩, l5, l6, ne⟩ := ms1
    simp (disch := omega) [r5]
    generalize missL 0 (numsL L n) n = M at *
    by_cases c : M = []
    · subst c
      simp [ovP, Pr.vs]
      exact pre
    · obtain ⟨h1, h2, h3, h4⟩ := rb c
      have fz := freezePr _ _ _ h1 true
      simp only [Bool.true_or] at fz
      simp [ovP, c, fz]
      obtain ⟨J, rfl⟩ := pre
      exact ⟨_, set_pre h4⟩
  obtain ⟨v, h', ⟨rfl, J, rfl⟩, r⟩ := hr
  exact ⟨J, r⟩
theorem kvFind_at {n : Int} {v : V} : ∀ (kvs : List V) (i p : Nat), kvs[p]? = some (.tup [.int .u64 n, v]) → (∀ q, q < p → kvs[q]? = some .nilp ∨ ∃ n' v', kvs[q]? = some (.tup [.int .u64 n', v']) ∧ n' ≠ n) → kvFind .int (.int .u64 n) kvs i = some (some (i + p, v))
  | [], _, _, h, _ => by simp at h
  | e :: kvs, i, 0, h, _ => by
    simp at h
    subst h
    simp [kvFind, keyEq]
  | e :: kvs, i, p + 1, h, hq => by
    have ih := kvFind_at kvs (i + 1) p (by simpa using h) fun q hl => by simpa using hq (q + 1) (by omega)
    rw [show i + (p + 1) = i + 1 + p by omega, ← ih]
    rcases hq 0 (by omega) with h0 | ⟨n', v', h0, hne⟩
    · simp at h0
      subst h0
      rfl
    · simp at h0
      subst h0
      have : ¬ n = n' := fun e => hne e.symm
      simp [kvFind, keyEq, this]
/-- The map's row, where of those that were told the ones of a bundle are gone. -/
def dl (id : Int) (L : List Fm) (seen : List Nat) : List V := L.zipIdx.map fun q => if q.2 ∈ seen ∧ q.1.id = id then .nilp else kvF q.1
theorem dl_get (id : Int) (L : List Fm) (seen : List Nat) (p : Nat) : (dl id L seen)[p]? = (L[p]?).map fun f => if p ∈ seen ∧ f.id = id then .nilp else kvF f := by
  simp [dl, List.getElem?_zipIdx]
  cases L[p]? <;> rfl
theorem dl_len (id : Int) (L : List Fm) (seen : List Nat) : (dl id L seen).length = L.length := by simp [dl]
theorem dl_nil (id : Int) (L : List Fm) : dl id L [] = kvL L := by
  apply List.ext_getElem?
  intro i
  rw [dl_get, kvL_get]
  simp
theorem kvs_is {kvs : List V} (h : ∀ (i : Nat) (x : V), kvs[i]? = some x → x = V.nilp ∨ ∃ y, x = V.tup y) : isKvs kvs = true := by
  cases kvs with
  | nil => rfl
  | cons a r =>
    rcases h 0 a (by simp) with rfl | ⟨y, rfl⟩ <;> rfl
theorem dl_is (id : Int) (L : List Fm) (seen : List Nat) : isKvs (dl id L seen) = true := kvs_is fun i x hx => by
  rw [dl_get] at hx
  cases hL : L[i]? with
  | none => rw [hL] at hx; cases hx
  | some f =>
    rw [hL] at hx
    simp at hx
    subst hx
    split
    · exact .inl rfl
    · exact .inr ⟨_, rfl⟩
def delL (id : Int) (L : List Fm) : List V := L.map fun f => if f.id = id then .nilp else kvF f
def manyI (id : Int) (L : List Fm) : Nat := (L.filter fun f => f.id == id).length
theorem delL_count (id : Int) : ∀ L : List Fm, kvCount (delL id L) = some (L.length - manyI id L)
  | [] => rfl
  | f :: L => by
    have ih := delL_count id L
    have : manyI id L ≤ L.length := List.length_filter_le _ _
    by_cases c : f.id = id
    · simp [delL, manyI, c, kvCount] at ih ⊢
      rw [ih]
    · simp [delL, manyI, c, kvCount, kvF] at ih this ⊢
      rw [ih]
      simp
      omega
theorem Many_run {h : Heap} {s m : Nat} {kvs : List V} (h1 : h.row s = some [.mp m]) (h2 : h.row m = some kvs) {n : Nat} (hc : kvCount kvs = some n) : Run T f_whole_Station_Many [.ptr s 0] h (.int .i64 n) h := by
  refine Run.start t_whole_Station_Many ?_
  unfold k_whole_Station_Many
  have ml : mlenV h (.mp m) = some (.int .i64 n) := by
    unfold mlenV kvsOf
    simp only [h2, Option.bind_some, hc, Option.map_some]
  simp (disch := omega) [h1, ml]
theorem Done_run {h : Heap} {s m : Nat} {L : List Fm} (hS : SH h s m L) (hL : LOk L) (hnd : (L.map Fm.num).Nodup) (id : Int) : ∃ h', Run T f_whole_Station_Done [.ptr s 0, .int .u64 id] h (.int .i64 (manyI id L)) h' ∧ h'.row s = some [.mp m] ∧ h'.row m = some (delL id L) := by
  have hll := hL.len
  have hr : ∃ v h', (v = .int .i64 (manyI id L) ∧ h'.row s = some [.mp m] ∧ h'.row m = some (delL id L)) ∧ Run T f_whole_Station_Done [.ptr s 0, .int .u64 id] h v h' := by
    refine Run.startP t_whole_Station_Done ?_
    unfold k_whole_Station_Done
    have r1 := hS.rs
    have r2 := hS.rm
    have q1 := row_lt r1
    have q2 := row_lt r2
    simp (disch := omega)
    refine Xc_mloop (.r) [(4, .int .i64 (manyI id L))] (fun h' => h'.row s = some [.mp m] ∧ h'.row m = some (delL id L)) ?_ ?_
    · simp (disch := omega) [r1, r2, kvL_is, kvL_len]
      refine Mg_walk ((Meets.row _ _).and (Meets.row _ _)) (wk := h.length) (m := m) (N := L.length)
        (fun seen kvs e hh => kvs = dl id L seen ∧ e.keep [0, 1, 5, 15] = [(0, .ptr s 0), (1, .int .u64 id), (5, .int .i64 ((seen.filterMap fun p => L[p]?).filter fun f => f.id == id).length), (15, .itr h.length)] ∧ hh.row s = some [.mp m] ∧ hh.row m = some (dl id L seen) ∧ (∃ last, L.length ≤ last ∧ hh.row h.length = some [.mp m, .ptr L.length last, seenV seen]) ∧ ∀ p, p ∈ seen → p < L.length)
        ?_ ?_ ?_ L.length [] (kvL L) _ _ (by simp) ?_ (by simp) (by simp)
      · rintro seen kvs e hh ⟨rfl, he, a1, a2, hw, _⟩
        exact ⟨by rw [he]; rfl, hw, a2, dl_is _ _ _, dl_len _ _ _⟩
      · rintro seen kvs e hh ⟨rfl, he, a1, a2, hw, hlt⟩ hn hcov
        have hall : ∀ p, p < L.length → p ∈ seen := fun p hp => by
          by_cases hm : p ∈ seen
          · exact hm
          · exact hcov p _ (by rw [dl_get, List.getElem?_eq_getElem hp]; simp [hm, kvF]; rfl)
        have h1 := (((seen_perm hn hlt hall).filterMap fun p => L[p]?).filter fun f => f.id == id).length_eq
        rw [range_map] at h1
        have h2 : dl id L seen = delL id L := by
          apply List.ext_getElem?
          intro i
          rw [dl_get]
          simp only [delL, List.getElem?_map]
          cases hi : L[i]? with
          | none => rfl
          | some f => simp [hall i (List.getElem?_eq_some_iff.1 hi).1]
        rw [he, h1]
        unfold cm_whole_Station_Done_0
        rw [h2] at a2
        simp [a1, a2, manyI]
      · rintro seen kvs e hh p x ⟨rfl, he, a1, a2, ⟨last, hl1, hw⟩, _⟩ hn hlt hp hps
        rw [dl_get] at hp
        cases hg : L[p]? with
        | none => rw [hg] at hp; cases hp
        | some g =>
        rw [hg] at hp
        simp [hps, kvF] at hp
        subst hp
        have hpl : p < L.length := (List.getElem?_eq_some_iff.1 hg).1
        have hwl := row_lt hw
        have hm1 := hS.rs
        have hsw : s ≠ h.length := by omega
        have hmw : m ≠ h.length := by omega
        rw [he]
        obtain ⟨Z, hZ⟩ : ∃ Z : Heap, Z = hh.set h.length (some [.mp m, .ptr L.length L.length, seenV (seen ++ [p])]) := ⟨_, rfl⟩
        have z1 : Z.row h.length = some [.mp m, .ptr L.length L.length, seenV (seen ++ [p])] := by rw [hZ, row_set hwl]
        have z2 : Z.row s = some [.mp m] := by rw [hZ, row_ne (fun e => hsw e.symm)]; exact a1
        have z3 : Z.row m = some (dl id L seen) := by rw [hZ, row_ne (fun e => hmw e.symm)]; exact a2
        rw [← hZ]
        have he2 := ent_row z1 z3 (dl_is _ _ _) (dl_len _ _ _) (p := p) (k := .int .u64 g.num) (v := g.v) (by rw [dl_get, hg]; simp [hps, kvF])
        have hlt' : ∀ q, q ∈ seen ++ [p] → q < L.length := fun q hq => by
          rcases List.mem_append.1 hq with hq | hq
          · exact hlt q hq
          · simp at hq; omega
        have hcnt : ((seen ++ [p]).filterMap fun p => L[p]?).filter (fun f => f.id == id) = ((seen.filterMap fun p => L[p]?).filter fun f => f.id == id) ++ if g.id = id then [g] else [] := by
          simp only [List.filterMap_append, List.filterMap_cons, hg, List.filterMap_nil, List.filter_append, List.filter_cons, List.filter_nil, beq_iff_eq]
        have q1 := row_lt z1
        have q2 := row_lt z2
        have q3 := row_lt z3
        have w1 : ∀ J, (Z ++ J).row h.length = some [.mp m, .ptr L.length L.length, seenV (seen ++ [p])] := fun J => pre_row z1
        have w2 : ∀ J, (Z ++ J).row s = some [.mp m] := fun J => pre_row z2
        have w3 : ∀ J, (Z ++ J).row m = some (dl id L seen) := fun J => pre_row z3
        unfold bm_whole_Station_Done_0
        have sp : spliceL [V.int .u64 0, .int .u64 0, .int .i64 0, .int .i64 0, .str []] 0 g.cs = g.cs := rfl
        have g1 : g.cs[1]? = some (.int .u64 g.id) := rfl
        have hfind : kvFind .int (.int .u64 g.num) (dl id L seen) 0 = some (some (p, g.v)) := by
          have := kvFind_at (n := g.num) (v := g.v) (dl id L seen) 0 p (by rw [dl_get, hg]; simp [hps, kvF]) fun q hq => by
            rw [dl_get]
            have hql : q < L.length := by omega
            rw [List.getElem?_eq_getElem hql]
            by_cases cq : q ∈ seen ∧ L[q].id = id
            · left; simp [cq]
            · right
              refine ⟨L[q].num, L[q].v, by simp [cq, kvF], fun e => ?_⟩
              have hgp : L[p] = g := by rw [List.getElem?_eq_getElem hpl] at hg; exact Option.some.inj hg
              have := (List.getElem_inj (h₀ := by simpa using hql) (h₁ := by simpa using hpl) hnd).1 (by simpa [hgp] using e)
              omega
          simpa using this
        by_cases c : g.id = id
        · rw [if_pos c] at hcnt
          have hdl : (dl id L seen).set p .nilp = dl id L (seen ++ [p]) := by
            apply List.ext_getElem?
            intro i
            rw [List.getElem?_set, dl_get, dl_get, dl_len]
            by_cases ci : p = i
            · subst ci
              simp [hpl, hg, c]
            · rw [if_neg ci]
              have : ¬ i = p := fun e => ci e.symm
              simp [this]
          have md : ∀ J, mdelV (Z ++ J) .int (.mp m) (.int .u64 g.num) = some ((Z ++ J).set m (some (dl id L (seen ++ [p])))) := fun J => by
            unfold mdelV
            simp only [w3, Option.bind_some, keyEq, if_true, hfind, hdl]
          have hb : ((seen.filterMap fun p => L[p]?).filter fun f => f.id == id).length ≤ 40 := by
            have h1 := nodup_lt L.length seen hn hlt
            exact Nat.le_trans (List.length_filter_le _ _) (Nat.le_trans (List.length_filterMap_le _ _) (by omega))
          simp (disch := omega) [he2, Fm.v, Fm.one, Fm.len, sp, g1, c, w2, md, Wb]
          have hne := hS.ne
          refine ⟨by simp [c], ?_, ?_, ⟨L.length, Nat.le_refl _, ?_⟩, fun q hq => hlt' q (by simpa using hq)⟩
          · rw [row_app (by simpa using q2), row_ne (fun e => hne e.symm)]; exact z2
          · rw [row_app (by simpa using q3), row_set q3]
          · rw [row_app (by simpa using q1), row_ne hmw]; exact z1
        · rw [if_neg c, List.append_nil] at hcnt
          have hdl : dl id L seen = dl id L (seen ++ [p]) := by
            apply List.ext_getElem?
            intro i
            rw [dl_get, dl_get]
            by_cases ci : i = p
            · subst ci
              simp [hg, c]
            · simp [ci]
          simp (disch := omega) [he2, Fm.v, Fm.one, Fm.len, sp, g1, c, Wb]
          refine ⟨by simp [c], z2, by rw [← hdl]; exact z3, ⟨L.length, Nat.le_refl _, z1⟩, fun q hq => hlt' q (by simpa using hq)⟩
      · refine ⟨(dl_nil _ _).symm, rfl, ?_, ?_, ⟨L.length, Nat.le_refl _, by simp [seenV]⟩, by simp⟩
        · rw [row_app q1]; exact r1
        · rw [row_app q2, dl_nil]; exact r2
    · rintro h' ⟨a1, a2⟩
      simp
      exact ⟨a1, a2⟩
  obtain ⟨v, h', ⟨rfl, a1, a2⟩, r⟩ := hr
  exact ⟨h', r, a1, a2⟩
/-- Frames of one bundle, of so many bytes, no two at one place. -/
structure OneB (D : List Fm) (n : Nat) : Prop where
  may : ∀ f, f ∈ D → mayF f = true
  tot : ∀ f, f ∈ D → f.tot = n
  off : ∀ f g, f ∈ D → g ∈ D → f.off = g.off → f = g
  nd : D.Nodup
theorem OneB.perm {D S : List Fm} {n : Nat} (h : OneB D n) (p : S.Perm D) : OneB S n := ⟨fun f hf => h.may f (p.mem_iff.1 hf), fun f hf => h.tot f (p.mem_iff.1 hf), fun f g hf hg => h.off f g (p.mem_iff.1 hf) (p.mem_iff.1 hg), p.nodup_iff.2 h.nd⟩
def chunkD (D : List Fm) (j : Nat) : List UInt8 := (D.filter fun f => f.off == 100 * (j : Int)).flatMap Fm.dat
def preD (D : List Fm) : Nat → List UInt8
  | 0 => []
  | k + 1 => preD D k ++ chunkD D k
theorem filter_one {α : Type} (p : α → Bool) (f : α) : ∀ (D : List α), D.Nodup → f ∈ D → p f = true → (∀ g, g ∈ D → p g = true → g = f) → D.filter p = [f]
  | [], _, h, _, _ => by cases h
  | a :: D, hn, hm, hp, hu => by
    rw [List.nodup_cons] at hn
    rcases List.mem_cons.1 hm with rfl | hm
    · rw [List.filter_cons, if_pos hp]
      congr 1
      refine List.filter_eq_nil_iff.2 fun g hg hpg => ?_
      have := hu g (List.mem_cons_of_mem _ hg) hpg
      subst this
      exact hn.1 hg
    · have hpa : ¬ p a = true := fun c => by
        have := hu a List.mem_cons_self c
        subst this
        exact hn.1 hm
      rw [List.filter_cons, if_neg hpa]
      exact filter_one p f D hn.2 hm hp fun g hg => hu g (List.mem_cons_of_mem _ hg)
theorem chunkD_none {D : List Fm} {j : Nat} (h : ∀ f, f ∈ D → f.off ≠ 100 * j) : chunkD D j = [] := by
  unfold chunkD
  rw [List.filter_eq_nil_iff.2 fun f hf => by simpa using h f hf]
  rfl
theorem chunkD_some {D : List Fm} {n : Nat} (ok : OneB D n) {f : Fm} (hf : f ∈ D) {j : Nat} (hj : f.off = 100 * j) : chunkD D j = f.dat := by
  unfold chunkD
  rw [filter_one (fun f => f.off == 100 * (j : Int)) f D ok.nd hf (by simpa using hj) fun g hg hp => ok.off g f hg hf (by rw [hj]; simpa using hp)]
  simp
theorem chunkD_len {D : List Fm} {n : Nat} (ok : OneB D n) {j : Nat} (hj : 100 * j < n) : (chunkD D j).length ≤ min 100 (n - 100 * j) ∧ ((∃ f, f ∈ D ∧ f.off = 100 * j) → (chunkD D j).length = min 100 (n - 100 * j)) := by
  have key : ∀ f, f ∈ D → f.off = 100 * j → (chunkD D j).length = min 100 (n - 100 * j) := fun f hf ho => by
    have h1 := mayF_off (ok.may f hf)
    have h2 := ok.tot f hf
    rw [chunkD_some ok hf ho]
    omega
  refine ⟨?_, fun ⟨f, hf, ho⟩ => key f hf ho⟩
  by_cases c : ∃ f, f ∈ D ∧ f.off = 100 * j
  · obtain ⟨f, hf, ho⟩ := c
    rw [key f hf ho]
    omega
  · rw [chunkD_none fun f hf ho => c ⟨f, hf, ho⟩]
    simp
theorem preD_le {D : List Fm} {n : Nat} (ok : OneB D n) : ∀ k, 100 * k < n + 100 → (preD D k).length ≤ min (100 * k) n
  | 0, _ => by simp [preD]
  | k + 1, h => by
    have h1 := preD_le ok k (by omega)
    have h2 := (chunkD_len ok (j := k) (by omega)).1
    simp only [preD, List.length_append]
    omega
theorem preD_all {D : List Fm} {n : Nat} (ok : OneB D n) : ∀ k, 100 * k < n + 100 → (∀ j, j < k → ∃ f, f ∈ D ∧ f.off = 100 * j) → (preD D k).length = min (100 * k) n
  | 0, _, _ => by simp [preD]
  | k + 1, h, hj => by
    have h1 := preD_all ok k (by omega) fun j hl => hj j (by omega)
    have h2 := (chunkD_len ok (j := k) (by omega)).2 (hj k (by omega))
    simp only [preD, List.length_append]
    omega
theorem preD_miss {D : List Fm} {n : Nat} (ok : OneB D n) (j : Nat) (hj : ∀ f, f ∈ D → f.off ≠ 100 * j) : ∀ k, 100 * k < n + 100 → j < k → (preD D k).length < min (100 * k) n
  | 0, _, h => by omega
  | k + 1, h, hl => by
    have h2 := (chunkD_len ok (j := k) (by omega)).1
    simp only [preD, List.length_append]
    by_cases c : j = k
    · subst c
      have h1 := preD_le ok j (by omega)
      rw [chunkD_none hj]
      simp
      omega
    · have h1 := preD_miss ok j hj k (by omega) (by omega)
      omega
theorem preD_get {D : List Fm} {n : Nat} (ok : OneB D n) {f : Fm} (hf : f ∈ D) {j : Nat} (hj : f.off = 100 * j) : ∀ k, 100 * k < n + 100 → (∀ j, j < k → ∃ f, f ∈ D ∧ f.off = 100 * j) → j < k → ∀ i (hi : i < f.dat.length), (preD D k)[100 * j + i]? = some f.dat[i]
  | 0, _, _, h, _, _ => by omega
  | k + 1, h, hall, hl, i, hi => by
    have h1 := preD_all ok k (by omega) fun j hl => hall j (by omega)
    have h3 := mayF_off (ok.may f hf)
    have h4 := ok.tot f hf
    by_cases c : j = k
    · subst c
      simp only [preD]
      rw [List.getElem?_append_right (by omega), show 100 * j + i - (preD D j).length = i by omega, chunkD_some ok hf hj, List.getElem?_eq_getElem hi]
    · have h2 := preD_get ok hf hj k (by omega) (fun j hl => hall j (by omega)) (by omega) i hi
      simp only [preD]
      rw [List.getElem?_append_left (by omega)]
      exact h2
def wD (D : List Fm) : Wr := wAll (D.map fun f => (f.off.toNat, f.dat))
theorem wD_mem {D : List Fm} {x : Nat × UInt8} : x ∈ wD D ↔ ∃ f, f ∈ D ∧ ∃ k, ∃ h : k < f.dat.length, x = (f.off.toNat + k, f.dat[k]) := by
  unfold wD
  rw [wAll_mem]
  constructor
  · rintro ⟨q, hq, hx⟩
    obtain ⟨f, hf, rfl⟩ := List.mem_map.1 hq
    exact ⟨f, hf, wOne_mem.1 hx⟩
  · rintro ⟨f, hf, hx⟩
    exact ⟨_, List.mem_map.2 ⟨f, hf, rfl⟩, wOne_mem.2 hx⟩
def bndl (D : List Fm) (n k : Nat) : List UInt8 × Int := if (preD D k).length = n then (preD D k, 0) else ([], 8)
theorem OneB.at {D : List Fm} {n : Nat} (ok : OneB D n) {f : Fm} (hf : f ∈ D) : ∃ j : Nat, f.off = 100 * j ∧ 100 * j < n ∧ f.dat.length = min 100 (n - 100 * j) := by
  have h1 := mayF_off (ok.may f hf)
  have h2 := ok.tot f hf
  exact ⟨(f.off / 100).toNat, by omega, by omega, by omega⟩
theorem bndl_fill {D : List Fm} {n k : Nat} (ok : OneB D n) (hk1 : 100 * k < n + 100) (hk2 : n ≤ 100 * k) : FillP n (wD D) (bndl D n k).1 (bndl D n k).2 := by
  have hok : okW (wD D) := fun p hp q hq e => by
    obtain ⟨f, hf, i, hi, rfl⟩ := wD_mem.1 hp
    obtain ⟨g, hg, i', hi', rfl⟩ := wD_mem.1 hq
    obtain ⟨j, hj, hjl, hjd⟩ := ok.at hf
    obtain ⟨j', hj', hjl', hjd'⟩ := ok.at hg
    simp only at e
    have e1 : j = j' := by omega
    have e2 : i = i' := by omega
    have : f = g := ok.off f g hf hg (by omega)
    subst this
    subst e2
    rfl
  by_cases c : ∀ j, j < k → ∃ f, f ∈ D ∧ f.off = 100 * j
  · have hl := preD_all ok k hk1 c
    have hl' : (preD D k).length = n := by omega
    unfold bndl
    rw [if_pos hl']
    refine .inr (.inr ⟨hok, fun x hx => ?_, hl', fun p hp => ?_, rfl⟩)
    · obtain ⟨f, hf, ho⟩ := c (x / 100) (by omega)
      obtain ⟨j, hj, hjl, hjd⟩ := ok.at hf
      have e1 : j = x / 100 := by omega
      exact ⟨(f.off.toNat + x % 100, f.dat[x % 100]'(by omega)), wD_mem.2 ⟨f, hf, x % 100, by omega, rfl⟩, by simp only; omega⟩
    · obtain ⟨f, hf, i, hi, rfl⟩ := wD_mem.1 hp
      obtain ⟨j, hj, hjl, hjd⟩ := ok.at hf
      have := preD_get ok hf hj k hk1 c (by omega) i hi
      simp only
      rw [show f.off.toNat + i = 100 * j + i by omega]
      exact this
  · have ⟨j, hj⟩ := Classical.not_forall.1 c
    have ⟨hjk, hno⟩ := Classical.not_imp.1 hj
    have hno : ∀ f, f ∈ D → f.off ≠ 100 * j := fun f hf e => hno ⟨f, hf, e⟩
    have := preD_miss ok j hno k hk1 hjk
    unfold bndl
    rw [if_neg (by omega)]
    refine .inr (.inl ⟨hok, fun hc => ?_, rfl, rfl⟩)
    obtain ⟨p, hp, he⟩ := hc (100 * j) (by omega)
    obtain ⟨f, hf, i, hi, rfl⟩ := wD_mem.1 hp
    obtain ⟨j', hj', hjl', hjd'⟩ := ok.at hf
    simp only at he
    exact hno f hf (by omega)
theorem FillP.congr {n : Nat} {w w' : Wr} {b : List UInt8} {e : Int} (h : FillP n w b e) (hw : ∀ x, x ∈ w ↔ x ∈ w') : FillP n w' b e := by
  have h1 : okW w ↔ okW w' := ⟨fun k p hp q hq => k p ((hw p).2 hp) q ((hw q).2 hq), fun k p hp q hq => k p ((hw p).1 hp) q ((hw q).1 hq)⟩
  have h2 : covW w n ↔ covW w' n := ⟨fun k x hx => by obtain ⟨p, hp, e⟩ := k x hx; exact ⟨p, (hw p).1 hp, e⟩, fun k x hx => by obtain ⟨p, hp, e⟩ := k x hx; exact ⟨p, (hw p).2 hp, e⟩⟩
  rcases h with ⟨a, b, c⟩ | ⟨a, b, c⟩ | ⟨a, b, c, d, e⟩
  · exact .inl ⟨fun k => a (h1.2 k), b, c⟩
  · exact .inr (.inl ⟨h1.1 a, fun k => b (h2.2 k), c⟩)
  · exact .inr (.inr ⟨h1.1 a, h2.1 b, c, fun p hp => d p ((hw p).2 hp), e⟩)
theorem wD_perm {D S : List Fm} (p : S.Perm D) (x : Nat × UInt8) : x ∈ wD S ↔ x ∈ wD D := by
  rw [wD_mem, wD_mem]
  exact ⟨fun ⟨f, hf, k⟩ => ⟨f, p.mem_iff.1 hf, k⟩, fun ⟨f, hf, k⟩ => ⟨f, p.mem_iff.2 hf, k⟩⟩
end Ev
