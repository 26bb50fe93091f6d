/- The reference's extent, held against flags. Each theorem states its own conditions. -/
import Derived.Test.YtmbheeapegpmlaaER01
set_option linter.all false
namespace Ev
open Go
set_option maxRecDepth 10000

/-- Lists that rise are equal if they have the same members. -/
theorem rise_ext : ∀ (a b : List Int), a.Pairwise (· < ·) → b.Pairwise (· < ·) → (∀ x, x ∈ a ↔ x ∈ b) → a = b
  | [], [], _, _, _ => rfl
  | [], y :: b, _, _, h => absurd ((h y).2 (by simp)) (by simp)
  | x :: a, [], _, _, h => absurd ((h x).1 (by simp)) (by simp)
  | x :: a, y :: b, ha, hb, h => by
    have ha' := List.pairwise_cons.1 ha
    have hb' := List.pairwise_cons.1 hb
    have hxy : x = y := by
      rcases List.mem_cons.1 ((h x).1 (by simp)) with h1 | h1
      · exact h1
      · rcases List.mem_cons.1 ((h y).2 (by simp)) with h2 | h2
        · exact h2.symm
        · have := ha'.1 y h2
          have := hb'.1 x h1
          omega
    subst hxy
    rw [rise_ext a b ha'.2 hb'.2 fun z => ?_]
    have := h z
    simp only [List.mem_cons] at this
    constructor
    · intro hz
      rcases this.1 (.inr hz) with h1 | h1
      · have := ha'.1 z hz; omega
      · exact h1
    · intro hz
      rcases this.2 (.inr hz) with h1 | h1
      · have := hb'.1 z hz; omega
      · exact h1

def tkOf (l : List Bool) : List Int := (pickP id l.tail 1 65536).map fun (x : Nat) => (x : Int)
theorem tkOf_ints (l : List Bool) : ints (tkOf l) = intsN (pickP id l.tail 1 65536) := by simp [ints, intsN, tkOf]
theorem tkOf_rise (l : List Bool) : (tkOf l).Pairwise (· < ·) := by
  unfold tkOf
  rw [List.pairwise_map]
  exact (pickP_sorted id l.tail 1 65536).imp fun h => by omega
theorem pickP_all (g : Bool → Bool) : ∀ (l : List Bool) (p n q : Nat), l.length ≤ n → p ≤ q → (l[q - p]?).map g = some true → q ∈ pickP g l p n
  | [], _, _, q, _, _, h => by simp at h
  | x :: r, p, 0, q, hn, _, h => by simp at hn
  | x :: r, p, n + 1, q, hn, hp, h => by
    unfold pickP
    simp only [List.length_cons] at hn
    rcases Nat.lt_or_ge p q with h1 | h1
    · rw [show q - p = (q - (p + 1)) + 1 by omega, List.getElem?_cons_succ] at h
      have key := fun m hm => pickP_all g r (p + 1) m q hm (by omega) h
      split
      · exact List.mem_cons_of_mem _ (key n (by omega))
      · exact key (n + 1) (by omega)
    · have : q = p := by omega
      subst this
      simp at h
      simp [h]
theorem isT_iff {l : List Bool} {x : Int} : isT l x = true ↔ 1 ≤ x ∧ l[x.toNat]? = some true := by
  unfold isT
  simp only [Bool.and_eq_true, decide_eq_true_eq, List.getD_eq_getElem?_getD]
  refine and_congr_right fun _ => ?_
  cases l[x.toNat]? <;> simp
theorem tkOf_mem (l : List Bool) (x : Int) (hl : l.length ≤ 65536) : x ∈ tkOf l ↔ isT l x = true := by
  unfold tkOf
  rw [List.mem_map, isT_iff]
  constructor
  · rintro ⟨q, hq, rfl⟩
    obtain ⟨h1, h2, h3⟩ := pickP_mem id _ _ _ _ hq
    rw [List.getElem?_tail, show q - 1 + 1 = q by omega] at h3
    refine ⟨by omega, ?_⟩
    simpa using h3
  · rintro ⟨h1, h2⟩
    refine ⟨x.toNat, pickP_all id l.tail 1 65536 x.toNat (by simp; omega) (by omega) ?_, by omega⟩
    rw [List.getElem?_tail, show x.toNat - 1 + 1 = x.toNat by omega, h2]; rfl
theorem tkOf_len (l : List Bool) (hl : l.length ≤ 65536) (h0 : 1 ≤ l.length) : ((tkOf l).length : Int) = l.length - 1 - fr l := by
  unfold tkOf
  rw [List.length_map, pickP_length, fr_count]
  have h1 := List.length_eq_countP_add_countP (l := l.tail) (fun t => !t)
  have h2 : l.tail.countP (fun a => decide ¬((!a) = true)) = l.tail.countP id := by
    congr 1; funext a; cases a <;> rfl
  rw [h2, List.length_tail] at h1
  omega
theorem isT_set {l : List Bool} {p : Nat} {t : Bool} (hp : 1 ≤ p) (hp2 : p < l.length) (x : Int) : isT (l.set p t) x = if x = p then t else isT l x := by
  rw [Bool.eq_iff_iff, isT_iff]
  by_cases hx : x = p
  · subst hx
    rw [if_pos rfl]
    simp [List.getElem?_set, hp2]
    omega
  · rw [if_neg hx, isT_iff]
    constructor
    · rintro ⟨h1, h2⟩
      rw [List.getElem?_set_ne (by omega)] at h2
      exact ⟨h1, h2⟩
    · rintro ⟨h1, h2⟩
      refine ⟨h1, ?_⟩
      rw [List.getElem?_set_ne (by omega)]
      exact h2
theorem tkOf_set (l : List Bool) (hl : l.length ≤ 65536) {p : Nat} (hp : 1 ≤ p) (hp2 : p < l.length) (s : List Int) (hs : s.Pairwise (· < ·)) (t : Bool) (hm : ∀ x, x ∈ s ↔ (if x = p then t = true else x ∈ tkOf l)) : s = tkOf (l.set p t) := by
  refine rise_ext _ _ hs (tkOf_rise _) fun x => ?_
  rw [hm, tkOf_mem (l.set p t) x (by simpa using hl), isT_set hp hp2]
  split
  · rfl
  · exact tkOf_mem l x hl
theorem tkOf_filter (l : List Bool) (hl : l.length ≤ 65536) (p : Int) : (tkOf l).filter (· != p) = tkOf (if isT l p then l.set p.toNat false else l) := by
  split
  · rename_i ht
    obtain ⟨h1, h2⟩ := isT_lt ht
    refine tkOf_set l hl (by omega) (by omega) _ ((tkOf_rise l).filter _) false fun x => ?_
    rw [List.mem_filter]
    rw [show ((p.toNat : Nat) : Int) = p by omega]
    by_cases hx : x = p
    · simp [hx]
    · simp [hx]
  · rename_i ht
    rw [List.filter_eq_self]
    intro x hx
    rw [tkOf_mem l x hl] at hx
    simp
    intro hxp
    subst hxp
    exact absurd hx ht

/-- Numbers that rise, with one more. -/
def putS (l : List Int) (x : Int) : List Int := if x ∈ l then l else l.takeWhile (· < x) ++ [x] ++ l.dropWhile (· < x)
theorem putS_mem (l : List Int) (x y : Int) : y ∈ putS l x ↔ y = x ∨ y ∈ l := by
  unfold putS
  split
  · rename_i h
    exact ⟨.inr, fun q => q.elim (fun q => q ▸ h) id⟩
  · have := List.takeWhile_append_dropWhile (p := fun z => decide (z < x)) (l := l)
    have hm : y ∈ l ↔ y ∈ l.takeWhile (· < x) ∨ y ∈ l.dropWhile (· < x) := by
      conv => lhs; rw [← this]
      rw [List.mem_append]
    rw [hm]
    simp only [List.mem_append, List.mem_singleton]
    constructor
    · rintro ((h | h) | h)
      · exact .inr (.inl h)
      · exact .inl h
      · exact .inr (.inr h)
    · rintro (h | h | h)
      · exact .inl (.inr h)
      · exact .inl (.inl h)
      · exact .inr h
theorem drop_ge (x : Int) : ∀ (l : List Int), l.Pairwise (· < ·) → ∀ y ∈ l.dropWhile (· < x), x ≤ y
  | [], _, y, h => by simp at h
  | z :: l, hs, y, h => by
    rw [List.dropWhile_cons] at h
    split at h
    · exact drop_ge x l (List.pairwise_cons.1 hs).2 y h
    · rename_i hz
      have hz' : x ≤ z := by simpa using hz
      rcases List.mem_cons.1 h with h | h
      · subst h; exact hz'
      · have := (List.pairwise_cons.1 hs).1 y h; omega
theorem putS_rise (l : List Int) (x : Int) (hs : l.Pairwise (· < ·)) : (putS l x).Pairwise (· < ·) := by
  unfold putS
  split
  · exact hs
  · rename_i hx
    have h1 : ∀ y ∈ l.takeWhile (· < x), y < x := fun y hy => by simpa using (List.all_takeWhile (p := fun z => decide (z < x)) (l := l) |> List.all_eq_true.1) y hy
    have h2 : ∀ y ∈ l.dropWhile (· < x), x < y := fun y hy => by
      have h3 := drop_ge x l hs y hy
      have h4 : y ∈ l := (List.dropWhile_sublist _).subset hy
      rcases (by omega : x = y ∨ x < y) with h5 | h5
      · exact absurd (h5 ▸ h4) hx
      · exact h5
    rw [List.append_assoc]
    refine List.pairwise_append.2 ⟨hs.sublist (List.takeWhile_sublist _), ?_, ?_⟩
    · exact List.pairwise_cons.2 ⟨h2, hs.sublist (List.dropWhile_sublist _)⟩
    · intro y hy z hz
      have := h1 y hy
      rcases List.mem_cons.1 hz with h | h
      · omega
      · have := h2 z h; omega
theorem putS_tk (l : List Bool) (hl : l.length ≤ 65536) (p : Nat) (hp : 1 ≤ p) (hp2 : p < l.length) : putS (tkOf l) p = tkOf (l.set p true) := by
  refine tkOf_set l hl hp hp2 _ (putS_rise _ _ (tkOf_rise l)) true fun x => ?_
  rw [putS_mem]
  by_cases hx : x = p <;> simp [hx]

theorem take_len_while (x : Int) (l : List Int) : l.takeWhile (· < x) = l.take (l.takeWhile (· < x)).length := by
  have h := (List.takeWhile_prefix (fun z => decide (z < x)) (l := l))
  exact List.prefix_iff_eq_take.1 h
theorem drop_len_while (x : Int) (l : List Int) : l.dropWhile (· < x) = l.drop (l.takeWhile (· < x)).length := by
  have h := List.takeWhile_append_dropWhile (p := fun z => decide (z < x)) (l := l)
  have h2 := congrArg (List.drop (l.takeWhile (fun z => decide (z < x))).length) h
  rw [List.drop_left] at h2
  exact h2

theorem put_loop (h : Heap) (l : List Int) (x : Int) (hb : l.length < 4611686018427387904) : ∀ (k i : Nat), i + k = l.length → ∀ ks Q,
    Xk T ks (.x 0) [(0, .ps 1 (ints l)), (1, .int .i64 x), (5, .int .i64 ((i + ((l.drop i).takeWhile (· < x)).length : Nat))), (22, .bool false)] h Q →
    Xc T l_ref25_put_0 ks [(0, .ps 1 (ints l)), (1, .int .i64 x), (5, .int .i64 i)] h Q := by
  intro k
  induction k with
  | zero =>
    intro i hk ks Q h1
    rw [L_ref25_put_0]; unfold bl_ref25_put_0
    have e0 : i = l.length := by omega
    subst e0
    simp (disch := omega) [ints_len]
    simpa using h1
  | succ k ih =>
    intro i hk ks Q h1
    rw [L_ref25_put_0]; unfold bl_ref25_put_0
    have e1 : i < l.length := by omega
    have e3 : (i : Int) < l.length := by omega
    have da : l.drop i = l[i] :: l.drop (i + 1) := List.drop_eq_getElem_cons e1
    simp (disch := omega) [ints_len, ints_get, e3, List.getElem?_eq_getElem e1]
    apply Xb_dec
    · intro he
      simp (disch := omega)
      rw [da, List.takeWhile_cons, if_pos (by simpa using he)] at h1
      have := ih (i + 1) (by omega) ks Q (by
        rw [show i + 1 + ((l.drop (i + 1)).takeWhile (· < x)).length = i + (l[i] :: (l.drop (i + 1)).takeWhile (· < x)).length by simp; omega]
        exact h1)
      simpa using this
    · intro hne
      rw [da, List.takeWhile_cons, if_neg (by simpa using hne)] at h1
      simp (disch := omega) [hne]
      simpa using h1
theorem put_run (l : List Int) (x : Int) (h : Heap) (hb : l.length < 70000) : Run T f_ref25_put [.ps 1 (ints l), .int .i64 x] h (.ps 1 (ints (putS l x))) h := by
  refine Run.start t_ref25_put ?_
  unfold k_ref25_put
  simp (disch := omega)
  rw [Xp_run (Has_run l x [] (by omega)) (by simp [ints_hfs]) rfl (by simp [scalar])]
  simp (disch := omega)
  apply Xb_dec
  · intro hm
    simp (disch := omega) [putS, hm]
  · intro hm
    simp (disch := omega)
    have := put_loop h l x (by omega) l.length 0 (by omega)
    simp at this
    refine this _ _ ?_
    have hw : (l.takeWhile (· < x)).length ≤ l.length := (List.takeWhile_sublist _).length_le
    simp (disch := omega) [ints_len]
    unfold putS
    rw [if_neg hm, List.append_assoc]
    conv => rhs; rw [take_len_while, drop_len_while]
    simp [ints]
end Ev
