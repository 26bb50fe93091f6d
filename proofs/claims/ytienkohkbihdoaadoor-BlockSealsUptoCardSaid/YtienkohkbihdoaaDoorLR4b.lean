/- The reference's runes: a text's runes, a rune's number, which texts are right. Each theorem states its own conditions. -/
import Derived.Test.YtienkohkbihdoaaDoorLR4
set_option linter.all false
namespace Ev
open Go
set_option maxRecDepth 10000
attribute [-simp] getElem?_pos getElem?_neg List.drop_one
section
variable {ks : List Kt} {ops : List AOpr} {K : Kp} {e : Env} {h : Heap} {Q : Ex → Env → Heap → Prop} {d : Nat} {lent : Bool}
theorem Size_p (s : List UInt8) (hs : s ≠ []) : Xp T f_ref04_Size (some ([.str s], lent)) h (some d) ops K ks e Q = Xo T ops K ks ((d, .int .i64 (rsz s)) :: e) h Q :=
  Xp_run (Size_run s [] hs) (by simp) rfl (by simp [scalar])
end
theorem rsz_cases (s : List UInt8) (hs : s ≠ []) : (rsz s = 0 ∧ 128 ≤ byt s 0) ∨ (rsz s = 1 ∧ byt s 0 < 128) ∨ (rsz s = 2 ∧ 192 ≤ byt s 0 ∧ byt s 0 < 224 ∧ 2 ≤ s.length ∧ ct (byt s 1) ∧ 128 ≤ r2 (byt s 0) (byt s 1)) ∨
    (rsz s = 3 ∧ 224 ≤ byt s 0 ∧ byt s 0 < 240 ∧ 3 ≤ s.length ∧ ct (byt s 1) ∧ ct (byt s 2) ∧ 2048 ≤ r3 (byt s 0) (byt s 1) (byt s 2) ∧ (r3 (byt s 0) (byt s 1) (byt s 2) < 55296 ∨ 57344 ≤ r3 (byt s 0) (byt s 1) (byt s 2))) ∨
    (rsz s = 4 ∧ 240 ≤ byt s 0 ∧ byt s 0 < 248 ∧ 4 ≤ s.length ∧ ct (byt s 1) ∧ ct (byt s 2) ∧ ct (byt s 3) ∧ 65536 ≤ r4 (byt s 0) (byt s 1) (byt s 2) (byt s 3) ∧ r4 (byt s 0) (byt s 1) (byt s 2) (byt s 3) ≤ 1114111) := by
  unfold rsz
  rw [if_neg hs]
  by_cases c0 : byt s 0 < 128
  · rw [if_pos c0]; simp; omega
  · rw [if_neg c0]
    by_cases c1 : 192 ≤ byt s 0 ∧ byt s 0 < 224
    · rw [if_pos c1]
      split
      · rename_i k; exact .inr (.inr (.inl ⟨rfl, c1.1, c1.2, k⟩))
      · simp; omega
    · rw [if_neg c1]
      by_cases c2 : 224 ≤ byt s 0 ∧ byt s 0 < 240
      · rw [if_pos c2]
        split
        · rename_i k; exact .inr (.inr (.inr (.inl ⟨rfl, c2.1, c2.2, k⟩)))
        · simp; omega
      · rw [if_neg c2]
        by_cases c3 : 240 ≤ byt s 0 ∧ byt s 0 < 248
        · rw [if_pos c3]
          split
          · rename_i k; exact .inr (.inr (.inr (.inr ⟨rfl, c3.1, c3.2, k⟩)))
          · simp; omega
        · rw [if_neg c3]; simp; omega
def stp (s : List UInt8) : Nat := if rsz s = 0 then 1 else rsz s
theorem byt_take (s : List UInt8) (n i : Nat) (h : i < n) : byt (s.take n) i = byt s i := by
  unfold byt
  rw [List.getD_eq_getElem?_getD, List.getD_eq_getElem?_getD, List.getElem?_take_of_lt h]
theorem stp_pos (s : List UInt8) : 1 ≤ stp s := by unfold stp; split <;> omega
theorem stp_le (s : List UInt8) (hs : s ≠ []) : stp s ≤ s.length := by
  have := rsz_le s
  have : 0 < s.length := List.length_pos_iff.2 hs
  unfold stp; split <;> omega
theorem rsz_take (s : List UInt8) (hs : s ≠ []) : rsz (s.take (stp s)) = rsz s := by
  have hl : 0 < s.length := List.length_pos_iff.2 hs
  have hn : s.take (stp s) ≠ [] := by
    intro e
    have := congrArg List.length e
    rw [List.length_take, List.length_nil] at this
    have := stp_pos s
    omega
  have hlen : (s.take (stp s)).length = stp s := by rw [List.length_take]; have := stp_le s hs; omega
  have b0 := byt_take s (stp s) 0 (stp_pos s)
  rcases rsz_cases s hs with ⟨e, k⟩ | ⟨e, k⟩ | ⟨e, k⟩ | ⟨e, k⟩ | ⟨e, k⟩
  · have es : stp s = 1 := by unfold stp; rw [e]; rfl
    rw [e]
    have := rsz_le (s.take (stp s))
    rcases rsz_cases _ hn with ⟨e', _⟩ | ⟨e', k'⟩ | ⟨e', k'⟩ | ⟨e', k'⟩ | ⟨e', k'⟩ <;> omega
  · rw [e]
    rcases rsz_cases _ hn with ⟨e', k'⟩ | ⟨e', k'⟩ | ⟨e', k'⟩ | ⟨e', k'⟩ | ⟨e', k'⟩ <;> omega
  · have es : stp s = 2 := by unfold stp; rw [e]; rfl
    have b1 := byt_take s (stp s) 1 (by omega)
    rw [e]
    unfold rsz
    rw [if_neg hn, if_neg (by omega), if_pos (by omega), if_pos]
    rw [b0, b1]; exact ⟨by omega, k.2.2.2⟩
  · have es : stp s = 3 := by unfold stp; rw [e]; rfl
    have b1 := byt_take s (stp s) 1 (by omega)
    have b2 := byt_take s (stp s) 2 (by omega)
    rw [e]
    unfold rsz
    rw [if_neg hn, if_neg (by omega), if_neg (by omega), if_pos (by omega), if_pos]
    rw [b0, b1, b2]; exact ⟨by omega, k.2.2.2⟩
  · have es : stp s = 4 := by unfold stp; rw [e]; rfl
    have b1 := byt_take s (stp s) 1 (by omega)
    have b2 := byt_take s (stp s) 2 (by omega)
    have b3 := byt_take s (stp s) 3 (by omega)
    rw [e]
    unfold rsz
    rw [if_neg hn, if_neg (by omega), if_neg (by omega), if_neg (by omega), if_pos (by omega), if_pos]
    rw [b0, b1, b2, b3]; exact ⟨by omega, k.2.2.2⟩
/-- A text's runes; a byte that is none stands alone. -/
def runes (s : List UInt8) : List (List UInt8) := if s = [] then [] else s.take (stp s) :: runes (s.drop (stp s))
termination_by s.length
decreasing_by
  rename_i h1
  have : s.length ≠ 0 := by simpa using h1
  have := stp_pos s
  simp
  omega
theorem runes_nil : runes [] = [] := by rw [runes]; simp
theorem runes_step (s : List UInt8) (h : s ≠ []) : runes s = s.take (stp s) :: runes (s.drop (stp s)) := by rw [runes, if_neg h]
theorem runes_len : ∀ (n : Nat) (s : List UInt8), s.length ≤ n → (runes s).length ≤ s.length
  | 0, s, h => by
    have : s = [] := List.eq_nil_of_length_eq_zero (by omega)
    subst this
    rw [runes_nil]; simp
  | n + 1, s, h => by
    by_cases hs : s = []
    · subst hs; rw [runes_nil]; simp
    · rw [runes_step s hs]
      have := stp_pos s
      have hl : 0 < s.length := List.length_pos_iff.2 hs
      have := runes_len n (s.drop (stp s)) (by simp; omega)
      simp at this ⊢
      omega
def strs (l : List (List UInt8)) : List V := l.map V.str
theorem strs_len (l : List (List UInt8)) : (strs l).length = l.length := by simp [strs]
theorem strs_get (l : List (List UInt8)) (i : Nat) : (strs l)[i]? = (l[i]?).map V.str := by simp [strs]
theorem strs_hfs (l : List (List UInt8)) : V.hfs (strs l) = true := hfs_map _ (fun b => by simp) _
theorem strs_app (a b : List (List UInt8)) : strs (a ++ b) = strs a ++ strs b := by simp [strs]
theorem Parts_loop (s : List UInt8) (h : Heap) (hs : s.length ≤ 4398046511104) : ∀ (m i : Nat), s.length - i ≤ m → i ≤ s.length → ∀ (out : List (List UInt8)), out.length ≤ i → ∀ ks Q,
    (∀ e, Xk T ks (.x 0) ([(0, .str s), (3, .ps 1 (strs (out ++ runes (s.drop i))))] ++ e) h Q) →
    ∀ e, Xc T l_ref04_Parts_0 ks ([(0, .str s), (3, .ps 1 (strs out)), (4, .int .i64 i)] ++ e) h Q := by
  intro m
  induction m with
  | zero =>
    intro i hm hi out ho ks Q hQ e
    rw [L_ref04_Parts_0]; unfold bl_ref04_Parts_0
    have e0 : i = s.length := by omega
    subst e0
    rw [List.drop_length, runes_nil, List.append_nil] at hQ
    simp (disch := omega)
    exact hQ _
  | succ m ih =>
    intro i hm hi out ho ks Q hQ e
    rw [L_ref04_Parts_0]; unfold bl_ref04_Parts_0
    rcases Nat.lt_or_ge i s.length with c | c
    · have hn : s.drop i ≠ [] := by
        intro e
        have := congrArg List.length e
        rw [List.length_drop, List.length_nil] at this
        omega
      have e1 : (i : Int) < s.length := by omega
      have p1 := stp_pos (s.drop i)
      have p2 := stp_le (s.drop i) hn
      rw [List.length_drop] at p2
      have rl := rsz_le (s.drop i)
      rw [List.length_drop] at rl
      have := ih (i + stp (s.drop i)) (by omega) (by omega) (out ++ [(s.drop i).take (stp (s.drop i))]) (by simp; omega) ks Q
      rw [runes_step _ hn, List.drop_drop, List.append_cons] at hQ
      simp (disch := first | omega | assumption) [e1, Size_p]
      refine Xb_dec (fun c1 => ?_) (fun c1 => ?_)
      · have es : stp (s.drop i) = 1 := by unfold stp; rw [if_pos (by omega)]
        rw [es] at this hQ
        simp (disch := omega) [strs_len]
        have := this hQ []
        rw [strs_app] at this
        rw [List.drop_take, Nat.add_sub_cancel_left]
        exact this
      · have es : stp (s.drop i) = rsz (s.drop i) := by unfold stp; rw [if_neg (by omega)]
        rw [es] at this hQ
        have e2 : ((i : Int) + (rsz (s.drop i) : Nat)).toNat = i + rsz (s.drop i) := by omega
        simp (disch := omega) [strs_len, e2]
        have := this hQ []
        rw [strs_app] at this
        rw [List.drop_take, Nat.add_sub_cancel_left]
        exact this
    · have e0 : i = s.length := by omega
      subst e0
      rw [List.drop_length, runes_nil, List.append_nil] at hQ
      simp (disch := omega)
      exact hQ _
theorem Parts_run (s : List UInt8) (h : Heap) (hs : s.length ≤ 4398046511104) : Run T f_ref04_Parts [.str s] h (.ps 1 (strs (runes s))) h := by
  refine Run.start t_ref04_Parts ?_
  unfold k_ref04_Parts
  simp (disch := omega)
  refine Parts_loop s h hs s.length 0 (by omega) (by omega) [] (by simp) _ _ (fun e => ?_) []
  simp (disch := omega)
def valS (s : List UInt8) : Int :=
  if rsz s = 1 then byt s 0 else if rsz s = 2 then 64 * ((byt s 0 : Int) - 192) + byt s 1 - 128 else
  if rsz s = 3 then 4096 * ((byt s 0 : Int) - 224) + 64 * ((byt s 1 : Int) - 128) + byt s 2 - 128 else
  if rsz s = 4 then 262144 * ((byt s 0 : Int) - 240) + 4096 * ((byt s 1 : Int) - 128) + 64 * ((byt s 2 : Int) - 128) + byt s 3 - 128 else -1
theorem valS_neg (s : List UInt8) (hs : s ≠ []) : valS s < 0 ↔ rsz s = 0 := by
  unfold valS
  rcases rsz_cases s hs with ⟨e, k⟩ | ⟨e, k⟩ | ⟨e, k⟩ | ⟨e, k⟩ | ⟨e, k⟩ <;> rw [e]
  · simp
  · simp
  · obtain ⟨k1, k2, k3, ⟨k4, k5⟩, k6⟩ := k
    simp; omega
  · obtain ⟨k1, k2, k3, ⟨k4, k5⟩, ⟨k6, k7⟩, k8⟩ := k
    simp; omega
  · obtain ⟨k1, k2, k3, ⟨k4, k5⟩, ⟨k6, k7⟩, ⟨k8, k9⟩, k10⟩ := k
    simp; omega
theorem Value_run (s : List UInt8) (h : Heap) (hs : s ≠ []) : Run T f_ref04_Value [.str s] h (.int .i64 (valS s)) h := by
  refine Run.start t_ref04_Value ?_
  unfold k_ref04_Value
  have gd : ∀ i, i < s.length → s[i]? = some (s.getD i 0) := fun i hi => by rw [List.getD_eq_getElem?_getD, List.getElem?_eq_getElem hi]; rfl
  have hl : 0 < s.length := List.length_pos_iff.2 hs
  have g0 := gd 0 hl
  have b0 : byt s 0 = (s.getD 0 0).toNat := rfl
  have b1 : byt s 1 = (s.getD 1 0).toNat := rfl
  have b2 : byt s 2 = (s.getD 2 0).toNat := rfl
  have b3 : byt s 3 = (s.getD 3 0).toNat := rfl
  have g1 := gd 1
  have g2 := gd 2
  have g3 := gd 3
  have rc := rsz_cases s hs
  have hv : valS s = valS s := rfl
  conv at hv => rhs; unfold valS
  rw [b0, b1, b2, b3] at hv
  clear gd b0 b1 b2 b3
  generalize s.getD 0 0 = c0 at *
  generalize s.getD 1 0 = c1 at *
  generalize s.getD 2 0 = c2 at *
  generalize s.getD 3 0 = c3 at *
  have l0 := u8_lt c0
  have l1 := u8_lt c1
  have l2 := u8_lt c2
  have l3 := u8_lt c3
  rcases rc with ⟨e, k⟩ | ⟨e, k⟩ | ⟨e, k⟩ | ⟨e, k⟩ | ⟨e, k⟩ <;> simp only [e] at hv <;> simp at hv
  · simp (disch := first | omega | assumption) [g0, convB, Size_p, e, hv]
  · simp (disch := first | omega | assumption) [g0, convB, Size_p, e, hv]
  · have g1 := g1 (by omega)
    simp (disch := first | omega | assumption) [g0, g1, convB, Size_p, e, hv]
  · have g1 := g1 (by omega)
    have g2 := g2 (by omega)
    simp (disch := first | omega | assumption) [g0, g1, g2, convB, Size_p, e, hv]
  · have g1 := g1 (by omega)
    have g2 := g2 (by omega)
    have g3 := g3 (by omega)
    simp (disch := first | omega | assumption) [g0, g1, g2, g3, convB, Size_p, e, hv]
section
variable {ks : List Kt} {ops : List AOpr} {K : Kp} {e : Env} {h : Heap} {Q : Ex → Env → Heap → Prop} {d : Nat} {lent : Bool}
theorem Parts_p (s : List UInt8) (hs : s.length ≤ 4398046511104) : Xp T f_ref04_Parts (some ([.str s], false)) h (some d) ops K ks e Q = Xo T ops K ks ((d, .ps 1 (strs (runes s))) :: e) h Q :=
  Xp_run (Parts_run s [] hs) (by simp) (by simp [strs_hfs]) (by simp)
theorem Value_p (s : List UInt8) (hs : s ≠ []) : Xp T f_ref04_Value (some ([.str s], lent)) h (some d) ops K ks e Q = Xo T ops K ks ((d, .int .i64 (valS s)) :: e) h Q :=
  Xp_run (Value_run s [] hs) (by simp) rfl (by simp [scalar])
end
theorem runes_ne : ∀ (n : Nat) (s : List UInt8), s.length ≤ n → ∀ p ∈ runes s, p ≠ []
  | 0, s, h => by
    have : s = [] := List.eq_nil_of_length_eq_zero (by omega)
    subst this
    rw [runes_nil]; simp
  | n + 1, s, h => by
    by_cases hs : s = []
    · subst hs; rw [runes_nil]; simp
    · rw [runes_step s hs]
      have := stp_pos s
      have hl : 0 < s.length := List.length_pos_iff.2 hs
      intro p hp
      rcases List.mem_cons.1 hp with rfl | hp
      · intro e
        have := congrArg List.length e
        rw [List.length_take, List.length_nil] at this
        omega
      · exact runes_ne n (s.drop (stp s)) (by simp; omega) p hp
theorem runes_valid : ∀ (n : Nat) (s : List UInt8), s.length ≤ n → (valid s = true ↔ ∀ p ∈ runes s, 0 ≤ valS p)
  | 0, s, h => by
    have : s = [] := List.eq_nil_of_length_eq_zero (by omega)
    subst this
    rw [runes_nil, valid_nil]; simp
  | n + 1, s, h => by
    by_cases hs : s = []
    · subst hs; rw [runes_nil, valid_nil]; simp
    · have hp := stp_pos s
      have hl : 0 < s.length := List.length_pos_iff.2 hs
      have ih := runes_valid n (s.drop (stp s)) (by simp; omega)
      have hv := valS_neg (s.take (stp s)) (runes_ne _ s (Nat.le_refl _) _ (by rw [runes_step s hs]; simp))
      rw [rsz_take s hs] at hv
      rw [runes_step s hs, List.forall_mem_cons, ← ih]
      by_cases c : rsz s = 0
      · rw [valid_bad s hs c]
        have := hv.2 c
        simp; intro; omega
      · have es : stp s = rsz s := by unfold stp; rw [if_neg c]
        rw [valid_step s c, es]
        have : ¬ valS (s.take (rsz s)) < 0 := by rw [← es]; exact fun k => c (hv.1 k)
        constructor
        · intro k; exact ⟨by omega, k⟩
        · exact fun k => k.2
theorem right_loop (h : Heap) (l : List (List UInt8)) (hl : l.length ≤ 4398046511104) (hn : ∀ p ∈ l, p ≠ []) : ∀ (m i : Nat), i + m = l.length → ∀ ks Q,
    ((∀ p ∈ l.drop i, 0 ≤ valS p) → ∀ e, Xk T ks (.x 0) e h Q) → ((¬ ∀ p ∈ l.drop i, 0 ≤ valS p) → ∀ e, Xk T ks .r ((2, .bool false) :: e) h Q) →
    Xc T l_ref06_right_0 ks [(3, .ps 1 (strs l)), (4, .int .i64 i)] h Q := by
  intro m
  induction m with
  | zero =>
    intro i hi ks Q h1 h2
    rw [L_ref06_right_0]; unfold bl_ref06_right_0
    have e0 : i = l.length := by omega
    subst e0
    simp (disch := omega) [strs_len]
    exact h1 (by simp) _
  | succ m ih =>
    intro i hi ks Q h1 h2
    rw [L_ref06_right_0]; unfold bl_ref06_right_0
    have e1 : i < l.length := by omega
    have e3 : (i : Int) < l.length := by omega
    have g := List.getElem?_eq_getElem e1
    have da : l.drop i = l[i] :: l.drop (i + 1) := List.drop_eq_getElem_cons e1
    have hi2 := hn l[i] (List.getElem_mem e1)
    rw [da, List.forall_mem_cons] at h1 h2
    simp (disch := first | omega | assumption) [strs_len, strs_get, e3, g, Value_p]
    refine Xb_dec (fun c1 => ?_) (fun c1 => ?_)
    · simp (disch := omega)
      exact h2 (fun k => by have := k.1; omega) _
    · simp (disch := omega)
      have := ih (i + 1) (by omega) ks Q (fun k => h1 ⟨by omega, k⟩) (fun k => h2 fun q => k q.2)
      simpa using this
theorem right_run (s : List UInt8) (h : Heap) (hs : s.length ≤ 4398046511104) : Run T f_ref06_right [.str s] h (.bool (valid s)) h := by
  refine Run.start t_ref06_right ?_
  unfold k_ref06_right
  have rl := runes_len _ s (Nat.le_refl _)
  have rv := runes_valid _ s (Nat.le_refl _)
  simp (disch := omega) [Parts_p]
  have := right_loop h (runes s) (by omega) (runes_ne _ s (Nat.le_refl _)) (runes s).length 0 (by omega)
  refine this _ _ (fun hh e => ?_) (fun hh e => ?_)
  · have : valid s = true := rv.2 (by simpa using hh)
    simp (disch := omega) [this]
  · have : valid s = false := by
      cases hv : valid s with
      | false => rfl
      | true => exact absurd (rv.1 hv) (by simpa using hh)
    simp (disch := omega) [this]
section
variable {ks : List Kt} {ops : List AOpr} {K : Kp} {e : Env} {h : Heap} {Q : Ex → Env → Heap → Prop} {d : Nat} {lent : Bool}
theorem right_p (s : List UInt8) (hs : s.length ≤ 4398046511104) : Xp T f_ref06_right (some ([.str s], lent)) h (some d) ops K ks e Q = Xo T ops K ks ((d, .bool (valid s)) :: e) h Q :=
  Xp_run (right_run s [] hs) (by simp) rfl (by simp [scalar])
end
end Ev
