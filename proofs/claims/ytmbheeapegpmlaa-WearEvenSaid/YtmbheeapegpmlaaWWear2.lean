/- Wear: the reference's answers, gaps, what may be written. Each theorem states its own conditions. -/
import Derived.Test.YtmbheeapegpmlaaWWear
set_option linter.all false
namespace Ev
open Go
set_option maxRecDepth 10000
attribute [-simp] getElem?_pos getElem?_neg

/-- An index of the foremost. -/
def Ix (ahead : Int → Int → Bool) (l : List Int) (k : Int) : Prop := (l = [] ∧ k = -1) ∨ (0 ≤ k ∧ k < l.length ∧ l[k.toNat]? = some (bestS ahead l))
theorem Ix.step {ahead : Int → Int → Bool} {l : List Int} {i : Nat} {k : Int} (h : Ix ahead (l.take i) k) (hi : i < l.length) (k' : Int) (hk : k' = if k < 0 then (i : Int) else if ahead l[i] (bestS ahead (l.take i)) then (i : Int) else k) : Ix ahead (l.take (i + 1)) k' := by
  have ht : l.take (i + 1) = l.take i ++ [l[i]] := by rw [List.take_succ, List.getElem?_eq_getElem hi]; rfl
  rcases h with ⟨h1, h2⟩ | ⟨h1, h2, h3⟩
  · rw [if_pos (by omega)] at hk
    have hi0 : i = 0 := by
      rcases List.take_eq_nil_iff.1 h1 with e | e
      · exact e
      · rw [e] at hi; simp at hi
    subst hi0 hk
    rw [ht]
    exact .inr ⟨by simp, by simp, by simp [bestS_one]⟩
  · rw [if_neg (by omega)] at hk
    rw [List.length_take] at h2
    have hne : l.take i ≠ [] := fun hh => by rw [hh] at h3; simp at h3
    rw [List.getElem?_take, if_pos (by omega)] at h3
    refine .inr ?_
    rw [ht, bestS_app _ _ _ hne, List.length_append, List.length_take, List.length_singleton]
    split at hk
    · rename_i ha
      rw [if_pos ha]
      subst hk
      refine ⟨by omega, by omega, ?_⟩
      rw [List.getElem?_append_right (by simp; omega)]
      have : ((i : Int)).toNat - (l.take i).length = 0 := by rw [List.length_take]; omega
      rw [this]; rfl
    · rename_i ha
      rw [if_neg ha]
      subst hk
      refine ⟨h1, by omega, ?_⟩
      rw [List.getElem?_append_left (by rw [List.length_take]; omega), List.getElem?_take, if_pos (by omega)]
      exact h3

theorem RLeast_loop (l c : List Int) (h : Heap) (hl : l.length < 4611686018427387904) (hc : c.length < 4611686018427387904) : ∀ (m i : Nat) (k : Int), i + m = l.length → Ix (aheadL c) (l.take i) k → ∀ ks Q,
    (∀ k, Ix (aheadL c) l k → Xk T ks (.x 0) [(0, .ps 1 (ints l)), (1, .ps 1 (ints c)), (5, .int .i64 k), (6, .int .i64 l.length), (10, .bool false)] h Q) →
    Xc T l_ref21_Least_0 ks [(0, .ps 1 (ints l)), (1, .ps 1 (ints c)), (5, .int .i64 k), (6, .int .i64 i)] h Q := by
  intro m
  induction m with
  | zero =>
    intro i k hm hix ks Q hQ
    rw [L_ref21_Least_0]; unfold bl_ref21_Least_0
    have e1 : i = l.length := by omega
    subst e1
    rw [List.take_length] at hix
    simp (disch := omega) [ints_len]
    exact hQ k hix
  | succ m ih =>
    intro i k hm hix ks Q hQ
    rw [L_ref21_Least_0]; unfold bl_ref21_Least_0
    have e1 : i < l.length := by omega
    have e3 : (i : Int) < l.length := by omega
    have g1 := List.getElem?_eq_getElem e1
    simp (disch := omega) [ints_len, e3]
    have next : ∀ k', (k' = if k < 0 then (i : Int) else if aheadL c l[i] (bestS (aheadL c) (l.take i)) then (i : Int) else k) → Xc T l_ref21_Least_0 ks [(0, .ps 1 (ints l)), (1, .ps 1 (ints c)), (5, .int .i64 k'), (6, .int .i64 (i + 1))] h Q := by
      intro k' hk'
      have := ih (i + 1) k' (by omega) (hix.step e1 k' hk') ks Q hQ
      simpa using this
    apply Xg_decn
    · intro c1
      rcases hix with ⟨_, h2⟩ | ⟨h1, h2, h3⟩
      · omega
      rw [List.length_take] at h2
      rw [List.getElem?_take, if_pos (by omega)] at h3
      have hk1 : k.toNat < l.length := by omega
      generalize hb : bestS (aheadL c) (l.take i) = b at h3 next
      simp (disch := omega) [c1, ints_get, g1, h3, ROf_p]
      apply Xg_decn
      · intro c2
        simp (disch := omega) [c2, ints_get, g1, h3, ROf_p]
        apply Xg_dec
        · intro c3
          simp (disch := omega) [c3, ints_get, g1, h3]
          apply Xb_dec
          · intro c4
            simp (disch := omega)
            exact next _ (by rw [if_neg c1, if_pos (by simp [aheadL, c3, c4])])
          · intro c4
            simp (disch := omega)
            exact next _ (by rw [if_neg c1, if_neg (by simp [aheadL, c3, c4])])
        · intro c3
          simp (disch := omega) [c3]
          exact next _ (by rw [if_neg c1, if_neg (by simp [aheadL, c2, c3])])
      · intro c2
        simp (disch := omega) [c2]
        exact next _ (by rw [if_neg c1, if_pos (by simp [aheadL, c2])])
    · intro c1
      simp (disch := omega) [c1]
      exact next _ (by rw [if_pos c1])
theorem RMost_loop (l c : List Int) (h : Heap) (hl : l.length < 4611686018427387904) (hc : c.length < 4611686018427387904) : ∀ (m i : Nat) (k : Int), i + m = l.length → Ix (aheadM c) (l.take i) k → ∀ ks Q,
    (∀ k, Ix (aheadM c) l k → Xk T ks (.x 0) [(0, .ps 1 (ints l)), (1, .ps 1 (ints c)), (5, .int .i64 k), (6, .int .i64 l.length), (10, .bool false)] h Q) →
    Xc T l_ref21_Most_0 ks [(0, .ps 1 (ints l)), (1, .ps 1 (ints c)), (5, .int .i64 k), (6, .int .i64 i)] h Q := by
  intro m
  induction m with
  | zero =>
    intro i k hm hix ks Q hQ
    rw [L_ref21_Most_0]; unfold bl_ref21_Most_0
    have e1 : i = l.length := by omega
    subst e1
    rw [List.take_length] at hix
    simp (disch := omega) [ints_len]
    exact hQ k hix
  | succ m ih =>
    intro i k hm hix ks Q hQ
    rw [L_ref21_Most_0]; unfold bl_ref21_Most_0
    have e1 : i < l.length := by omega
    have e3 : (i : Int) < l.length := by omega
    have g1 := List.getElem?_eq_getElem e1
    simp (disch := omega) [ints_len, e3]
    have next : ∀ k', (k' = if k < 0 then (i : Int) else if aheadM c l[i] (bestS (aheadM c) (l.take i)) then (i : Int) else k) → Xc T l_ref21_Most_0 ks [(0, .ps 1 (ints l)), (1, .ps 1 (ints c)), (5, .int .i64 k'), (6, .int .i64 (i + 1))] h Q := by
      intro k' hk'
      have := ih (i + 1) k' (by omega) (hix.step e1 k' hk') ks Q hQ
      simpa using this
    apply Xg_decn
    · intro c1
      rcases hix with ⟨_, h2⟩ | ⟨h1, h2, h3⟩
      · omega
      rw [List.length_take] at h2
      rw [List.getElem?_take, if_pos (by omega)] at h3
      have hk1 : k.toNat < l.length := by omega
      generalize hb : bestS (aheadM c) (l.take i) = b at h3 next
      simp (disch := omega) [c1, ints_get, g1, h3, ROf_p]
      apply Xg_decn
      · intro c2
        simp (disch := omega) [c2, ints_get, g1, h3, ROf_p]
        apply Xg_dec
        · intro c3
          simp (disch := omega) [c3, ints_get, g1, h3]
          apply Xb_dec
          · intro c4
            simp (disch := omega)
            exact next _ (by rw [if_neg c1, if_pos (by simp [aheadM, c3, c4])])
          · intro c4
            simp (disch := omega)
            exact next _ (by rw [if_neg c1, if_neg (by simp [aheadM, c3, c4])])
        · intro c3
          simp (disch := omega) [c3]
          exact next _ (by rw [if_neg c1, if_neg (by simp [aheadM, c2, c3])])
      · intro c2
        simp (disch := omega) [c2]
        exact next _ (by rw [if_neg c1, if_pos (by simp [aheadM, c2])])
    · intro c1
      simp (disch := omega) [c1]
      exact next _ (by rw [if_pos c1])

theorem RLeast_run (l c : List Int) (h : Heap) (hl : l.length < 4611686018427387904) (hc : c.length < 4611686018427387904) : ∃ k, Ix (aheadL c) l k ∧ Run T f_ref21_Least [.ps 1 (ints l), .ps 1 (ints c)] h (.int .i64 k) h := by
  obtain ⟨v, h', ⟨k, rfl, rfl, hk⟩, hr⟩ := Run.startP (P := fun v h' => ∃ k, v = .int .i64 k ∧ h' = h ∧ Ix (aheadL c) l k) t_ref21_Least (vs := [.ps 1 (ints l), .ps 1 (ints c)]) (h := h) (by
    unfold k_ref21_Least
    simp (disch := omega)
    have := RLeast_loop l c h hl hc l.length 0 (-1) (by omega) (.inl ⟨by simp, rfl⟩)
    simp at this
    refine this _ _ fun k hk => ?_
    simp (disch := omega) [hk])
  exact ⟨k, hk, hr⟩
theorem RMost_run (l c : List Int) (h : Heap) (hl : l.length < 4611686018427387904) (hc : c.length < 4611686018427387904) : ∃ k, Ix (aheadM c) l k ∧ Run T f_ref21_Most [.ps 1 (ints l), .ps 1 (ints c)] h (.int .i64 k) h := by
  obtain ⟨v, h', ⟨k, rfl, rfl, hk⟩, hr⟩ := Run.startP (P := fun v h' => ∃ k, v = .int .i64 k ∧ h' = h ∧ Ix (aheadM c) l k) t_ref21_Most (vs := [.ps 1 (ints l), .ps 1 (ints c)]) (h := h) (by
    unfold k_ref21_Most
    simp (disch := omega)
    have := RMost_loop l c h hl hc l.length 0 (-1) (by omega) (.inl ⟨by simp, rfl⟩)
    simp at this
    refine this _ _ fun k hk => ?_
    simp (disch := omega) [hk])
  exact ⟨k, hk, hr⟩

theorem ofS_lt (c : List Int) (b : Int) (hc : ∀ n ∈ c, n ≤ 9223372036854775807) : ofS c b ≤ 9223372036854775807 := by
  unfold ofS
  split
  · omega
  · rw [List.getD_eq_getElem?_getD]
    cases hx : c[b.toNat]? with
    | none => simp
    | some n =>
      have := hc n (List.mem_of_getElem? hx)
      simp
      omega

theorem Gap_run (l c : List Int) (hl : l.length < 4611686018427387904) (hc : c.length < 4611686018427387904) (hci : ∀ n ∈ c, n ≤ 9223372036854775807) (h : Heap) :
    Run T f_wear_Gap [.ps 1 (ints l), .ps 1 (ints c)] h (.int .i64 (if l = [] then 0 else ofS c (bestS (aheadM c) l) - ofS c (bestS (aheadL c) l))) h := by
  refine Run.start t_wear_Gap ?_
  unfold k_wear_Gap
  have b1 := ofS_lt c (bestS (aheadM c) l) hci
  have b2 := ofS_lt c (bestS (aheadL c) l) hci
  have b3 := ofS_ge c (bestS (aheadM c) l)
  have b4 := ofS_ge c (bestS (aheadL c) l)
  simp (disch := omega) [Least_p, Most_p]
  by_cases hn : l = []
  · simp (disch := omega) [hn]
  · simp (disch := omega) [hn, Of_p]

theorem Index_loop (h : Heap) (l : List Int) (x : Int) (hb : l.length < 4611686018427387904) : ∀ (k i : Nat), i + k = l.length → ∀ ks Q,
    (x ∉ l.drop i → Xk T ks (.x 0) [(0, .ps 1 (ints l)), (1, .int .i64 x), (7, .int .i64 l.length), (8, .int .i64 l.length), (9, .bool false)] h Q) →
    (x ∈ l.drop i → ∀ j : Nat, Xk T ks .r [(4, .int .i64 j)] h Q) →
    Xc T l_slices_Index_int_int_0 ks [(0, .ps 1 (ints l)), (1, .int .i64 x), (7, .int .i64 l.length), (8, .int .i64 i)] h Q := by
  intro k
  induction k with
  | zero =>
    intro i hk ks Q h1 h2
    rw [L_slices_Index_int_int_0]; unfold bl_slices_Index_int_int_0
    have e0 : i = l.length := by omega
    subst e0
    simp (disch := omega)
    exact h1 (by simp)
  | succ k ih =>
    intro i hk ks Q h1 h2
    rw [L_slices_Index_int_int_0]; unfold bl_slices_Index_int_int_0
    have e1 : i < l.length := by omega
    have e3 : (i : Int) < l.length := by omega
    have da : l.drop i = l[i] :: l.drop (i + 1) := List.drop_eq_getElem_cons e1
    simp (disch := omega) [ints_get, e3, List.getElem?_eq_getElem e1]
    apply Xb_dec
    · intro he
      simp (disch := omega)
      exact h2 (by rw [da, ← he]; simp) i
    · intro hne
      simp (disch := omega)
      have := ih (i + 1) (by omega) ks Q (fun hh => h1 (by rw [da, List.mem_cons]; exact fun q => q.elim hne hh)) (fun hh => h2 (by rw [da, List.mem_cons]; exact .inr hh))
      simpa using this
theorem Index_run (l : List Int) (x : Int) (h : Heap) (hb : l.length < 4611686018427387904) : ∃ j : Int, (0 ≤ j ↔ x ∈ l) ∧ Run T f_slices_Index_int_int [.ps 1 (ints l), .int .i64 x] h (.int .i64 j) h := by
  obtain ⟨v, h', ⟨k, rfl, rfl, hk⟩, hr⟩ := Run.startP (P := fun v h' => ∃ k : Int, v = .int .i64 k ∧ h' = h ∧ (0 ≤ k ↔ x ∈ l)) t_slices_Index_int_int (vs := [.ps 1 (ints l), .int .i64 x]) (h := h) (by
    unfold k_slices_Index_int_int
    simp (disch := omega) [ints_len]
    have := Index_loop h l x hb l.length 0 (by omega)
    simp at this
    refine this _ _ (fun hx => ?_) (fun hx j => ?_)
    · simp (disch := omega) [hx]
    · simp (disch := omega) [hx])
  exact ⟨k, hk, hr⟩
theorem Contains_run (l : List Int) (x : Int) (h : Heap) (hb : l.length < 4611686018427387904) : Run T f_slices_Contains_int_int [.ps 1 (ints l), .int .i64 x] h (.bool (decide (x ∈ l))) h := by
  refine Run.start t_slices_Contains_int_int ?_
  unfold k_slices_Contains_int_int
  obtain ⟨j, hj, hr⟩ := Index_run l x [] hb
  simp (disch := omega)
  rw [Xp_run hr (by simp [ints_hfs]) rfl (by simp [scalar])]
  simp (disch := omega) [hj]
section
variable {ks : List Kt} {ops : List AOpr} {K : Kp} {e : Env} {h : Heap} {Q : Ex → Env → Heap → Prop} {d : Nat} {lent : Bool}
theorem Contains_p (l : List Int) (x : Int) (hl : l.length < 4611686018427387904) : Xp T f_slices_Contains_int_int (some ([.ps 1 (ints l), .int .i64 x], lent)) h (some d) ops K ks e Q = Xo T ops K ks ((d, .bool (decide (x ∈ l))) :: e) h Q :=
  Xp_run (Contains_run l x [] hl) (by simp [ints_hfs]) rfl (by simp [scalar])
theorem Gap_p (l c : List Int) (hl : l.length < 4611686018427387904) (hc : c.length < 4611686018427387904) (hci : ∀ n ∈ c, n ≤ 9223372036854775807) : Xp T f_wear_Gap (some ([.ps 1 (ints l), .ps 1 (ints c)], lent)) h (some d) ops K ks e Q = Xo T ops K ks ((d, .int .i64 (if l = [] then 0 else ofS c (bestS (aheadM c) l) - ofS c (bestS (aheadL c) l))) :: e) h Q :=
  Xp_run (Gap_run l c hl hc hci []) (by simp [ints_hfs]) rfl (by simp [scalar])
end

def mayS (l c : List Int) (b gap : Int) : Bool := decide (b ∈ l) && decide (ofS c b - ofS c (bestS (aheadL c) l) < max gap 1)
theorem May_run (l c : List Int) (b gap : Int) (hl : l.length < 4611686018427387904) (hc : c.length < 4611686018427387904) (hci : ∀ n ∈ c, n ≤ 9223372036854775807) (h : Heap) :
    Run T f_wear_May [.ps 1 (ints l), .ps 1 (ints c), .int .i64 b, .int .i64 gap] h (.bool (mayS l c b gap)) h := by
  refine Run.start t_wear_May ?_
  unfold k_wear_May
  have b1 := ofS_lt c b hci
  have b2 := ofS_lt c (bestS (aheadL c) l) hci
  have b3 := ofS_ge c b
  have b4 := ofS_ge c (bestS (aheadL c) l)
  simp (disch := omega) [Least_p]
  by_cases hn : l = []
  · simp (disch := omega) [hn, mayS]
  · simp (disch := omega) [hn, Contains_p]
    apply Xg_dec
    · intro c1
      simp (disch := omega) [c1, Of_p, mayS]
    · intro c1
      simp (disch := omega) [c1, mayS]
section
variable {ks : List Kt} {ops : List AOpr} {K : Kp} {e : Env} {h : Heap} {Q : Ex → Env → Heap → Prop} {d : Nat} {lent : Bool}
theorem May_p (l c : List Int) (b gap : Int) (hl : l.length < 4611686018427387904) (hc : c.length < 4611686018427387904) (hci : ∀ n ∈ c, n ≤ 9223372036854775807) : Xp T f_wear_May (some ([.ps 1 (ints l), .ps 1 (ints c), .int .i64 b, .int .i64 gap], lent)) h (some d) ops K ks e Q = Xo T ops K ks ((d, .bool (mayS l c b gap)) :: e) h Q :=
  Xp_run (May_run l c b gap hl hc hci []) (by simp [ints_hfs]) rfl (by simp [scalar])
end
theorem light_run (l c : List Int) (h : Heap) (hl : l.length < 4611686018427387904) : Run T f_law21_light [.ps 1 (ints l), .ps 1 (ints c)] h (.bool (decide (l.length ≤ 60 ∧ c.length ≤ 100))) h := by
  refine Run.start t_law21_light ?_
  unfold k_law21_light
  simp (disch := omega) [ints_len]
  apply Xg_dec
  · intro c1
    have c2 : l.length ≤ 60 := by omega
    simp (disch := omega) [c1, c2, ints_len]
    omega
  · intro c1
    have c2 : ¬ l.length ≤ 60 := by omega
    simp (disch := omega) [c1, c2]

theorem awake21 : ∃ h', Run T f_law21_awake [] [] (.bool true) h' := Run.closed (n := 100) (by kernel_rfl)

theorem WearFinds_run (l c : List Int) (b gap : Int) (hl : l.length < 4611686018427387904) (hc : c.length < 4611686018427387904) (hci : ∀ n ∈ c, n ≤ 9223372036854775807) :
    ∃ h', Run T f_law21_WearFinds [.agg [.ps 1 (ints l), .ps 1 (ints c), .int .i64 b, .int .i64 gap]] [] (.bool true) h' := by
  refine Run.startE t_law21_WearFinds ?_
  unfold k_law21_WearFinds
  obtain ⟨ha, haw⟩ := awake21
  have hawk : ∀ {ks ops K e h Q} {d : Nat}, Xp T f_law21_awake (some ([], false)) h (some d) ops K ks e Q = Xo T ops K ks ((d, .bool true) :: e) h Q := fun {_ _ _ _ _ _ _} => Xp_run haw rfl rfl rfl
  obtain ⟨i, hi, hri⟩ := RLeast_run l c [] hl hc
  obtain ⟨k, hk, hrk⟩ := RMost_run l c [] hl hc
  simp (disch := omega)
  rw [Xp_run (light_run l c [] hl) (by simp [ints_hfs]) rfl (by simp [scalar])]
  simp (disch := omega)
  apply Xb_intro
  · intro c1
    simp (disch := omega) [hawk]
  · intro c1
    simp (disch := omega) [Least_p, Most_p]
    rw [Xp_run hri (by simp [ints_hfs]) rfl (by simp [scalar])]
    simp (disch := omega)
    rw [Xp_run hrk (by simp [ints_hfs]) rfl (by simp [scalar])]
    simp (disch := omega) [Of_p, ROf_p]
    rcases hi with ⟨h1, h2⟩ | ⟨h1, h2, h3⟩
    · subst h1 h2
      simp (disch := omega) [hawk, bestS_nil, Gap_p, May_p, mayS]
    · have hne : l ≠ [] := by intro hh; subst hh; simp at h2; omega
      rcases hk with ⟨k1, _⟩ | ⟨k1, k2, k3⟩
      · exact absurd k1 hne
      have c2 : ¬ i < 0 := by omega
      have b1 := ofS_lt c b hci
      have b2 := ofS_lt c (bestS (aheadL c) l) hci
      have b3 := ofS_ge c b
      have b4 := ofS_ge c (bestS (aheadL c) l)
      have b5 := ofS_lt c (bestS (aheadM c) l) hci
      have b6 := ofS_ge c (bestS (aheadM c) l)
      simp (disch := omega) [c2, Has_p]
      by_cases hb : b ∈ l
      · simp (disch := omega) [hb, ints_get, h3, k3, ROf_p, High_p, hawk, hne, Gap_p, May_p, mayS]
      · simp (disch := omega) [hb, ints_get, h3, k3, ROf_p, High_p, hawk, hne, Gap_p, May_p, mayS]
end Ev
