/- Victim: which block is collected, what is gained. Each theorem states its own conditions. -/
import Derived.Test.YtmbheeapegpmlaaVVic
set_option linter.all false
namespace Ev
open Go
set_option maxRecDepth 10000
attribute [-simp] getElem?_pos getElem?_neg

section
variable {ks : List Kt} {ops : List AOpr} {K : Kp} {e : Env} {h : Heap} {Q : Ex → Env → Heap → Prop} {d : Nat} {lent : Bool}
theorem Has_pv (l : List Int) (x : Int) (hl : l.length < 4611686018427387904) : Xp T f_ref13_Has (some ([.ps 1 (ints l), .int .i64 x], lent)) h (some d) ops K ks e Q = Xo T ops K ks ((d, .bool (decide (x ∈ l))) :: e) h Q :=
  Xp_run (Has_run l x [] hl) (by simp [ints_hfs]) rfl (by simp [scalar])
end
/-- What a pick is. -/
def PickP (l : List (Int × Int)) (bs : List Int) (pages v : Int) (is : Bool) : Prop :=
  (is = false ∧ v = 0 ∧ ∀ b ∈ bs, pages ≤ (cnt l b : Nat)) ∨ (is = true ∧ v ∈ bs ∧ ((cnt l v : Nat) : Int) < pages ∧ ∀ b ∈ bs, ¬ cmpV l b v < 0)
theorem PickP.det {l : List (Int × Int)} {bs : List Int} {pages v w : Int} {is it : Bool} (h : PickP l bs pages v is) (k : PickP l bs pages w it) : v = w ∧ is = it := by
  rcases h with ⟨h1, h2, h3⟩ | ⟨h1, h2, h3, h4⟩
  · rcases k with ⟨k1, k2, k3⟩ | ⟨k1, k2, k3, k4⟩
    · exact ⟨h2.trans k2.symm, h1.trans k1.symm⟩
    · have := h3 w k2; omega
  · rcases k with ⟨k1, k2, k3⟩ | ⟨k1, k2, k3, k4⟩
    · have := k3 v h2; omega
    · refine ⟨?_, h1.trans k1.symm⟩
      have a := h4 w k2
      have b := k4 v h2
      have a' := cmpV_lt l w v
      have b' := cmpV_lt l v w
      have a2 : ¬ (cnt l w < cnt l v ∨ cnt l w = cnt l v ∧ w < v) := fun h => a (a'.2 h)
      have b2 : ¬ (cnt l v < cnt l w ∨ cnt l v = cnt l w ∧ v < w) := fun h => b (b'.2 h)
      omega

section
variable {ks : List Kt} {ops : List AOpr} {K : Kp} {e : Env} {h : Heap} {Q : Ex → Env → Heap → Prop} {d : Nat} {lent : Bool}
def gainS (l : List (Int × Int)) (b pages : Int) : Int := if pages ≤ (cnt l b : Nat) then 0 else pages - (cnt l b : Nat)
theorem Gain_run (l : List (Int × Int)) (b pages : Int) (h : Heap) (hl : l.length < 1000000) (hp : pages < 9223372036854775808) : Run T f_victim_Gain [.ps 2 (pls l), .int .i64 b, .int .i64 pages] h (.int .i64 (gainS l b pages)) h := by
  refine Run.start t_victim_Gain ?_
  unfold k_victim_Gain
  simp (disch := omega) [Count_p]
  have := cnt_le l b
  refine Xb_dec (fun c1 => ?_) (fun c1 => ?_)
  · simp (disch := omega) [gainS, c1]
  · simp (disch := omega) [gainS, c1]
theorem Gain_p (l : List (Int × Int)) (b pages : Int) (hl : l.length < 1000000) (hp : pages < 9223372036854775808) : Xp T f_victim_Gain (some ([.ps 2 (pls l), .int .i64 b, .int .i64 pages], lent)) h (some d) ops K ks e Q = Xo T ops K ks ((d, .int .i64 (gainS l b pages)) :: e) h Q :=
  Xp_run (Gain_run l b pages [] hl hp) (by simp [pls_hfs]) rfl (by simp [scalar])
end

theorem Pick_run (bs : List Int) (l : List (Int × Int)) (pages : Int) (hb : bs.length < 50) (hl : l.length < 1000000) :
    ∃ v is h', PickP l bs pages v is ∧ Run T f_victim_Pick [.ps 1 (ints bs), .ps 2 (pls l), .int .i64 pages] [] (.tup [.int .i64 v, .bool is]) h' := by
  obtain ⟨o, h1, hp, hs, hrun⟩ := Order_run bs l hb hl
  have hol : o.length < 50 := by rw [hp.length_eq]; exact hb
  obtain ⟨u, h', ⟨v, is, rfl, hk⟩, hr⟩ := Run.startP (P := fun u h' => ∃ v is, u = .tup [.int .i64 v, .bool is] ∧ PickP l bs pages v is) t_victim_Pick (vs := [.ps 1 (ints bs), .ps 2 (pls l), .int .i64 pages]) (h := []) (by
    unfold k_victim_Pick
    simp (disch := omega)
    rw [Xp_run hrun (by simp [ints_hfs, pls_hfs]) (by simp [ints_hfs]) (by simp)]
    simp (disch := omega) [ints_len]
    cases o with
    | nil =>
      simp (disch := omega)
      have hbs : bs = [] := List.nil_perm.1 hp
      subst hbs
      exact .inl ⟨rfl, rfl, by simp⟩
    | cons b r =>
      have hmem : b ∈ bs := hp.subset (by simp)
      have e1 : ints (b :: r) = V.int .i64 b :: ints r := rfl
      simp (disch := omega) [e1, Count_p]
      have hmin : ∀ x ∈ bs, ¬ cmpV l x b < 0 := fun x hx => by
        have : x ∈ b :: r := hp.symm.subset hx
        rcases List.mem_cons.1 this with rfl | hx
        · have := cmpV_lt l x x; omega
        · exact (List.pairwise_cons.1 hs).1 x hx
      refine Xb_dec (fun c1 => ?_) (fun c1 => ?_)
      · simp (disch := omega)
        refine .inl ⟨rfl, rfl, fun x hx => ?_⟩
        have a := hmin x hx
        have a' := cmpV_lt l x b
        have a2 : ¬ (cnt l x < cnt l b ∨ cnt l x = cnt l b ∧ x < b) := fun h => a (a'.2 h)
        omega
      · simp (disch := omega) [e1]
        exact .inr ⟨rfl, hmem, by omega, hmin⟩)
  exact ⟨v, is, h', hk, hr⟩

theorem rpick_loop (bs : List Int) (l : List (Int × Int)) (pages : Int) (h : Heap) (hb : bs.length < 50) (hl : l.length < 1000000) : ∀ (m i : Nat) (v : Int) (is : Bool) (least : Int), i + m = bs.length → PickP l (bs.take i) pages v is → (least = if is then ((cnt l v : Nat) : Int) else pages) → ∀ ks Q,
    (∀ v is e, PickP l bs pages v is → Xk T ks (.x 0) ([(0, .ps 1 (ints bs)), (1, .ps 2 (pls l)), (8, .int .i64 v), (9, e), (10, .bool is), (11, .int .i64 bs.length), (17, .bool false)]) h Q) →
    Xc T l_ref22_Pick_0 ks [(0, .ps 1 (ints bs)), (1, .ps 2 (pls l)), (8, .int .i64 v), (9, .int .i64 least), (10, .bool is), (11, .int .i64 i)] h Q := by
  intro m
  induction m with
  | zero =>
    intro i v is least hi hP hle ks Q hQ
    rw [L_ref22_Pick_0]; unfold bl_ref22_Pick_0
    have : i = bs.length := by omega
    subst this
    rw [List.take_length] at hP
    simp (disch := omega) [ints_len]
    exact hQ v is _ hP
  | succ m ih =>
    intro i v is least hi hP hle ks Q hQ
    rw [L_ref22_Pick_0]; unfold bl_ref22_Pick_0
    have e1 : i < bs.length := by omega
    have e3 : (i : Int) < bs.length := by omega
    have g1 := List.getElem?_eq_getElem e1
    have ht : bs.take (i + 1) = bs.take i ++ [bs[i]] := by rw [List.take_succ, List.getElem?_eq_getElem e1]; rfl
    have c3 := cmpV_lt l bs[i] v
    have c4 := cmpV_lt l v bs[i]
    have c5 := cmpV_lt l bs[i] bs[i]
    simp (disch := omega) [ints_len, e3, ints_get, g1, RCount_p]
    have keep : PickP l (bs.take (i + 1)) pages v is → Xc T l_ref22_Pick_0 ks [(0, .ps 1 (ints bs)), (1, .ps 2 (pls l)), (8, .int .i64 v), (9, .int .i64 least), (10, .bool is), (11, .int .i64 ((i : Int) + 1))] h Q := fun hP' => by
      simpa using ih (i + 1) v is least (by omega) hP' hle ks Q hQ
    have take : PickP l (bs.take (i + 1)) pages bs[i] true → Xc T l_ref22_Pick_0 ks [(0, .ps 1 (ints bs)), (1, .ps 2 (pls l)), (8, .int .i64 bs[i]), (9, .int .i64 (cnt l bs[i] : Nat)), (10, .bool true), (11, .int .i64 ((i : Int) + 1))] h Q := fun hP' => by
      simpa using ih (i + 1) bs[i] true (cnt l bs[i] : Nat) (by omega) hP' (by simp) ks Q hQ
    have newP : ((cnt l bs[i] : Nat) : Int) < pages → (∀ b ∈ bs.take i, ¬ cmpV l b bs[i] < 0) → PickP l (bs.take (i + 1)) pages bs[i] true := fun hlt hmin => by
      refine .inr ⟨rfl, by rw [ht]; exact List.mem_append.2 (.inr (List.mem_singleton.2 rfl)), hlt, fun b hb => ?_⟩
      rw [ht, List.mem_append, List.mem_singleton] at hb
      rcases hb with hb | rfl
      · exact hmin b hb
      · omega
    apply Xg_decn
    · intro k1
      cases is with
      | false =>
        simp (disch := omega) [k1]
        refine keep ?_
        rcases hP with ⟨_, p2, p3⟩ | ⟨p1, _⟩
        · refine .inl ⟨rfl, p2, fun b hb => ?_⟩
          rw [ht, List.mem_append, List.mem_singleton] at hb
          rcases hb with hb | rfl
          · exact p3 b hb
          · simp at hle; omega
        · cases p1
      | true =>
        rcases hP with ⟨p1, _⟩ | ⟨_, p2, p3, p4⟩
        · cases p1
        simp at hle
        subst hle
        simp (disch := omega) [k1, ints_get, g1]
        have old : ¬ cmpV l bs[i] v < 0 → PickP l (bs.take (i + 1)) pages v true := fun hn => by
          refine .inr ⟨rfl, by rw [ht]; exact List.mem_append.2 (.inl p2), p3, fun b hb => ?_⟩
          rw [ht, List.mem_append, List.mem_singleton] at hb
          rcases hb with hb | rfl
          · exact p4 b hb
          · exact hn
        apply Xg_dec
        · intro k2
          simp (disch := omega) [k2, ints_get, g1]
          apply Xb_dec
          · intro k3
            simp (disch := omega) [ints_get, g1, k2]
            have := take (newP (by omega) fun b hb => by
              have q := p4 b hb
              have q' := cmpV_lt l b v
              have q2 : ¬ (cnt l b < cnt l v ∨ cnt l b = cnt l v ∧ b < v) := fun h => q (q'.2 h)
              have q3 := cmpV_lt l b bs[i]
              omega)
            rw [k2] at this
            simpa using this
          · intro k3
            simp (disch := omega) [k2]
            exact keep (old (by omega))
        · intro k2
          simp (disch := omega) [k2]
          exact keep (old (by omega))
    · intro k1
      simp (disch := omega) [k1, ints_get, g1]
      refine take ?_
      rcases hP with ⟨p1, p2, p3⟩ | ⟨p1, p2, p3, p4⟩
      · subst p1
        simp at hle
        exact newP (by omega) fun b hb => by
          have := p3 b hb
          have q3 := cmpV_lt l b bs[i]
          omega
      · subst p1
        simp at hle
        exact newP (by omega) fun b hb => by
          have q := p4 b hb
          have q' := cmpV_lt l b v
          have q2 : ¬ (cnt l b < cnt l v ∨ cnt l b = cnt l v ∧ b < v) := fun h => q (q'.2 h)
          have q3 := cmpV_lt l b bs[i]
          omega
def PickU (l : List (Int × Int)) (bs : List Int) (pages : Int) (u : V) : Prop := ∃ v is, u = .tup [.int .i64 v, .bool is] ∧ PickP l bs pages v is
theorem RPick_run (bs : List Int) (l : List (Int × Int)) (pages : Int) (h : Heap) (hb : bs.length < 50) (hl : l.length < 1000000) :
    ∃ v is, PickP l bs pages v is ∧ Run T f_ref22_Pick [.ps 1 (ints bs), .ps 2 (pls l), .int .i64 pages] h (.tup [.int .i64 v, .bool is]) h := by
  obtain ⟨u, h', ⟨⟨v, is, rfl, hk⟩, rfl⟩, hr⟩ := Run.startP (P := fun u h' => PickU l bs pages u ∧ h' = h) t_ref22_Pick (vs := [.ps 1 (ints bs), .ps 2 (pls l), .int .i64 pages]) (h := h) (by
    unfold k_ref22_Pick
    simp (disch := omega)
    refine rpick_loop bs l pages h hb hl bs.length 0 0 false pages (by omega) (.inl ⟨rfl, rfl, by simp⟩) rfl _ _ fun v is e hP => ?_
    have hu : PickU l bs pages (.tup [.int .i64 v, .bool is]) := ⟨v, is, rfl, hP⟩
    simp (disch := omega) [hu])
  exact ⟨v, is, hk, hr⟩

theorem total_loop (l : List (Int × Int)) (pages : Int) (bs : List Int) (hb : bs.length < 50) (hl : l.length < 1000000) (hp : pages ≤ 1099511627776) (h : Heap) : ∀ (m i : Nat) (s : Int), i + m = bs.length → 0 ≤ s → s ≤ 1099511627776 * i → s = ((bs.take i).map fun b => gainS l b pages).sum → ∀ ks Q,
    (∀ e, Xk T ks (.x 0) ([(1, .ps 2 (pls l)), (2, .int .i64 pages), (7, .int .i64 (bs.map fun b => gainS l b pages).sum)] ++ e) h Q) →
    Xc T l_victim_Total_0 ks [(1, .ps 2 (pls l)), (2, .int .i64 pages), (7, .int .i64 s), (10, .ps 1 (ints bs)), (11, .int .i64 bs.length), (12, .int .i64 i)] h Q := by
  intro m
  induction m with
  | zero =>
    intro i s hi h0 h1 hs ks Q hQ
    rw [L_victim_Total_0]; unfold bl_victim_Total_0
    have : i = bs.length := by omega
    subst this
    rw [List.take_length] at hs
    subst hs
    simp (disch := omega)
    exact hQ _
  | succ m ih =>
    intro i s hi h0 h1 hs ks Q hQ
    rw [L_victim_Total_0]; unfold bl_victim_Total_0
    have e1 : i < bs.length := by omega
    have e3 : (i : Int) < bs.length := by omega
    have g1 := List.getElem?_eq_getElem e1
    have ht : bs.take (i + 1) = bs.take i ++ [bs[i]] := by rw [List.take_succ, List.getElem?_eq_getElem e1]; rfl
    have hg0 : 0 ≤ gainS l bs[i] pages := by unfold gainS; split <;> omega
    have hg1 : gainS l bs[i] pages ≤ 1099511627776 := by unfold gainS; have := cnt_le l bs[i]; split <;> omega
    simp (disch := omega) [e3, ints_get, g1, Gain_p]
    have := ih (i + 1) (s + gainS l bs[i] pages) (by omega) (by omega) (by omega) (by rw [ht, hs, List.map_append, List.sum_append]; simp) ks Q hQ
    simpa using this
theorem Total_run (l : List (Int × Int)) (pages : Int) (bs : List Int) (hb : bs.length < 50) (hl : l.length < 1000000) (hp : pages ≤ 1099511627776) (h : Heap) :
    Run T f_victim_Total [.ps 1 (ints bs), .ps 2 (pls l), .int .i64 pages] h (.int .i64 (bs.map fun b => gainS l b pages).sum) h := by
  refine Run.start t_victim_Total ?_
  unfold k_victim_Total
  simp (disch := omega) [ints_len]
  have := total_loop l pages bs hb hl hp h bs.length 0 0 (by omega) (by omega) (by omega) rfl
  simp at this
  refine this _ _ fun e => ?_
  simp (disch := omega)

theorem light22 (bs : List Int) (l : List (Int × Int)) (h : Heap) (hb : bs.length < 4611686018427387904) (hl : l.length < 4611686018427387904) : Run T f_law22_light [.ps 1 (ints bs), .ps 2 (pls l)] h (.bool (decide (bs.length ≤ 40 ∧ l.length ≤ 100))) h := by
  refine Run.start t_law22_light ?_
  unfold k_law22_light
  simp (disch := omega) [ints_len]
  apply Xg_dec
  · intro c1
    have c2 : bs.length ≤ 40 := by omega
    simp (disch := omega) [c1, c2, pls_len]
    omega
  · intro c1
    have c2 : ¬ bs.length ≤ 40 := by omega
    simp (disch := omega) [c1, c2]
theorem awake22 : ∃ h', Run T f_law22_awake [] [] (.bool true) h' := Run.closed (n := 100) (by kernel_rfl)

theorem picks_loop (bs : List Int) (l : List (Int × Int)) (h : Heap) (v x pages : Int) (is it : Bool) (hb : bs.length < 50) (hl : l.length < 1000000) (hP : PickP l bs pages v is) : ∀ (m i : Nat), i + m = bs.length → ∀ ks Q,
    (∀ e, Xk T ks (.x 0) ([(0, .ps 1 (ints bs)), (1, .ps 2 (pls l)), (7, .int .i64 v), (8, .bool is), (9, .int .i64 x), (10, .bool it)] ++ e) h Q) →
    Xc T l_law22_VictimPicks_0 ks [(0, .ps 1 (ints bs)), (1, .ps 2 (pls l)), (7, .int .i64 v), (8, .bool is), (9, .int .i64 x), (10, .bool it), (11, .int .i64 i)] h Q := by
  intro m
  induction m with
  | zero =>
    intro i hi ks Q hQ
    rw [L_law22_VictimPicks_0]; unfold bl_law22_VictimPicks_0
    have : i = bs.length := by omega
    subst this
    simp (disch := omega) [ints_len]
    exact hQ _
  | succ m ih =>
    intro i hi ks Q hQ
    rw [L_law22_VictimPicks_0]; unfold bl_law22_VictimPicks_0
    have e1 : i < bs.length := by omega
    have e3 : (i : Int) < bs.length := by omega
    have g1 := List.getElem?_eq_getElem e1
    simp (disch := omega) [ints_len, e3]
    cases is with
    | false =>
      simp (disch := omega)
      exact hQ _
    | true =>
      rcases hP with ⟨p1, _⟩ | ⟨_, p2, p3, p4⟩
      · cases p1
      have q := p4 bs[i] (List.getElem_mem _)
      have q' := cmpV_lt l bs[i] v
      have q2 : ¬ (cnt l bs[i] < cnt l v ∨ cnt l bs[i] = cnt l v ∧ bs[i] < v) := fun h => q (q'.2 h)
      have c1 : ¬ cnt l bs[i] < cnt l v := by omega
      simp (disch := omega) [ints_get, g1, RCount_p, c1]
      simpa using ih (i + 1) (by omega) ks Q hQ

theorem VictimPicks_run (bs : List Int) (l : List (Int × Int)) (pages : Int) (hb : bs.length < 4611686018427387904) (hl : l.length < 4611686018427387904) :
    ∃ h', Run T f_law22_VictimPicks [.ps 1 (ints bs), .ps 2 (pls l), .int .i64 pages] [] (.bool true) h' := by
  refine Run.startE t_law22_VictimPicks ?_
  unfold k_law22_VictimPicks
  obtain ⟨ha, haw⟩ := awake22
  have hawk : ∀ {ks ops K e h Q} {d : Nat}, Xp T f_law22_awake (some ([], false)) h (some d) ops K ks e Q = Xo T ops K ks ((d, .bool true) :: e) h Q := fun {_ _ _ _ _ _ _} => Xp_run haw rfl rfl rfl
  simp (disch := omega)
  rw [Xp_run (light22 bs l [] hb hl) (by simp [ints_hfs, pls_hfs]) rfl (by simp [scalar])]
  simp (disch := omega)
  apply Xb_intro
  · intro c1
    simp (disch := omega) [hawk]
  · intro c1
    have c2 : bs.length ≤ 40 ∧ l.length ≤ 100 := by simpa using c1
    obtain ⟨v, is, h1, hP, hr⟩ := Pick_run bs l pages (by omega) (by omega)
    obtain ⟨x, it, hP2, hr2⟩ := RPick_run bs l pages [] (by omega) (by omega)
    obtain ⟨rfl, rfl⟩ := hP.det hP2
    simp (disch := omega)
    rw [Xp_run hr (by simp [ints_hfs, pls_hfs]) (by simp) (by simp [scalar])]
    simp (disch := omega)
    rw [Xp_run hr2 (by simp [ints_hfs, pls_hfs]) (by simp) (by simp [scalar])]
    simp (disch := omega)
    have := picks_loop bs l [] v v pages is is (by omega) (by omega) hP bs.length 0 (by omega)
    simp at this
    refine this _ _ fun e => ?_
    simp (disch := omega) [hawk]
theorem gains_loop (bs : List Int) (l : List (Int × Int)) (pages : Int) (h : Heap) (hb : bs.length < 50) (hl : l.length < 1000000) (hp : pages ≤ 1099511627776) : ∀ (m i : Nat) (s : Int), i + m = bs.length → 0 ≤ s → s ≤ 1099511627776 * i → s = ((bs.take i).map fun b => gainS l b pages).sum → ∀ ks Q,
    (∀ e, Xk T ks (.x 0) ([(0, .ps 1 (ints bs)), (1, .ps 2 (pls l)), (2, .int .i64 pages), (7, .int .i64 (bs.map fun b => gainS l b pages).sum)] ++ e) h Q) →
    Xc T l_law22_VictimGains_0 ks [(0, .ps 1 (ints bs)), (1, .ps 2 (pls l)), (2, .int .i64 pages), (7, .int .i64 s), (8, .int .i64 i)] h Q := by
  intro m
  induction m with
  | zero =>
    intro i s hi h0 h1 hs ks Q hQ
    rw [L_law22_VictimGains_0]; unfold bl_law22_VictimGains_0
    have : i = bs.length := by omega
    subst this
    rw [List.take_length] at hs
    subst hs
    simp (disch := omega) [ints_len]
    exact hQ _
  | succ m ih =>
    intro i s hi h0 h1 hs ks Q hQ
    rw [L_law22_VictimGains_0]; unfold bl_law22_VictimGains_0
    have e1 : i < bs.length := by omega
    have e3 : (i : Int) < bs.length := by omega
    have g1 := List.getElem?_eq_getElem e1
    have ht : bs.take (i + 1) = bs.take i ++ [bs[i]] := by rw [List.take_succ, List.getElem?_eq_getElem e1]; rfl
    have hg0 : 0 ≤ gainS l bs[i] pages := by unfold gainS; split <;> omega
    have hg1 : gainS l bs[i] pages ≤ 1099511627776 := by unfold gainS; have := cnt_le l bs[i]; split <;> omega
    have hc := cnt_le l bs[i]
    have next := ih (i + 1) (s + gainS l bs[i] pages) (by omega) (by omega) (by omega) (by rw [ht, hs, List.map_append, List.sum_append]; simp) ks Q hQ
    simp (disch := omega) [ints_len, e3, ints_get, g1, RCount_p]
    refine Xb_dec (fun c1 => ?_) (fun c1 => ?_)
    · have c2 : gainS l bs[i] pages = pages - (cnt l bs[i] : Nat) := by unfold gainS; rw [if_neg (by omega)]
      rw [c2] at next
      simp (disch := omega) [ints_get, g1, Gain_p, c2]
      simpa using next
    · have c2 : gainS l bs[i] pages = 0 := by unfold gainS; rw [if_pos (by omega)]
      rw [c2] at next
      simp (disch := omega) [ints_get, g1, Gain_p, c2]
      simpa using next

theorem order_loop (bs o : List Int) (l : List (Int × Int)) (pages s : Int) (h : Heap) (hb : bs.length < 50) (hl : l.length < 1000000) (hperm : o.Perm bs) (hsort : SortedV l o) : ∀ (m i : Nat), i + m = o.length → ∀ ks Q,
    (∀ e, Xk T ks (.x 2) ([(0, .ps 1 (ints bs)), (1, .ps 2 (pls l)), (2, .int .i64 pages), (7, .int .i64 s)] ++ e) h Q) →
    Xc T l_law22_VictimGains_1 ks [(0, .ps 1 (ints bs)), (1, .ps 2 (pls l)), (2, .int .i64 pages), (7, .int .i64 s), (11, .ps 1 (ints o)), (12, .int .i64 i)] h Q := by
  have hol : o.length = bs.length := hperm.length_eq
  intro m
  induction m with
  | zero =>
    intro i hi ks Q hQ
    rw [L_law22_VictimGains_1]; unfold bl_law22_VictimGains_1
    have : i = o.length := by omega
    subst this
    simp (disch := omega) [ints_len]
    exact hQ _
  | succ m ih =>
    intro i hi ks Q hQ
    rw [L_law22_VictimGains_1]; unfold bl_law22_VictimGains_1
    have e1 : i < o.length := by omega
    have e3 : (i : Int) < o.length := by omega
    have g1 := List.getElem?_eq_getElem e1
    have hmem : o[i] ∈ bs := hperm.subset (List.getElem_mem _)
    have next := ih (i + 1) (by omega) ks Q hQ
    simp (disch := omega) [ints_len, e3, ints_get, g1, Has_pv, hmem]
    cases i with
    | zero =>
      simp (disch := omega)
      simpa using next
    | succ i =>
      have e4 : i < o.length := by omega
      have g2 := List.getElem?_eq_getElem e4
      have hs := List.pairwise_iff_getElem.1 hsort i (i + 1) e4 e1 (by omega)
      have hq := cmpV_lt l o[i + 1] o[i]
      have hq2 : ¬ (cnt l o[i + 1] < cnt l o[i] ∨ cnt l o[i + 1] = cnt l o[i] ∧ o[i + 1] < o[i]) := fun h => hs (hq.2 h)
      have e5 : ((i : Int) + 1 - 1) = i := by omega
      have c1 : ¬ cnt l o[i + 1] < cnt l o[i] := by omega
      simp (disch := omega) [ints_get, g1, g2, e5, RCount_p, c1]
      refine Xg_dec (fun c2 => ?_) (fun c2 => ?_)
      · have c3 : ¬ o[i + 1] < o[i] := by omega
        simp (disch := omega) [ints_get, g1, g2, e5, RCount_p, c2, c3]
        simpa using next
      · simp (disch := omega) [c2]
        simpa using next

theorem VictimGains_run (bs : List Int) (l : List (Int × Int)) (pages : Int) (hb : bs.length < 4611686018427387904) (hl : l.length < 4611686018427387904) :
    ∃ h', Run T f_law22_VictimGains [.ps 1 (ints bs), .ps 2 (pls l), .int .i64 pages] [] (.bool true) h' := by
  refine Run.startE t_law22_VictimGains ?_
  unfold k_law22_VictimGains
  obtain ⟨ha, haw⟩ := awake22
  have hawk : ∀ {ks ops K e h Q} {d : Nat}, Xp T f_law22_awake (some ([], false)) h (some d) ops K ks e Q = Xo T ops K ks ((d, .bool true) :: e) h Q := fun {_ _ _ _ _ _ _} => Xp_run haw rfl rfl rfl
  simp (disch := omega)
  rw [Xp_run (light22 bs l [] hb hl) (by simp [ints_hfs, pls_hfs]) rfl (by simp [scalar])]
  simp (disch := omega)
  by_cases c2 : bs.length ≤ 40 ∧ l.length ≤ 100
  · simp (disch := omega) [c2]
    refine Xb_dec (fun c3 => ?_) (fun c3 => ?_)
    · simp (disch := omega) [hawk]
    · simp (disch := omega)
      have := gains_loop bs l pages [] (by omega) (by omega) (by omega) bs.length 0 0 (by omega) (by omega) (by omega) rfl
      refine this _ _ fun e => ?_
      simp (disch := omega)
      obtain ⟨o, h1, hp, hs, hrun⟩ := Order_run bs l (by omega) (by omega)
      rw [Xp_run hrun (by simp [ints_hfs, pls_hfs]) (by simp [ints_hfs]) (by simp)]
      have hol : o.length = bs.length := hp.length_eq
      simp (disch := omega) [ints_len, hol]
      refine order_loop bs o l pages _ [] (by omega) (by omega) hp hs bs.length 0 (by omega) _ _ fun e => ?_
      simp (disch := omega) [hawk]
      rw [Xp_run (Total_run l pages bs (by omega) (by omega) (by omega) []) (by simp [ints_hfs, pls_hfs]) (by simp) (by simp [scalar])]
      simp (disch := omega)
  · by_cases c5 : bs.length ≤ 40
    · have c6 : ¬ l.length ≤ 100 := fun h => c2 ⟨c5, h⟩
      simp (disch := omega) [c5, c6, hawk]
    · simp (disch := omega) [c5, hawk]

/-- A slice of places is one of pairs. -/
theorem Ty.pls {b : Nat} {x : V} (h : Ty (.sl true b [.i .i64, .i .i64]) x) : ∃ l : List (Int × Int), x = .ps 2 (pls l) ∧ l.length * b ≤ 140737488351232 := by
  obtain ⟨xs, rfl, h1, h2⟩ := h.elems_agg
  obtain ⟨l, rfl, hl⟩ := exists_map (fun p : Int × Int => V.agg [.int .i64 p.1, .int .i64 p.2]) (fun _ => True) xs fun y hy => by
    obtain ⟨vs, rfl, hr⟩ := h2 y hy
    obtain ⟨v1, r1, rfl, t1, hr⟩ := hr.cons
    obtain ⟨v2, r2, rfl, t2, hr⟩ := hr.cons
    rw [hr.none]
    obtain ⟨k, rfl, _⟩ := t1.int
    obtain ⟨n, rfl, _⟩ := t2.int
    exact ⟨(k, n), rfl, trivial⟩
  exact ⟨l, rfl, by simpa using h1⟩
theorem law_VictimPicks (x0 x1 x2 : V) (h0 : Ty (.sl false 8 [.i .i64]) x0) (h1 : Ty (.sl true 16 [.i .i64, .i .i64]) x1) (h2 : Ty (.i .i64) x2) : ∃ h', Run T f_law22_VictimPicks [x0, x1, x2] [] (.bool true) h' := by
  obtain ⟨bs, rfl, hb, _⟩ := h0.ints
  obtain ⟨l, rfl, hl⟩ := h1.pls
  obtain ⟨p, rfl, _⟩ := h2.int
  exact VictimPicks_run bs l p (by omega) (by omega)
theorem law_VictimGains (x0 x1 x2 : V) (h0 : Ty (.sl false 8 [.i .i64]) x0) (h1 : Ty (.sl true 16 [.i .i64, .i .i64]) x1) (h2 : Ty (.i .i64) x2) : ∃ h', Run T f_law22_VictimGains [x0, x1, x2] [] (.bool true) h' := by
  obtain ⟨bs, rfl, hb, _⟩ := h0.ints
  obtain ⟨l, rfl, hl⟩ := h1.pls
  obtain ⟨p, rfl, _⟩ := h2.int
  exact VictimGains_run bs l p (by omega) (by omega)
end Ev
