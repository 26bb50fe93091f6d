/- The sort itself. Each theorem states its own conditions. -/
import Derived.Test.YtmbheeapegpmlaaVSort8
set_option linter.all false
namespace Ev
open Go
set_option maxRecDepth 10000
attribute [-simp] getElem?_pos getElem?_neg
theorem share4 {α β γ δ : Type} {P : Prop} (C : α → β → γ → δ → Prop) (R : α → β → γ → δ → Prop) (main : (∀ a b c d, C a b c d → R a b c d) → P) (rest : ∀ a b c d, C a b c d → R a b c d) : P := main rest
theorem Xb_nb {w : Bool} {a b : ACode} {ks : List Kt} {e : Env} {h : Heap} {Q : Ex → Env → Heap → Prop} (h1 : w = false → Xc T a ks e h Q) (h2 : w = true → Xc T b ks e h Q) : Xb T (some (!w)) a b ks e h Q := by
  cases w
  · exact (Xb_dec (c := True) (fun _ => h1 rfl) (fun h => absurd trivial h))
  · exact (Xb_dec (c := False) (fun h => h.elim) (fun _ => h2 rfl))
section
variable {h0 h : Heap} {b f : Nat} {cap : List V} {c : Int → Int → Int}
theorem pdq_fun (n : Nat) (a e lim : Nat) (d : Array Int) (hd : d.size = n) (hn : n < 50) (hlim : lim < 1000) (hae : a ≤ e) (he : e ≤ n)
    (hl : ∀ ks Q, (∀ g d' env, Agree h0 b g → Sort.PermIn a e d d' → Sort.SortedIn (ltC c) a e d' → Xk T ks .r env (SD g b d') Q) →
      Xc T l_slices_pdqsortCmpFunc_int_0 ks [(0, .hs 1 b 0 n), (1, .int .i64 a), (2, .int .i64 e), (3, .int .i64 lim), (4, .fn f cap), (10, .bool true), (11, .bool true)] (SD h b d) Q) :
    ∃ g d', Agree h0 b g ∧ Sort.PermIn a e d d' ∧ Sort.SortedIn (ltC c) a e d' ∧ Run T f_slices_pdqsortCmpFunc_int [.hs 1 b 0 n, .int .i64 a, .int .i64 e, .int .i64 lim, .fn f cap] (SD h b d) (.tup []) (SD g b d') := by
  have key : ∃ v h', (v = .tup [] ∧ ∃ g d', h' = SD g b d' ∧ Agree h0 b g ∧ Sort.PermIn a e d d' ∧ Sort.SortedIn (ltC c) a e d') ∧ Run T f_slices_pdqsortCmpFunc_int [.hs 1 b 0 n, .int .i64 a, .int .i64 e, .int .i64 lim, .fn f cap] (SD h b d) v h' := by
    refine Run.startP t_slices_pdqsortCmpFunc_int ?_
    unfold k_slices_pdqsortCmpFunc_int
    simp (disch := omega)
    refine hl _ _ fun g d' env h1 h2 h3 => ?_
    simp (disch := omega)
    exact ⟨g, d', rfl, h1, h2, h3⟩
  obtain ⟨v, h', ⟨rfl, g, d', rfl, h1, h2, h3⟩, hr⟩ := key
  exact ⟨g, d', h1, h2, h3, hr⟩
set_option maxHeartbeats 4000000 in
theorem pdq_loop (hc : Cmp h0 b f cap c) (hs : Sort.SWO (ltC c)) (n : Nat) (hn : n < 50) : ∀ (m a e lim : Nat) (d : Array Int) (h : Heap) (wb wp : Bool), e - a ≤ m → a ≤ e → e ≤ n → d.size = n → lim < 1000 → Sort.Below (ltC c) a e d → Agree h0 b h → ∀ ks Q,
    (∀ g d' env, Agree h0 b g → Sort.PermIn a e d d' → Sort.SortedIn (ltC c) a e d' → Xk T ks .r env (SD g b d') Q) →
      Xc T l_slices_pdqsortCmpFunc_int_0 ks [(0, .hs 1 b 0 n), (1, .int .i64 a), (2, .int .i64 e), (3, .int .i64 lim), (4, .fn f cap), (10, .bool wb), (11, .bool wp)] (SD h b d) Q := by
  intro m
  have hf := hc.free
  induction m using Nat.strongRecOn with
  | ind m ih =>
  intro a e lim d h wb wp hm hae he hd hlim hB ha ks Q hx
  rw [L_slices_pdqsortCmpFunc_int_0]; unfold bl_slices_pdqsortCmpFunc_int_0
  obtain ⟨l, hl⟩ : ∃ l, l = e - a := ⟨_, rfl⟩
  have e1 : (e : Int) - a = (l : Int) := by omega
  have hb := hc.hb ha
  by_cases c1 : l ≤ 12
  · have c1' : (l : Int) ≤ 12 := by omega
    subst hd
    simp (disch := omega) [e1, c1, c1']
    rw [Xf_run (ins_run hc ha d a e (by omega) hae he)]
    have hi := Sort.insertionSort_holds hs d a e hae he
    simp (disch := omega)
    exact hx _ _ _ ha hi.1 hi.2
  have c1' : ¬ (l : Int) ≤ 12 := by omega
  by_cases c2 : lim = 0
  · subst hd
    simp (disch := omega) [e1, c1, c1', c2]
    rw [Xf_run (heap_run hc ha d a e (by omega) (by omega) he)]
    have hi := Sort.heapSort_holds hs d a e hae he
    simp (disch := omega)
    exact hx _ _ _ ha hi.1 hi.2
  have c2' : ¬ (lim : Int) = 0 := by omega
  simp (disch := omega) [e1, c1, c1', c2, c2']
  refine share4 (fun (g : Heap) (d1 : Array Int) (lim : Nat) (_ : List (Nat × V)) => Agree h0 b g ∧ Sort.PermIn a e d d1 ∧ lim < 1000) ?R1 (fun hR => ?main1) ?rest1
  case main1 =>
    apply Xb_nb
    · intro hw
      simp (disch := omega)
      obtain ⟨z, hz⟩ := brk_run (f := f) (cap := cap) hb d a e (by omega) (by omega) (by omega)
      rw [hd] at hz
      have haa := ha.app [some [z]]
      have hp := Sort.breakPatterns_holds d a e hae (by omega)
      obtain ⟨d1, hd1⟩ : ∃ d1, d1 = Sort.breakPatterns d a e := ⟨_, rfl⟩
      obtain ⟨g, hg⟩ : ∃ g, g = h ++ [some [z]] := ⟨_, rfl⟩
      rw [← hd1, ← hg] at hz
      rw [← hd1] at hp
      rw [← hg] at haa
      rw [Xf_run hz]
      obtain ⟨lim', hlim'⟩ : ∃ lim', lim' = lim - 1 := ⟨_, rfl⟩
      have e2 : (lim : Int) - 1 = (lim' : Int) := by omega
      simp (disch := omega) [e2]
      generalize ([] : List (Nat × V)) = tl
      exact hR g d1 lim' tl ⟨haa, hp, by omega⟩
    · intro hw
      simp (disch := omega)
      generalize [((39 : Nat), V.bool (!wb))] = tl
      exact hR h d lim tl ⟨ha, Sort.permIn_refl _ _ _, hlim⟩
  case rest1 =>
    intro g d1 lim tl ⟨hg, hp1, hlim⟩
    have hd1 : d1.size = n := by rw [hp1.1]; exact hd
    have hB1 := hB.perm (by omega) hp1
    obtain ⟨z, hz⟩ := choose_run hc hg d1 a e (by omega) (by omega) (by omega)
    have hpv := Sort.choosePivot_holds (ltC c) d1 a e (by omega)
    rw [hd1] at hz
    rw [Xf_run hz]
    generalize Sort.choosePivot (ltC c) d1 a e = pv at *
    obtain ⟨p, hint⟩ := pv
    obtain ⟨hp2, hp3⟩ := hpv
    simp only at hp2 hp3
    have hg1 := hg.app [some [.int .i64 z]]
    generalize g ++ [some [.int .i64 z]] = g1 at *
    simp (disch := omega)
    refine share4 (fun (d2 : Array Int) (p : Nat) (hint : Int) (_ : List (Nat × V)) => Sort.PermIn a e d d2 ∧ a ≤ p ∧ p < e) ?R2 (fun hR => ?main2) ?rest2
    case main2 =>
      refine Xb_dec ?m2a ?m2b
      case m2b =>
        intro hw
        simp (disch := omega)
        generalize [((56 : Nat), V.bool (decide (hintN hint = 2)))] = tl
        generalize hintN hint = hint
        obtain ⟨d2, hd2⟩ : ∃ d2, d2 = d1 := ⟨_, rfl⟩
        obtain ⟨p2, hpp2⟩ : ∃ p2, p2 = p := ⟨_, rfl⟩
        rw [← hd2, ← hpp2]
        exact hR d2 p2 hint tl ⟨by rw [hd2]; exact hp1, by omega, by omega⟩
      case m2a =>
        intro hw
        simp (disch := omega)
        have hr := rev_run (f := f) (cap := cap) (hc.hb hg1) d1 a e (by omega) (by omega) (by omega)
        rw [hd1] at hr
        have hp := Sort.reverseRange_holds d1 a e hae (by omega)
        obtain ⟨d2, hd2⟩ : ∃ d2, d2 = Sort.reverseRange d1 a e := ⟨_, rfl⟩
        rw [← hd2] at hr hp
        rw [Xf_run hr]
        obtain ⟨p', hp'⟩ : ∃ p', p' = e - 1 - (p - a) := ⟨_, rfl⟩
        have e2 : (e : Int) - 1 - (p - a) = (p' : Int) := by omega
        simp (disch := omega) [e2]
        exact hR d2 p' 1 [] ⟨Sort.permIn_trans _ _ _ a e hp1 hp, by omega, by omega⟩
    case rest2 =>
      intro d2 p hint tl ⟨hp4, hp5, hp6⟩
      have hd2 : d2.size = n := by rw [hp4.1]; exact hd
      have hB2 := hB.perm (by omega) hp4
      clear hz hd1 hB1 hp1 hp2 hp3 hB
      have hb1 := hc.hb hg1
      have hn2 : d2.size < 50 := by omega
      have hae2 : a < e := by omega
      have he2 : e ≤ d2.size := by omega
      have hpi := pins_run hc hg1 d2 a e hn2 hae2 he2
      have hpj := Sort.partialInsertionSort_holds hs d2 a e hae2 he2 hB2
      rw [pins_small _ _ _ _ (by omega)] at hpi hpj
      rw [hd2] at hpi
      have stop : Sort.scanSorted (ltC c) d2 e (a + 1) = e → Sort.SortedIn (ltC c) a e d2 := fun hh => hpj.2 (by simp [hh])
      simp only at hpi
      generalize hsc : decide (Sort.scanSorted (ltC c) d2 e (a + 1) = e) = sc at hpi
      have stop2 : sc = true → Sort.SortedIn (ltC c) a e d2 := fun hh => stop (of_decide_eq_true (by rw [hsc]; exact hh))
      clear hpj stop hsc
      have r1 := SD_row hb1 d2
      have gp := SD_getN d2 p (by omega)
      cases wb <;> cases wp <;> simp (disch := omega)
      rotate_left 3
      refine Xb_dec (fun hw => ?_) (fun hw => ?_)
      simp (disch := omega)
      rw [Xf_run hpi]
      simp (disch := omega)
      refine Xb_intro (fun h1 => ?_) (fun h1 => ?_)
      · simp (disch := omega)
        exact hx _ _ _ hg1 hp4 (stop2 h1)
      simp (disch := omega)
      rotate_left 1
      simp (disch := omega) [hw]
      all_goals
        refine lift (R := ?R4) (fun hR => ?main4) ?rest4
        case main4 =>
          refine Xg_dec (fun c3 => ?_) (fun c3 => ?_)
          · have i1 : ((a : Int) - 1).toNat = a - 1 := by omega
            have ga := SD_getN d2 (a - 1) (by omega)
            simp (disch := omega) [c3, i1, r1, ga, gp, hf]
            rw [Xf_run (hc.sd hg1 d2 _ _)]
            simp (disch := omega)
            refine Xb_decn (fun c4 => ?_) (fun c4 => ?_)
            · simp (disch := omega)
              have hq := parteq_run hc hg1 d2 a e p (by omega) (by omega) (by omega) hp5 hp6
              have hnl : ltC c d2[a - 1]! d2[p]! = false := decide_eq_false c4
              have hre := Sort.round_eq hs (Sort.partitionEqual_holds (ltC c)) c3 hp5 hp6 he2 hB2 hnl rfl (mid := (Sort.partitionEqual (ltC c) d2 a e p).1) (d4 := (Sort.partitionEqual (ltC c) d2 a e p).2)
              generalize Sort.partitionEqual (ltC c) d2 a e p = P at hq hre
              obtain ⟨mid, d4⟩ := P
              obtain ⟨q1, q2, q3, q4, q5⟩ := hre
              rw [hd2] at hq
              rw [Xf_run hq]
              simp (disch := omega)
              simp only at q1 q2 q3 q4 q5
              refine ih (e - mid) (by omega) mid e lim d4 g1 _ _ (Nat.le_refl _) q2 he (by rw [q3]; exact hd2) hlim q4 hg1 ks Q fun g' d' env k1 k2 k3 => ?_
              obtain ⟨k4, k5⟩ := q5 d' k2 k3
              exact hx g' d' env k1 (Sort.permIn_trans _ _ _ a e hp4 k4) k5
            · simp (disch := omega) [c4]
              exact hR trivial
          · simp (disch := omega) [c3]
            exact hR trivial
        case rest4 =>
          have hq := partn_run hc hg1 d2 a e p (by omega) (by omega) (by omega) hp5 hp6
          have hre := Sort.round_part hs (Sort.partition_holds (ltC c)) hp5 hp6 he2 hB2 rfl (mid := (Sort.partition (ltC c) d2 a e p).1) (ap := (Sort.partition (ltC c) d2 a e p).2.1) (d4 := (Sort.partition (ltC c) d2 a e p).2.2)
          generalize Sort.partition (ltC c) d2 a e p = P at hq hre
          obtain ⟨mid, ap, d4⟩ := P
          obtain ⟨q1, q2, q3, q4, q5, q6, q7⟩ := hre
          rw [hd2] at hq
          rw [Xf_run hq]
          simp only at q1 q2 q3 q4 q5 q6 q7
          simp (disch := omega)
          have hd4 : d4.size = n := by rw [q3]; exact hd2
          refine Xb_dec (fun c5 => ?_) (fun c5 => ?_)
          · simp (disch := omega)
            obtain ⟨g', d', k1, k2, k3, hrun⟩ := pdq_fun n a mid lim d4 hd4 hn hlim q1 (by omega) (fun ks Q hh => ih (mid - a) (by omega) a mid lim d4 g1 true true (Nat.le_refl _) q1 (by omega) hd4 hlim q4 hg1 ks Q hh)
            rw [Xf_run hrun]
            simp (disch := omega)
            obtain ⟨k4, k5⟩ := q6 d' k2 k3
            have := ih (e - (mid + 1)) (by omega) (mid + 1) e lim d' g' (decide ((l : Int) / 8 ≤ mid - a)) ap (Nat.le_refl _) (by omega) he (by rw [k2.1]; exact hd4) hlim k4 k1 ks Q fun g2 d5 env k6 k7 k8 => by
              obtain ⟨k9, k10⟩ := k5 d5 k7 k8
              exact hx g2 d5 env k6 (Sort.permIn_trans _ _ _ a e hp4 k9) k10
            simpa using this
          · simp (disch := omega)
            obtain ⟨g', d', k1, k2, k3, hrun⟩ := pdq_fun n (mid + 1) e lim d4 hd4 hn hlim (by omega) (by omega) (fun ks Q hh => ih (e - (mid + 1)) (by omega) (mid + 1) e lim d4 g1 true true (Nat.le_refl _) (by omega) (by omega) hd4 hlim q5 hg1 ks Q hh)
            simp only [Int.natCast_add, Int.cast_ofNat_Int] at hrun
            rw [Xf_run hrun]
            simp (disch := omega)
            obtain ⟨k4, k5⟩ := q7 d' k2 k3
            have := ih (mid - a) (by omega) a mid lim d' g' (decide ((l : Int) / 8 ≤ e - mid)) ap (Nat.le_refl _) (by omega) (by omega) (by rw [k2.1]; exact hd4) hlim k4 k1 ks Q fun g2 d5 env k6 k7 k8 => by
              obtain ⟨k9, k10⟩ := k5 d5 k7 k8
              exact hx g2 d5 env k6 (Sort.permIn_trans _ _ _ a e hp4 k9) k10
            simpa using this
theorem sortf_run (hc : Cmp h0 b f cap c) (hs : Sort.SWO (ltC c)) (ha : Agree h0 b h) (d : Array Int) (hn : d.size < 50) :
    ∃ g d', Agree h0 b g ∧ Sort.PermIn 0 d.size d d' ∧ Sort.SortedIn (ltC c) 0 d.size d' ∧ Run T f_slices_SortFunc_int_int [.hs 1 b 0 d.size, .fn f cap] (SD h b d) (.tup []) (SD g b d') := by
  have hlim := bitsLen_le d.size (by omega)
  obtain ⟨g, d', k1, k2, k3, hrun⟩ := pdq_fun (c := c) (h0 := h0) (b := b) (f := f) (cap := cap) (h := h) d.size 0 d.size (Sort.bitsLen d.size) d rfl hn (by omega) (by omega) (by omega) (fun ks Q hh => pdq_loop hc hs d.size hn d.size 0 d.size (Sort.bitsLen d.size) d h true true (by omega) (by omega) (by omega) rfl (by omega) (Or.inl rfl) ha ks Q hh)
  refine ⟨g, d', k1, k2, k3, ?_⟩
  refine Run.start t_slices_SortFunc_int_int ?_
  unfold k_slices_SortFunc_int_int
  simp (disch := omega)
  rw [Xp_run (len_run [] d.size (by omega)) (by simp) (by simp) (by simp)]
  simp (disch := omega)
  rw [Xf_run (by simpa using hrun)]
  simp (disch := omega)
end
end Ev
