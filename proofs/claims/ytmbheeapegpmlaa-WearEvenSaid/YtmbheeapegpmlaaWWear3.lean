/- Wear: counts that are played stay even. Each theorem states its own conditions. -/
import Derived.Test.YtmbheeapegpmlaaWWear2
set_option linter.all false
namespace Ev
open Go
set_option maxRecDepth 10000
attribute [-simp] getElem?_pos getElem?_neg

theorem Add_loop (c : List Int) (x : Int) (fl : Bool) (hc : c.length ≤ 100) (n : Nat) (hn : n ≤ 2000) : ∀ (k i : Nat) (h : Heap) (b : Nat), i + k = n → 1 ≤ i → h.row b = some (ints ((List.range i).map fun (j : Nat) => ofS c j)) → ∀ ks Q,
    (∀ h b, h.row b = some (ints ((List.range n).map fun (j : Nat) => ofS c j)) → Xk T ks (.x 0) [(0, .ps 1 (ints c)), (1, .int .i64 x), (6, .bool fl), (7, .hs 1 b 0 n), (22, .int .i64 n), (23, .int .i64 n), (24, .bool false)] h Q) →
    Xc T l_wear_Add_0 ks [(0, .ps 1 (ints c)), (1, .int .i64 x), (6, .bool fl), (7, .hs 1 b 0 i), (22, .int .i64 n), (23, .int .i64 i)] h Q := by
  intro k
  induction k with
  | zero =>
    intro i h b hk hi hr ks Q hQ
    rw [L_wear_Add_0]; unfold bl_wear_Add_0
    have e1 : i = n := by omega
    subst e1
    simp (disch := omega)
    exact hQ h b hr
  | succ k ih =>
    intro i h b hk hi hr ks Q hQ
    rw [L_wear_Add_0]; unfold bl_wear_Add_0
    have e3 : (i : Int) < n := by omega
    have hb := row_lt hr
    have hlen : (ints ((List.range i).map fun (j : Nat) => ofS c j)).length = i := by simp [ints]
    simp (disch := omega) [e3, Of_p, hr, hlen]
    have := ih (i + 1) (h.set b none ++ [some (ints ((List.range i).map fun (j : Nat) => ofS c j) ++ [V.int .i64 (ofS c i)])]) h.length (by omega) (by omega) (by
      have hl : (h.set b none).length = h.length := by simp
      rw [← hl, row_new]
      rw [List.range_succ]
      simp [ints]) ks Q hQ
    simpa using this

def addS (c : List Int) (b : Nat) : List Int := if c.getD b 0 < 65535 then c.set b (c.getD b 0 + 1) else c
theorem addS_len (c : List Int) (b : Nat) : (addS c b).length = c.length := by unfold addS; split <;> simp
theorem range_of (c : List Int) (h0 : ∀ n ∈ c, 0 ≤ n) : (List.range c.length).map (fun (j : Nat) => ofS c j) = c := by
  refine List.ext_getElem (by simp) fun i h1 h2 => ?_
  have := h0 c[i] (List.getElem_mem _)
  simp [ofS, List.getElem?_eq_getElem h2]
  omega
theorem Add_run (c : List Int) (b : Nat) (hc : c.length ≤ 100) (hb : b < c.length) (h0 : ∀ n ∈ c, 0 ≤ n) : ∃ h', Run T f_wear_Add [.ps 1 (ints c), .int .i64 b] [] (.ps 1 (ints (addS c b))) h' := by
  refine Run.startE t_wear_Add ?_
  unfold k_wear_Add
  have m1 : max (c.length : Int) ((b : Int) + 1) = c.length := by omega
  have c1 : (b : Int) ≤ 1023 := by omega
  simp (disch := omega) [c1, ints_len, m1]
  rw [L_wear_Add_0]; unfold bl_wear_Add_0
  have e3 : 0 < c.length := by omega
  simp (disch := omega) [e3, Of_p]
  have hl := Add_loop c b true hc c.length (by omega) (c.length - 1) 1 [some [.int .i64 (ofS c 0)]] 0 (by omega) (by omega) (by simp [ints])
  simp at hl
  refine hl _ _ fun h b' hr => ?_
  rw [range_of c h0] at hr
  have hrl := row_lt hr
  have hg := List.getElem?_eq_getElem hb
  simp (disch := omega) [hr, ints_get, hg]
  apply Xb_dec
  · intro c2
    have hlen : (ints c).length = c.length := ints_len c
    simp (disch := omega) [hr, ints_get, hg, hlen]
    have hset : (ints c).set b (.int .i64 (c[b] + 1)) = ints (addS c b) := by
      simp [addS, ints, List.map_set, hg, c2]
    have hx : c[b] + 1 < 9223372036854775808 := by omega
    have hx0 := h0 c[b] (List.getElem_mem _)
    simp (disch := omega) [hset]
    have hfr := freeze_hs (h := h.set b' (some (ints (addS c b)))) (b := b') (cs := ints (addS c b)) (by rw [row_set hrl]) (ints_one _)
    rw [ints_len, addS_len] at hfr
    simp [hfr]
  · intro c2
    simp (disch := omega)
    have hfr := freeze_hs hr (ints_one _)
    rw [ints_len] at hfr
    have : addS c b = c := by simp [addS, hg, c2]
    simp [hfr, this]

/-- The first of the least of the first i. -/
def lm (c : List Int) : Nat → Nat
  | 0 => 0
  | i + 1 => if c.getD i 0 < c.getD (lm c i) 0 then i else lm c i
theorem lm_lt (c : List Int) : ∀ i, 0 < i → lm c i < i
  | 0, h => by omega
  | i + 1, _ => by
    unfold lm
    split
    · omega
    · rcases Nat.eq_zero_or_pos i with h | h
      · subst h; simp [lm]
      · have := lm_lt c i h; omega
theorem lm_least (c : List Int) : ∀ i k, k < i → c.getD (lm c i) 0 ≤ c.getD k 0
  | 0, k, h => by omega
  | i + 1, k, h => by
    unfold lm
    rcases Nat.lt_or_ge k i with h1 | h1
    · have := lm_least c i k h1
      split
      · omega
      · exact this
    · have : k = i := by omega
      subst this
      split
      · omega
      · omega
theorem ofS_nat (c : List Int) (h0 : ∀ n ∈ c, 0 ≤ n) (j : Nat) : ofS c j = c.getD j 0 := by
  unfold ofS
  rw [if_neg (by omega)]
  rw [List.getD_eq_getElem?_getD, List.getD_eq_getElem?_getD]
  cases hx : c[((j : Int)).toNat]? with
  | none => simp at hx; simp [List.getElem?_eq_none hx]
  | some n =>
    have := h0 n (List.mem_of_getElem? hx)
    simp at hx
    simp [hx]
    omega
def nats (n : Nat) : List Int := (List.range n).map fun (j : Nat) => (j : Int)
theorem best_lm (c : List Int) (h0 : ∀ n ∈ c, 0 ≤ n) : ∀ i, 0 < i → bestS (aheadL c) (nats i) = (lm c i : Int)
  | 0, h => by omega
  | i + 1, _ => by
    have e : nats (i + 1) = nats i ++ [(i : Int)] := by unfold nats; rw [List.range_succ, List.map_append]; rfl
    rw [e]
    rcases Nat.eq_zero_or_pos i with h | h
    · subst h; simp [nats, bestS_one, lm]
    · have hne : nats i ≠ [] := by
        intro hh
        have := congrArg List.length hh
        simp [nats] at this
        omega
      rw [bestS_app _ _ _ hne, best_lm c h0 i h]
      have hl := lm_lt c i h
      unfold aheadL
      rw [ofS_nat c h0, ofS_nat c h0]
      have : ¬ (i : Int) < (lm c i : Int) := by omega
      rw [show lm c (i + 1) = if c.getD i 0 < c.getD (lm c i) 0 then i else lm c i from rfl]
      by_cases hc : c.getD i 0 < c.getD (lm c i) 0
      · simp only [hc, decide_true, Bool.true_or, if_true]
      · simp only [hc, decide_false, this, Bool.and_false, Bool.or_false, Bool.false_eq_true, if_false]

theorem nats_len (n : Nat) : (nats n).length = n := by simp [nats]
theorem nats_mem (n : Nat) (x : Int) : x ∈ nats n ↔ 0 ≤ x ∧ x < n := by
  unfold nats
  rw [List.mem_map]
  constructor
  · rintro ⟨j, hj, rfl⟩; rw [List.mem_range] at hj; omega
  · rintro ⟨h1, h2⟩; exact ⟨x.toNat, by rw [List.mem_range]; omega, by omega⟩

/-- A step of the play. -/
def bW (n : Nat) (gap : Int) (c : List Int) (x : Int) : Nat := if c.getD (x % n).toNat 0 - c.getD (lm c n) 0 < max gap 1 then (x % n).toNat else lm c n
def stepW (n : Nat) (gap : Int) (c : List Int) (x : Int) : List Int := c.set (bW n gap c x) (c.getD (bW n gap c x) 0 + 1)
def playW (n : Nat) (gap : Int) (c : List Int) (l : List Int) : List Int := l.foldl (stepW n gap) c

structure Even (n : Nat) (gap : Int) (m : Int) (c : List Int) : Prop where
  len : c.length = n
  ge : ∀ x ∈ c, 0 ≤ x
  le : ∀ x ∈ c, x ≤ m
  even : ∀ i k, i < n → k < n → c.getD i 0 - c.getD k 0 ≤ max gap 1
theorem stepW_len (n : Nat) (gap : Int) (c : List Int) (x : Int) : (stepW n gap c x).length = c.length := by unfold stepW; simp
theorem Even.step {n : Nat} {gap m : Int} {c : List Int} (h : Even n gap m c) (hn : 1 ≤ n) (x : Int) : Even n gap (m + 1) (stepW n gap c x) := by
  have hlm := lm_lt c n (by omega)
  have hb : (x % n).toNat < n := by
    have := Int.emod_lt_of_pos x (show (0 : Int) < n by omega)
    have := Int.emod_nonneg x (show (n : Int) ≠ 0 by omega)
    omega
  have hg : ∀ j, j < n → ∃ y, c.getD j 0 = y ∧ 0 ≤ y ∧ y ≤ m := fun j hj => by
    have hj' : j < c.length := by rw [h.len]; exact hj
    refine ⟨c[j], by simp [List.getElem?_eq_getElem hj'], h.ge _ (List.getElem_mem _), h.le _ (List.getElem_mem _)⟩
  unfold stepW
  generalize hbb : bW n gap c x = b
  unfold bW at hbb
  have hbn : b < n := by subst hbb; split <;> omega
  have hkey : ∀ k, k < n → c.getD b 0 + 1 - c.getD k 0 ≤ max gap 1 := fun k hk => by
    have h1 := lm_least c n k hk
    subst hbb
    split
    · omega
    · omega
  obtain ⟨y, hy1, hy2, hy3⟩ := hg b hbn
  have hget : ∀ j, j < n → (c.set b (c.getD b 0 + 1)).getD j 0 = if j = b then c.getD b 0 + 1 else c.getD j 0 := fun j hj => by
    rw [List.getD_eq_getElem?_getD, List.getElem?_set]
    by_cases hjb : b = j
    · subst hjb; simp [h.len, hbn]
    · rw [if_neg hjb, if_neg (fun e => hjb e.symm), List.getD_eq_getElem?_getD]
  refine ⟨by simp [h.len], fun z hz => ?_, fun z hz => ?_, fun i k hi hk => ?_⟩
  · rcases List.mem_or_eq_of_mem_set hz with h1 | h1
    · exact h.ge z h1
    · omega
  · rcases List.mem_or_eq_of_mem_set hz with h1 | h1
    · have := h.le z h1; omega
    · omega
  · rw [hget i hi, hget k hk]
    have h1 := h.even i k hi hk
    have h2 := hkey k hk
    by_cases hib : i = b
    · by_cases hkb : k = b
      · rw [if_pos hib, if_pos hkb]; omega
      · rw [if_pos hib, if_neg hkb]; omega
    · by_cases hkb : k = b
      · rw [if_neg hib, if_pos hkb, ← hkb]; omega
      · rw [if_neg hib, if_neg hkb]; omega
theorem even0 (n : Nat) (gap : Int) : Even n gap 0 (List.replicate n 0) := ⟨by simp, fun x hx => by rw [List.eq_of_mem_replicate hx]; omega, fun x hx => by rw [List.eq_of_mem_replicate hx]; omega, fun i k hi hk => by
  simp [List.getElem?_replicate, hi, hk]; omega⟩
theorem Even.play {n : Nat} {gap : Int} (hn : 1 ≤ n) : ∀ (l : List Int) {m : Int} {c : List Int}, Even n gap m c → Even n gap (m + l.length) (playW n gap c l)
  | [], m, c, h => by simpa [playW] using h
  | x :: r, m, c, h => by
    have := Even.play hn r (h.step hn x)
    rw [show m + ((x :: r).length : Nat) = m + 1 + (r.length : Nat) by simp; omega]
    exact this

theorem Play_loop0 (n : Nat) (hn : n ≤ 64) (gap : Int) (asked : V) (h : Heap) : ∀ (k i : Nat), i + k = n → ∀ ks Q,
    Xk T ks (.x 0) [(0, .int .i64 n), (1, .int .i64 gap), (2, asked), (7, .ps 1 (ints (nats n))), (19, .int .i64 n), (20, .int .i64 n), (21, .bool false)] h Q →
    Xc T l_wear_Play_0 ks [(0, .int .i64 n), (1, .int .i64 gap), (2, asked), (7, .ps 1 (ints (nats i))), (19, .int .i64 n), (20, .int .i64 i)] h Q := by
  intro k
  induction k with
  | zero =>
    intro i hk ks Q hQ
    rw [L_wear_Play_0]; unfold bl_wear_Play_0
    have e1 : i = n := by omega
    subst e1
    simp (disch := omega)
    exact hQ
  | succ k ih =>
    intro i hk ks Q hQ
    rw [L_wear_Play_0]; unfold bl_wear_Play_0
    have e3 : (i : Int) < n := by omega
    have e4 : (ints (nats i)).length = i := by simp [ints, nats]
    simp (disch := omega) [e3, e4]
    have := ih (i + 1) (by omega) ks Q hQ
    have e : nats (i + 1) = nats i ++ [(i : Int)] := by unfold nats; rw [List.range_succ, List.map_append]; rfl
    rw [e] at this
    simpa [ints] using this

theorem emod_go (x : Int) (n : Nat) (hn : 1 ≤ n) : (x.tmod n + n).tmod n = x % n := by
  rw [Int.tmod_eq_emod_of_nonneg (by have := Int.lt_tmod_of_pos x (show (0 : Int) < n by omega); omega)]
  rw [Int.add_emod_right]
  rw [Int.tmod_def, Int.sub_emod, Int.mul_emod_right]
  simp

theorem Play_loop1 (n : Nat) (h1 : 1 ≤ n) (hn : n ≤ 64) (gap : Int) (asked : List Int) (ha : asked.length ≤ 60000) (h : Heap) : ∀ (k i : Nat) (c : List Int), i + k = asked.length → Even n gap i c → ∀ ks Q,
    Xk T ks (.x 2) [(0, .int .i64 n), (1, .int .i64 gap), (7, .ps 1 (ints (nats n))), (9, .ps 1 (ints (playW n gap c (asked.drop i)))), (30, .ps 1 (ints asked)), (31, .int .i64 asked.length), (32, .int .i64 asked.length), (33, .bool false)] h Q →
    Xc T l_wear_Play_1 ks [(0, .int .i64 n), (1, .int .i64 gap), (7, .ps 1 (ints (nats n))), (9, .ps 1 (ints c)), (30, .ps 1 (ints asked)), (31, .int .i64 asked.length), (32, .int .i64 i)] h Q := by
  intro k
  induction k with
  | zero =>
    intro i c hk he ks Q hQ
    rw [L_wear_Play_1]; unfold bl_wear_Play_1
    have e1 : i = asked.length := by omega
    subst e1
    simp (disch := omega)
    simpa [playW] using hQ
  | succ k ih =>
    intro i c hk he ks Q hQ
    rw [L_wear_Play_1]; unfold bl_wear_Play_1
    have e1 : i < asked.length := by omega
    have e3 : (i : Int) < asked.length := by omega
    have da : asked.drop i = asked[i] :: asked.drop (i + 1) := List.drop_eq_getElem_cons e1
    have hcl := he.len
    have hci : ∀ x ∈ c, x ≤ 9223372036854775807 := fun x hx => by have := he.le x hx; omega
    have hnz : (n : Int) ≠ 0 := by omega
    have hl := nats_len n
    have t1 := Int.lt_tmod_of_pos asked[i] (show (0 : Int) < n by omega)
    have t2 := Int.tmod_lt_of_pos asked[i] (show (0 : Int) < n by omega)
    have t3 := emod_go asked[i] n h1
    have t4 := Int.emod_lt_of_pos asked[i] (show (0 : Int) < n by omega)
    have t5 := Int.emod_nonneg asked[i] hnz
    have hlm := lm_lt c n (by omega)
    have hbl := best_lm c he.ge n (by omega)
    have hnat : ((asked[i] % n).toNat : Int) = asked[i] % n := by omega
    have hof1 := ofS_nat c he.ge (asked[i] % n).toNat
    rw [hnat] at hof1
    have hof2 := ofS_nat c he.ge (lm c n)
    have hstep := ih (i + 1) (stepW n gap c asked[i]) (by omega) (by have := he.step h1 asked[i]; simpa using this) ks Q (by
      rw [da] at hQ; exact hQ)
    have hlt : ∀ b, b < n → c.getD b 0 < 65535 := fun b hb => by
      have hb' : b < c.length := by omega
      have := he.le c[b] (List.getElem_mem _)
      simp [List.getElem?_eq_getElem hb']
      omega
    simp (disch := omega) [e3, ints_get, List.getElem?_eq_getElem e1, hnz, t3, May_p, mayS, nats_mem, t4, t5, hbl, hof1, hof2]
    have hadd : ∀ b, b < n → ∃ h', Run T f_wear_Add [.ps 1 (ints c), .int .i64 b] [] (.ps 1 (ints (c.set b (c.getD b 0 + 1)))) h' := fun b hb => by
      have := Add_run c b (by omega) (by omega) he.ge
      unfold addS at this
      rw [if_pos (hlt b hb)] at this
      exact this
    apply Xb_decn
    · intro c1
      have hw : bW n gap c asked[i] = lm c n := by
        unfold bW
        rw [if_neg (by simpa using c1)]
      obtain ⟨h', ha⟩ := hadd (lm c n) hlm
      simp (disch := omega) [Least_p, hbl]
      rw [Xp_run ha (by simp [ints_hfs]) (by simp [ints_hfs]) (by simp)]
      simp (disch := omega)
      unfold stepW at hstep
      rw [hw] at hstep
      simpa using hstep
    · intro c1
      have hw : bW n gap c asked[i] = (asked[i] % n).toNat := by
        unfold bW
        rw [if_pos (by simpa using c1)]
      obtain ⟨h', ha⟩ := hadd (asked[i] % n).toNat (by omega)
      rw [hnat] at ha
      simp (disch := omega)
      rw [Xp_run ha (by simp [ints_hfs]) (by simp [ints_hfs]) (by simp)]
      simp (disch := omega)
      unfold stepW at hstep
      rw [hw] at hstep
      simpa using hstep
theorem Play_run (n : Nat) (h1 : 1 ≤ n) (hn : n ≤ 64) (gap : Int) (asked : List Int) (ha : asked.length ≤ 60000) (h : Heap) :
    Run T f_wear_Play [.int .i64 n, .int .i64 gap, .ps 1 (ints asked)] h (.ps 1 (ints (playW n gap (List.replicate n 0) asked))) h := by
  refine Run.start t_wear_Play ?_
  unfold k_wear_Play
  have c1 : ¬ (n : Int) < 1 := by omega
  have c2 : ¬ (64 : Int) < n := by omega
  have c3 : ¬ (n : Int) = 0 := by omega
  have c4 : n ≠ 0 := by omega
  have c5 : ¬ 64 < n := by omega
  simp (disch := omega) [c1, c2, c4, c5]
  have l0 := Play_loop0 n hn gap (.ps 1 (ints asked)) h n 0 (by omega)
  simp [nats, ints] at l0
  simp [ints]
  refine l0 _ _ ?_
  have l1 := Play_loop1 n h1 hn gap asked ha h asked.length 0 (List.replicate n 0) (by omega) (by simpa using even0 n gap)
  simp [nats, ints, Function.comp_def] at l1
  simp (disch := omega) [Function.comp_def]
  refine l1 _ _ ?_
  simp (disch := omega)
theorem Play_none (n gap : Int) (asked : V) (hn : n < 1 ∨ 64 < n) (h : Heap) : Run T f_wear_Play [.int .i64 n, .int .i64 gap, asked] h (.ps 1 []) h := by
  refine Run.start t_wear_Play ?_
  unfold k_wear_Play
  rcases hn with c | c
  · simp (disch := omega) [c]
  · have c1 : ¬ n < 1 := by omega
    simp (disch := omega) [c, c1]

theorem RPlay_loop0 (n : Nat) (hn : n ≤ 64) (gap : Int) (asked v9 v8 : V) (b : Nat) (c : List Int) (hc : c.length = n) (h : Heap) (hr : h.row b = some (ints c)) : ∀ (k i : Nat), i + k = n → ∀ ks Q,
    Xk T ks (.x 2) [(0, .int .i64 n), (1, .int .i64 gap), (2, asked), (7, .hs 1 b 0 n), (8, v8), (9, v9), (10, .int .i64 (lm c n)), (11, .int .i64 n), (34, .bool false)] h Q →
    Xc T l_ref21_Play_0 ks [(0, .int .i64 n), (1, .int .i64 gap), (2, asked), (7, .hs 1 b 0 n), (8, v8), (9, v9), (10, .int .i64 (lm c i)), (11, .int .i64 i)] h Q := by
  intro k
  induction k with
  | zero =>
    intro i hk ks Q hQ
    rw [L_ref21_Play_0]; unfold bl_ref21_Play_0
    have e1 : i = n := by omega
    subst e1
    simp (disch := omega)
    exact hQ
  | succ k ih =>
    intro i hk ks Q hQ
    rw [L_ref21_Play_0]; unfold bl_ref21_Play_0
    have e1 : i < c.length := by omega
    have e3 : (i : Int) < n := by omega
    have hlm : lm c i < c.length := by
      rcases Nat.eq_zero_or_pos i with h | h
      · subst h; simp [lm]; omega
      · have := lm_lt c i h; omega
    have e5 : (lm c i : Int) < n := by omega
    have := ih (i + 1) (by omega) ks Q hQ
    have hs : lm c (i + 1) = if c.getD i 0 < c.getD (lm c i) 0 then i else lm c i := rfl
    rw [hs] at this
    simp (disch := omega) [e3, hr, ints_get, List.getElem?_eq_getElem e1, List.getElem?_eq_getElem hlm]
    have g1 : c.getD i 0 = c[i] := by simp [List.getElem?_eq_getElem e1]
    have g2 : c.getD (lm c i) 0 = c[lm c i] := by simp [List.getElem?_eq_getElem hlm]
    rw [g1, g2] at this
    apply Xb_dec
    · intro c1
      simp (disch := omega)
      rw [if_pos c1] at this
      simpa using this
    · intro c1
      simp (disch := omega)
      rw [if_neg c1] at this
      simpa using this
theorem RPlay_loop1 (n : Nat) (h1 : 1 ≤ n) (hn : n ≤ 64) (gap : Int) (asked : List Int) (ha : asked.length ≤ 60000) : ∀ (k i : Nat) (c : List Int) (b : Nat) (h : Heap), i + k = asked.length → Even n gap i c → h.row b = some (ints c) → ∀ ks Q,
    (∀ h b, h.row b = some (ints (playW n gap c (asked.drop i))) → Xk T ks (.x 0) [(0, .int .i64 n), (1, .int .i64 gap), (2, .ps 1 (ints asked)), (7, .hs 1 b 0 n), (8, .int .i64 asked.length), (18, .bool false)] h Q) →
    Xc T l_ref21_Play_1 ks [(0, .int .i64 n), (1, .int .i64 gap), (2, .ps 1 (ints asked)), (7, .hs 1 b 0 n), (8, .int .i64 i)] h Q := by
  intro k
  induction k with
  | zero =>
    intro i c b h hk he hr ks Q hQ
    rw [L_ref21_Play_1]; unfold bl_ref21_Play_1
    have e1 : i = asked.length := by omega
    subst e1
    simp (disch := omega) [ints_len]
    exact hQ h b (by simpa [playW] using hr)
  | succ k ih =>
    intro i c b h hk he hr ks Q hQ
    rw [L_ref21_Play_1]; unfold bl_ref21_Play_1
    have e1 : i < asked.length := by omega
    have e3 : (i : Int) < asked.length := by omega
    have da0 : asked.drop i = asked[i] :: asked.drop (i + 1) := List.drop_eq_getElem_cons e1
    obtain ⟨x, hx⟩ : ∃ x, asked[i] = x := ⟨_, rfl⟩
    have hgx : asked[i]? = some x := by rw [List.getElem?_eq_getElem e1, hx]
    have da : asked.drop i = x :: asked.drop (i + 1) := by rw [da0, hx]
    clear hx da0
    have hcl := he.len
    have hnz : (n : Int) ≠ 0 := by omega
    have t1 := Int.lt_tmod_of_pos x (show (0 : Int) < n by omega)
    have t2 := Int.tmod_lt_of_pos x (show (0 : Int) < n by omega)
    have t4 := Int.emod_lt_of_pos x (show (0 : Int) < n by omega)
    have t5 := Int.emod_nonneg x hnz
    have hlm := lm_lt c n (by omega)
    have hrl := row_lt hr
    refine lift (R := ?R) (fun hR => ?main) ?rest
    case main =>
      simp (disch := omega) [ints_len, e3, ints_get, hgx, hnz]
      apply Xb_dec
      · intro c1
        have hm : x.tmod n + n = x % n := by
          rw [Int.tmod_eq_emod] at c1 ⊢
          split at c1
          · omega
          · rename_i hh; rw [if_neg hh]; simp
        simp (disch := omega) [hm]
        exact hR trivial
      · intro c1
        have hm : x.tmod n = x % n := by
          rw [Int.tmod_eq_emod] at c1 ⊢
          split at c1
          · rename_i hh; rw [if_pos hh]; simp
          · simp at c1; omega
        simp (disch := omega) [hm]
        exact hR trivial
    case rest =>
      have l0 := RPlay_loop0 n hn gap (.ps 1 (ints asked)) (.int .i64 (x % n)) (.int .i64 i) b c hcl h hr n 0 (by omega)
      simp [lm] at l0
      refine l0 _ _ ?_
      have hb' : (x % n).toNat < c.length := by omega
      have hlm' : lm c n < c.length := by omega
      have g1 : c.getD (x % n).toNat 0 = c[(x % n).toNat] := by simp [List.getElem?_eq_getElem hb']
      have g2 : c.getD (lm c n) 0 = c[lm c n] := by simp [List.getElem?_eq_getElem hlm']
      have d1 := he.le c[(x % n).toNat] (List.getElem_mem _)
      have d2 := he.le c[lm c n] (List.getElem_mem _)
      have d3 := he.ge c[(x % n).toNat] (List.getElem_mem _)
      have d4 := he.ge c[lm c n] (List.getElem_mem _)
      have hcn : ∀ h' : Heap, h'.row b = some (ints c) → hsCells h' 1 b 0 n = some (ints c) := fun h' hr' => by
        rw [hs_cells hr' (by rw [ints_len]; omega)]
        simp
        rw [← hcl, ← ints_len c, List.take_length]
      have hcn1 := hcn (h ++ [some []]) (by rw [row_app hrl]; exact hr)
      have hrow2 : Heap.row (h ++ [none, some (ints c)]) (h.length + 1) = some (ints c) := by
        have := row_new (h := h ++ [none]) (o := some (ints c))
        simpa using this
      simp (disch := omega) [hr, ints_get, List.getElem?_eq_getElem hb', List.getElem?_eq_getElem hlm', High_p]
      have fin : ∀ (j : Nat), j = bW n gap c x → j < n → ∀ g : Heap, Xc T l_ref21_Play_1 ks [(0, .int .i64 n), (1, .int .i64 gap), (2, .ps 1 (ints asked)), (7, .hs 1 g.length 0 n), (8, .int .i64 (i + 1))] (g ++ [some (ints (c.set j (c.getD j 0 + 1)))]) Q := by
        intro j hj hjn g
        subst hj
        have := ih (i + 1) (stepW n gap c x) g.length (g ++ [some (ints (stepW n gap c x))]) (by omega) (by have := he.step h1 x; simpa using this) (by rw [row_new]) ks Q (by rw [da] at hQ; exact hQ)
        unfold stepW at this
        simpa using this
      apply Xb_dec
      · intro c1
        have hw : lm c n = bW n gap c x := by
          unfold bW
          rw [if_neg (by rw [g1, g2]; omega)]
        have hset : (ints c).set (lm c n) (.int .i64 (c[lm c n] + 1)) = ints (c.set (lm c n) (c.getD (lm c n) 0 + 1)) := by rw [g2]; simp [ints, List.map_set]
        have hf := fin _ hw hlm (h ++ [none])
        rw [g2] at hf hset
        simp (disch := omega) [hcn1, ints_len, hcl, hrow2, ints_get, List.getElem?_eq_getElem hlm', hset]
        simpa using hf
      · intro c1
        have hw : (x % n).toNat = bW n gap c x := by
          unfold bW
          rw [if_pos (by rw [g1, g2]; omega)]
        have hset : (ints c).set (x % n).toNat (.int .i64 (c[(x % n).toNat] + 1)) = ints (c.set (x % n).toNat (c.getD (x % n).toNat 0 + 1)) := by rw [g1]; simp [ints, List.map_set]
        have hf := fin _ hw (by omega) (h ++ [none])
        rw [g1] at hf hset
        simp (disch := omega) [hcn1, ints_len, hcl, hrow2, ints_get, List.getElem?_eq_getElem hb', hset]
        simpa using hf

theorem RPlay_run (n : Nat) (h1 : 1 ≤ n) (hn : n ≤ 64) (gap : Int) (asked : List Int) (ha : asked.length ≤ 60000) :
    ∃ h', Run T f_ref21_Play [.int .i64 n, .int .i64 gap, .ps 1 (ints asked)] [] (.ps 1 (ints (playW n gap (List.replicate n 0) asked))) h' := by
  refine Run.startE t_ref21_Play ?_
  unfold k_ref21_Play
  simp (disch := omega)
  have he := even0 n gap
  have hp := (he.play h1 asked).len
  have hr0 : ints (List.replicate n 0) = List.replicate n (V.int .i64 0) := by simp [ints]
  have l1 := RPlay_loop1 n h1 hn gap asked ha asked.length 0 (List.replicate n 0) 0 [some (List.replicate n (.int .i64 0))] (by omega) (by simpa using he) (by simp [hr0])
  simp at l1
  refine l1 _ _ fun h b hr => ?_
  have hfr := freeze_hs hr (ints_one _)
  rw [ints_len, hp] at hfr
  simp (disch := omega) [hfr]

theorem even_in (n : Nat) (gap : Int) (m : Int) (c : List Int) (he : Even n gap m c) (hm : m ≤ 1000) (hn : n ≤ 100) (i : Nat) (hi : i < n) (v2 : V) (h : Heap) : ∀ (w k : Nat), k + w = n → ∀ ks Q,
    Xk T ks (.x 2) [(1, .int .i64 gap), (2, v2), (8, .ps 1 (ints c)), (9, .int .i64 i), (10, .int .i64 n), (40, .bool false)] h Q →
    Xc T l_law21_WearEven_0 ks [(1, .int .i64 gap), (2, v2), (8, .ps 1 (ints c)), (9, .int .i64 i), (10, .int .i64 k)] h Q := by
  intro w
  induction w with
  | zero =>
    intro k hk ks Q hQ
    rw [L_law21_WearEven_0]; unfold bl_law21_WearEven_0
    have e1 : k = n := by omega
    subst e1
    simp (disch := omega) [ints_len, he.len]
    exact hQ
  | succ w ih =>
    intro k hk ks Q hQ
    rw [L_law21_WearEven_0]; unfold bl_law21_WearEven_0
    have hk1 : k < c.length := by have := he.len; omega
    have hi1 : i < c.length := by have := he.len; omega
    have e3 : (k : Int) < n := by omega
    have g1 : c.getD i 0 = c[i] := by simp [List.getElem?_eq_getElem hi1]
    have g2 : c.getD k 0 = c[k] := by simp [List.getElem?_eq_getElem hk1]
    have hev := he.even i k hi (by omega)
    rw [g1, g2] at hev
    have d1 := he.le c[i] (List.getElem_mem _)
    have d2 := he.le c[k] (List.getElem_mem _)
    have d3 := he.ge c[i] (List.getElem_mem _)
    have d4 := he.ge c[k] (List.getElem_mem _)
    have c1 : ¬ max gap 1 < c[i] - c[k] := by omega
    simp (disch := omega) [ints_len, he.len, e3, ints_get, List.getElem?_eq_getElem hk1, List.getElem?_eq_getElem hi1, High_p, c1]
    have := ih (k + 1) (by omega) ks Q hQ
    simpa using this
theorem even_out (n : Nat) (gap : Int) (m : Int) (c : List Int) (he : Even n gap m c) (hm : m ≤ 1000) (hn : n ≤ 100) (v2 : V) (h : Heap) : ∀ (w i : Nat), i + w = n → ∀ ks Q,
    (∀ e, Xk T ks (.x 0) ((1, .int .i64 gap) :: (2, v2) :: e) h Q) →
    Xc T l_law21_WearEven_1 ks [(1, .int .i64 gap), (2, v2), (8, .ps 1 (ints c)), (9, .int .i64 i)] h Q := by
  intro w
  induction w with
  | zero =>
    intro i hk ks Q hQ
    rw [L_law21_WearEven_1]; unfold bl_law21_WearEven_1
    have e1 : i = n := by omega
    subst e1
    simp (disch := omega) [ints_len, he.len]
    exact hQ _
  | succ w ih =>
    intro i hk ks Q hQ
    rw [L_law21_WearEven_1]; unfold bl_law21_WearEven_1
    have e3 : (i : Int) < n := by omega
    simp (disch := omega) [ints_len, he.len, e3]
    have hin := even_in n gap m c he hm hn i (by omega) v2 h n 0 (by omega)
    simp at hin
    refine hin _ _ ?_
    simp (disch := omega)
    have := ih (i + 1) (by omega) ks Q hQ
    simpa using this

theorem WearEven_run (t gap : Int) (asked : List Int) (h0 : 0 ≤ t) (h1 : t < 256) (ha : asked.length < 4611686018427387904) : ∃ h', Run T f_law21_WearEven [.int .u8 t, .int .i64 gap, .ps 1 (ints asked)] [] (.bool true) h' := by
  refine Run.startE t_law21_WearEven ?_
  unfold k_law21_WearEven
  obtain ⟨ha', haw⟩ := awake21
  have hm : t.tmod 12 = t % 12 := Int.tmod_eq_emod_of_nonneg h0
  obtain ⟨n, hn⟩ : ∃ n : Nat, t % 12 + 1 = n := ⟨(t % 12 + 1).toNat, by omega⟩
  have n1 : 1 ≤ n := by omega
  have n2 : n ≤ 12 := by omega
  simp (disch := omega) [hm, hn, ints_len]
  refine share (fun l : List Int => l.length ≤ 200) ?R (fun hR => ?main) ?rest
  case main =>
    apply Xb_dec
    · intro c1
      have e : (ints asked).take 200 = ints (asked.take 200) := by simp [ints, List.map_take]
      simp (disch := omega) [ints_len, e]
      generalize hl : asked.take 200 = l
      have hll : l.length ≤ 200 := by rw [← hl, List.length_take]; omega
      exact hR l hll
    · intro c1
      simp (disch := omega)
      exact hR asked (by omega)
  case rest =>
    intro l hl
    have hp := Play_run n n1 (by omega) gap l (by omega) []
    obtain ⟨h', hr⟩ := RPlay_run n n1 (by omega) gap l (by omega)
    have he := (even0 n gap).play n1 l
    have hpl := he.len
    rw [Xp_run hp (by simp [ints_hfs]) (by simp [ints_hfs]) (by simp)]
    simp (disch := omega)
    rw [Xp_run hr (by simp [ints_hfs]) (by simp [ints_hfs]) (by simp)]
    simp (disch := omega) [Ints_p]
    have ho := even_out n gap _ _ he (by omega) (by omega) (.ps 1 (ints l)) [] n 0 (by omega)
    simp at ho
    refine ho _ _ fun e => ?_
    simp (disch := omega)
    rw [Xp_run haw rfl rfl rfl]
    simp (disch := omega)
    rw [Xp_run (Play_none 0 gap (.ps 1 (ints l)) (by omega) []) (by simp [ints_hfs]) (by simp) (by simp)]
    simp (disch := omega)
    rw [Xp_run (Play_none 65 gap (.ps 1 (ints l)) (by omega) []) (by simp [ints_hfs]) (by simp) (by simp)]
    simp (disch := omega)
theorem law_WearEven (x0 x1 x2 : V) (h0 : Ty (.i .u8) x0) (h1 : Ty (.i .i64) x1) (h2 : Ty (.sl false 8 [.i .i64]) x2) : ∃ h', Run T f_law21_WearEven [x0, x1, x2] [] (.bool true) h' := by
  obtain ⟨n, rfl, hn1, hn2⟩ := h0.int
  obtain ⟨g, rfl, _⟩ := h1.int
  obtain ⟨l, rfl, hl, _⟩ := h2.ints
  have : IntKind.u8.min = 0 := rfl
  have : IntKind.u8.max = 255 := rfl
  exact WearEven_run n g l (by omega) (by omega) (by omega)
theorem law_WearFinds (x0 : V) (h0 : ∃ vs, x0 = .agg vs ∧ Row [.sl false 8 [.i .i64], .sl false 8 [.i .i64], .i .i64, .i .i64] vs) : ∃ h', Run T f_law21_WearFinds [x0] [] (.bool true) h' := by
  obtain ⟨vs, rfl, hr⟩ := h0
  obtain ⟨v1, r1, rfl, t1, hr⟩ := hr.cons
  obtain ⟨v2, r2, rfl, t2, hr⟩ := hr.cons
  obtain ⟨v3, r3, rfl, t3, hr⟩ := hr.cons
  obtain ⟨v4, r4, rfl, t4, hr⟩ := hr.cons
  rw [hr.none]
  obtain ⟨l, rfl, hl, _⟩ := t1.ints
  obtain ⟨c, rfl, hc, hc2⟩ := t2.ints
  obtain ⟨b, rfl, _⟩ := t3.int
  obtain ⟨g, rfl, _⟩ := t4.int
  exact WearFinds_run l c b g (by omega) (by omega) fun n hn => (hc2 n hn).2
end Ev
