/- The extent: what its functions compute. Each theorem states its own conditions. -/
import Derived.Test.YtmbheeapegpmlaaWCode
set_option linter.all false
namespace Ev
open Go
set_option maxRecDepth 10000

def fr (l : List Bool) : Int := (((l.drop 1).count false : Nat) : Int)
/-- A heap with an extent: its two cells at b, its flags at c. -/
def Xh (h : Heap) (b c : Nat) (l : List Bool) : Heap := (h.set c (some (l.map .bool))).set b (some [.hs 1 c 0 l.length, .int .i64 (fr l)])

section
variable {h : Heap} {b c : Nat} {l : List Bool}
theorem Xh_len : (Xh h b c l).length = h.length := by simp [Xh]
theorem Xh_b (hb : b < h.length) : (Xh h b c l).row b = some [.hs 1 c 0 l.length, .int .i64 (fr l)] := by
  unfold Xh; rw [row_set (by simpa using hb)]
theorem Xh_c (hc : c < h.length) (hn : b ≠ c) : (Xh h b c l).row c = some (l.map .bool) := by
  unfold Xh; rw [row_ne hn, row_set hc]
theorem Xh_set (hn : b ≠ c) (X Y : Option (List V)) : ((Xh h b c l).set c X).set b Y = (h.set c X).set b Y := by
  unfold Xh
  rw [List.set_comm _ _ hn, List.set_set, List.set_set]
theorem fr_set (p : Nat) (t : Bool) (h1 : 1 ≤ p) (h2 : p < l.length) (h3 : l[p]? = some (!t)) : fr (l.set p t) = if t then fr l - 1 else fr l + 1 := by
  unfold fr
  rw [List.drop_set, if_neg (by omega), List.count_set (by simp; omega)]
  have hg : (l.drop 1)[p - 1]'(by simp; omega) = !t := by
    rw [List.getElem?_eq_some_iff] at h3
    obtain ⟨_, h3⟩ := h3
    rw [List.getElem_drop, ← h3]
    congr 1; omega
  rw [hg]
  cases t with
  | false => simp
  | true =>
    have : 0 < (l.drop 1).count false := List.count_pos_iff.2 (by rw [← Bool.not_true, ← hg]; exact List.getElem_mem _)
    generalize List.count false (List.drop 1 l) = k at *
    simp
    omega
theorem fr_le : fr l ≤ l.length := by
  unfold fr
  have := List.count_le_length (a := false) (l := l.drop 1)
  rw [List.length_drop] at this
  omega
theorem fr_ge : 0 ≤ fr l := by unfold fr; omega

theorem right_run (p : Int) (hb : b < h.length) : Run T f_extent_Extent_right [.ptr b 0, .int .i64 p] (Xh h b c l) (.bool (decide (1 ≤ p ∧ p < l.length))) (Xh h b c l) := by
  refine Run.start t_extent_Extent_right ?_
  unfold k_extent_Extent_right
  simp (disch := omega) [Xh_b hb]
  apply Xg_dec
  · intro h1
    simp (disch := omega) [h1, Xh_b hb]
  · intro h1
    simp (disch := omega) [h1, Xh_b hb]

theorem rightn_run (p : Int) (h : Heap) : Run T f_extent_Extent_right [.nilp, .int .i64 p] h (.bool false) h := by
  refine Run.start t_extent_Extent_right ?_
  unfold k_extent_Extent_right
  simp (disch := omega)

theorem set_run (p : Nat) (t : Bool) (hb : b < h.length) (hc : c < h.length) (hn : b ≠ c) (hl : l.length ≤ 65536) (h1 : 1 ≤ p) (h2 : p < l.length) (h3 : l[p]? = some (!t)) :
    Run T f_extent_Extent_set [.ptr b 0, .int .i64 p, .bool t] (Xh h b c l) (.tup []) (Xh h b c (l.set p t)) := by
  refine Run.start t_extent_Extent_set ?_
  unfold k_extent_Extent_set
  have e1 := @fr_le l
  have e2 := @fr_ge l
  have e3 := Xh_c hc hn (h := h) (l := l)
  have e4 := Xh_b hb (h := h) (l := l) (c := c)
  have e5 : b < (Xh h b c l).length := by rw [Xh_len]; exact hb
  have e6 : c < (Xh h b c l).length := by rw [Xh_len]; exact hc
  cases t with
  | true =>
    simp (disch := omega) [e3, e4, e5, e6, hn]
    rw [Xh_set hn, Xh, List.length_set, fr_set p true h1 h2 h3, List.map_set]
    simp
  | false =>
    simp (disch := omega) [e3, e4, e5, e6, hn]
    rw [Xh_set hn, Xh, List.length_set, fr_set p false h1 h2 h3, List.map_set]
    simp

def isT (l : List Bool) (p : Int) : Bool := decide (1 ≤ p) && l.getD p.toNat false
theorem isT_lt {p : Int} (h : isT l p = true) : 1 ≤ p ∧ p < l.length := by
  unfold isT at h
  simp only [Bool.and_eq_true, decide_eq_true_eq] at h
  refine ⟨h.1, ?_⟩
  rcases (by omega : p < l.length ∨ (l.length : Int) ≤ p) with h1 | h1
  · exact h1
  · rw [List.getD_eq_getElem?_getD, List.getElem?_eq_none (by omega)] at h
    simp at h

theorem is_run (p : Int) (hb : b < h.length) (hc : c < h.length) (hn : b ≠ c) : Run T f_extent_Extent_Is [.ptr b 0, .int .i64 p] (Xh h b c l) (.bool (isT l p)) (Xh h b c l) := by
  refine Run.start t_extent_Extent_Is ?_
  unfold k_extent_Extent_Is
  simp (disch := omega) [Xh_b hb, Xf_run (right_run p hb)]
  apply Xg_intro
  · intro h1
    have h2 : 1 ≤ p ∧ p < l.length := by simpa using h1
    have e3 := Xh_c hc hn (h := h) (l := l)
    have e4 := Xh_b hb (h := h) (l := l) (c := c)
    simp (disch := omega) [h2, e3, e4, isT]
  · intro h1
    have h2 : ¬ (1 ≤ p ∧ p < l.length) := by simpa using h1
    have h3 : isT l p = false := by
      cases hh : isT l p with
      | false => rfl
      | true => exact absurd (isT_lt hh) h2
    rw [h1]
    simp (disch := omega) [h3]

theorem isn_run (p : Int) (h : Heap) : Run T f_extent_Extent_Is [.nilp, .int .i64 p] h (.bool false) h := by
  refine Run.start t_extent_Extent_Is ?_
  unfold k_extent_Extent_Is
  simp (disch := omega) [Xf_run (rightn_run p h)]

theorem free_run (hb : b < h.length) : Run T f_extent_Extent_Free [.ptr b 0] (Xh h b c l) (.int .i64 (fr l)) (Xh h b c l) := by
  refine Run.start t_extent_Extent_Free ?_
  unfold k_extent_Extent_Free
  simp (disch := omega) [Xh_b hb]

theorem freen_run (h : Heap) : Run T f_extent_Extent_Free [.nilp] h (.int .i64 0) h := by
  refine Run.start t_extent_Extent_Free ?_
  unfold k_extent_Extent_Free
  simp (disch := omega)

/-- The pages from p on of which g is so, at most n. -/
def pickP (g : Bool → Bool) : List Bool → Nat → Nat → List Nat
  | [], _, _ => []
  | _ :: _, _, 0 => []
  | x :: r, p, n + 1 => if g x then p :: pickP g r (p + 1) n else pickP g r (p + 1) (n + 1)
def intsN (l : List Nat) : List V := l.map fun (x : Nat) => V.int .i64 (x : Int)

theorem some_loop (f n : Nat) (g : Bool → Bool) (hb : b < h.length) (hc : c < h.length) (hn : b ≠ c) (hf : T.free f = true) (hg : ∀ t, Run T f [.bool t] (Xh h b c l) (.bool (g t)) (Xh h b c l)) (hl : l.length ≤ 65536) :
    ∀ (k p : Nat) (out : List Nat), p + k = l.length → 1 ≤ p → out.length ≤ p → ∀ ks Q,
      (∀ q : Nat, Xk T ks (.x 0) [(0, .ptr b 0), (1, .int .i64 n), (2, .fn f []), (7, .ps 1 (intsN (out ++ pickP g (l.drop p) p (n - out.length)))), (8, .int .i64 q), (21, .bool false)] (Xh h b c l) Q) →
      Xc T l_extent_Extent_some_0 ks [(0, .ptr b 0), (1, .int .i64 n), (2, .fn f []), (7, .ps 1 (intsN out)), (8, .int .i64 p)] (Xh h b c l) Q := by
  have e3 := Xh_c hc hn (h := h) (l := l)
  have e4 := Xh_b hb (h := h) (l := l) (c := c)
  intro k
  induction k with
  | zero =>
    intro p out hk hp ho ks Q hQ
    rw [L_extent_Extent_some_0]; unfold bl_extent_Extent_some_0
    have h1 : ¬ ((p : Int) < l.length) := by omega
    have := hQ p
    rw [List.drop_eq_nil_of_le (by omega)] at this
    simp (disch := omega) [e4, h1]
    simpa [pickP] using this
  | succ k ih =>
    intro p out hk hp ho ks Q hQ
    rw [L_extent_Extent_some_0]; unfold bl_extent_Extent_some_0
    have h1 : ((p : Int) < l.length) := by omega
    have h1' : p < l.length := by omega
    have hd : l.drop p = l[p] :: l.drop (p + 1) := List.drop_eq_getElem_cons h1'
    simp (disch := omega) [e4, h1, intsN]
    apply Xb_dec
    · intro h2
      have h2' : out.length < n := by simpa using h2
      obtain ⟨m, hm⟩ : ∃ m, n - out.length = m + 1 := ⟨n - out.length - 1, by omega⟩
      simp (disch := omega) [e3, e4, h1', h2', hf]
      rw [Xf_run (hg _)]
      have hi := ih (p + 1) (if g l[p] then out ++ [p] else out) (by omega) (by omega) (by split <;> (try simp) <;> omega) ks Q (by
        intro q
        have := hQ q
        rw [hd, hm] at this
        cases hgp : g l[p] with
        | true =>
          simp only [pickP, hgp, if_true] at this
          simpa [show n - (out.length + 1) = m by omega] using this
        | false =>
          simp only [pickP, hgp, Bool.false_eq_true, if_false] at this
          simpa [hm] using this)
      simp
      apply Xb_intro
      · intro hgp
        simp (disch := omega)
        simpa [hgp, intsN] using hi
      · intro hgp
        simp (disch := omega)
        simpa [hgp, intsN] using hi
    · intro h2
      have h2' : ¬ out.length < n := by simpa using h2
      have := hQ p
      rw [hd, show n - out.length = 0 by omega] at this
      simp (disch := omega) [h2]
      simpa [pickP, intsN] using this

theorem some_run (f n : Nat) (g : Bool → Bool) (hb : b < h.length) (hc : c < h.length) (hn : b ≠ c) (hf : T.free f = true) (hg : ∀ t, Run T f [.bool t] (Xh h b c l) (.bool (g t)) (Xh h b c l)) (hl : l.length ≤ 65536) (h0 : 1 ≤ l.length) :
    Run T f_extent_Extent_some [.ptr b 0, .int .i64 n, .fn f []] (Xh h b c l) (.ps 1 (intsN (pickP g l.tail 1 n))) (Xh h b c l) := by
  refine Run.start t_extent_Extent_some ?_
  unfold k_extent_Extent_some
  simp (disch := omega)
  refine some_loop f n g hb hc hn hf hg hl (l.length - 1) 1 [] (by omega) (by omega) (by simp) _ _ ?_
  intro q
  simp (disch := omega)

theorem taken1_run (t : Bool) (h : Heap) : Run T f_extent_Extent_Taken_1 [.bool t] h (.bool t) h := by
  refine Run.start t_extent_Extent_Taken_1 ?_
  unfold k_extent_Extent_Taken_1
  simp (disch := omega)
theorem take1_run (t : Bool) (h : Heap) : Run T f_extent_Extent_Take_1 [.bool t] h (.bool !t) h := by
  refine Run.start t_extent_Extent_Take_1 ?_
  unfold k_extent_Extent_Take_1
  simp (disch := omega)

theorem taken_run (hb : b < h.length) (hc : c < h.length) (hn : b ≠ c) (hl : l.length ≤ 65536) (h0 : 1 ≤ l.length) :
    Run T f_extent_Extent_Taken [.ptr b 0] (Xh h b c l) (.ps 1 (intsN (pickP id l.tail 1 65536))) (Xh h b c l) := by
  refine Run.start t_extent_Extent_Taken ?_
  unfold k_extent_Extent_Taken
  have hs := some_run f_extent_Extent_Taken_1 65536 id hb hc hn rfl (fun t => taken1_run t _) hl h0
  simp (disch := omega)
  simp at hs
  rw [Xf_run hs]
  simp (disch := omega)
theorem takenn_run (h : Heap) : Run T f_extent_Extent_Taken [.nilp] h (.ps 1 []) h := by
  refine Run.start t_extent_Extent_Taken ?_
  unfold k_extent_Extent_Taken
  simp (disch := omega)

/-- Pages are set, one by one. -/
def setL (l : List Bool) (t : Bool) (ps : List Nat) : List Bool := ps.foldl (fun l p => l.set p t) l
theorem setL_len (t : Bool) : ∀ (ps : List Nat) (l : List Bool), (setL l t ps).length = l.length
  | [], l => rfl
  | p :: r, l => by unfold setL; rw [List.foldl_cons]; exact (setL_len t r _).trans (by simp)

theorem pickP_mem (g : Bool → Bool) : ∀ (l : List Bool) (p n q : Nat), q ∈ pickP g l p n → p ≤ q ∧ q < p + l.length ∧ (l[q - p]?).map g = some true
  | [], _, _, q, h => by simp [pickP] at h
  | _ :: _, _, 0, q, h => by simp [pickP] at h
  | x :: r, p, n + 1, q, h => by
    unfold pickP at h
    have key : ∀ m, q ∈ pickP g r (p + 1) m → p ≤ q ∧ q < p + (x :: r).length ∧ ((x :: r)[q - p]?).map g = some true := by
      intro m hm
      obtain ⟨h1, h2, h3⟩ := pickP_mem g r (p + 1) m q hm
      refine ⟨by omega, by simp; omega, ?_⟩
      rw [show q - p = (q - (p + 1)) + 1 by omega, List.getElem?_cons_succ]
      exact h3
    split at h
    · rename_i hg
      rcases List.mem_cons.1 h with h | h
      · subst h; simp [hg]
      · exact key n h
    · exact key _ h
theorem pickP_sorted (g : Bool → Bool) : ∀ (l : List Bool) (p n : Nat), (pickP g l p n).Pairwise (· < ·)
  | [], _, _ => by simp [pickP]
  | _ :: _, _, 0 => by simp [pickP]
  | x :: r, p, n + 1 => by
    unfold pickP
    split
    · refine List.pairwise_cons.2 ⟨fun q hq => ?_, pickP_sorted g r _ _⟩
      have := pickP_mem g r (p + 1) n q hq
      omega
    · exact pickP_sorted g r _ _
theorem pickP_length (g : Bool → Bool) : ∀ (l : List Bool) (p n : Nat), (pickP g l p n).length = min n (l.countP g)
  | [], _, _ => by simp [pickP]
  | _ :: _, _, 0 => by simp [pickP]
  | x :: r, p, n + 1 => by
    unfold pickP
    rw [List.countP_cons]
    split
    · rename_i hg; rw [List.length_cons, pickP_length g r]; omega
    · rename_i hg; rw [pickP_length g r]; omega

theorem take_loop (hb : b < h.length) (hc : c < h.length) (hn : b ≠ c) (hl : l.length ≤ 65536) (v : V) :
    ∀ (ps pre : List Nat) (l : List Bool), l.length ≤ 65536 → ps.Pairwise (· < ·) → (∀ p ∈ ps, 1 ≤ p ∧ l[p]? = some false) → pre.length + ps.length ≤ 65536 → ∀ ks Q,
      Xk T ks (.x 1) [(0, .ptr b 0), (6, v), (25, .ps 1 (intsN (pre ++ ps))), (26, .int .i64 (pre.length + ps.length)), (27, .int .i64 (pre.length + ps.length)), (28, .bool false)] (Xh h b c (setL l true ps)) Q →
      Xc T l_extent_Extent_Take_0 ks [(0, .ptr b 0), (6, v), (25, .ps 1 (intsN (pre ++ ps))), (26, .int .i64 (pre.length + ps.length)), (27, .int .i64 pre.length)] (Xh h b c l) Q := by
  intro ps
  induction ps with
  | nil =>
    intro pre l _ _ _ _ ks Q hQ
    rw [L_extent_Extent_Take_0]; unfold bl_extent_Extent_Take_0
    simp (disch := omega)
    simpa [setL] using hQ
  | cons p r ih =>
    intro pre l hl hs hm hlen ks Q hQ
    rw [L_extent_Extent_Take_0]; unfold bl_extent_Extent_Take_0
    have h1 : pre.length < pre.length + (r.length + 1) := by omega
    obtain ⟨h2, h3⟩ := hm p (by simp)
    have h4 : p < l.length := (List.getElem?_eq_some_iff.1 h3).1
    simp only [List.length_cons] at hlen hQ
    have hi := ih (pre ++ [p]) (l.set p true) (by simpa using hl) (List.pairwise_cons.1 hs).2 (fun q hq => by
      have h5 := (List.pairwise_cons.1 hs).1 q hq
      rw [List.getElem?_set_ne (by omega)]
      exact hm q (by simp [hq])) (by simp; omega) ks Q (by
        simp only [List.length_append, List.length_singleton, List.append_assoc, List.singleton_append]
        have := hQ
        simp only [setL, List.foldl_cons] at this
        rw [show ((pre.length + 1 : Nat) : Int) + (r.length : Int) = (pre.length : Int) + ((r.length + 1 : Nat) : Int) by omega]
        exact this)
    have h6 : (intsN (pre ++ p :: r))[pre.length]? = some (V.int .i64 p) := by simp [intsN]
    have h7 : (pre.length : Int) < pre.length + (r.length + 1) := by omega
    simp (disch := omega) [h6, h7, Xf_run (set_run p true hb hc hn hl h2 h4 h3)]
    simp (disch := omega) at hi
    rw [show (pre.length : Int) + 1 + r.length = pre.length + (r.length + 1) by omega] at hi
    exact hi

theorem fr_count (l : List Bool) : fr l = (l.tail.countP (fun t => !t) : Nat) := by
  unfold fr
  rw [List.count, List.drop_one]
  congr 2; funext t; cases t <;> rfl

theorem take_range (n : Int) (hn : n < 1) : Run T f_extent_Extent_Take [.ptr b 0, .int .i64 n] h (.tup [.ps 1 [], .int .i64 3]) h := by
  refine Run.start t_extent_Extent_Take ?_
  unfold k_extent_Extent_Take
  simp (disch := omega) [hn]
theorem take_full (n : Int) (hb : b < h.length) (h1 : 1 ≤ n) (hn : fr l < n) : Run T f_extent_Extent_Take [.ptr b 0, .int .i64 n] (Xh h b c l) (.tup [.ps 1 [], .int .i64 13]) (Xh h b c l) := by
  refine Run.start t_extent_Extent_Take ?_
  unfold k_extent_Extent_Take
  have h2 : ¬ n < 1 := by omega
  simp (disch := omega) [Xh_b hb, h2, hn]
theorem take_nil (n : Int) (h : Heap) : Run T f_extent_Extent_Take [.nilp, .int .i64 n] h (.tup [.ps 1 [], .int .i64 1]) h := by
  refine Run.start t_extent_Extent_Take ?_
  unfold k_extent_Extent_Take
  simp (disch := omega)
theorem take_run (n : Nat) (hb : b < h.length) (hc : c < h.length) (hn : b ≠ c) (hl : l.length ≤ 65536) (h0 : 1 ≤ l.length) (h1 : 1 ≤ n) (h2 : n ≤ fr l) :
    Run T f_extent_Extent_Take [.ptr b 0, .int .i64 n] (Xh h b c l) (.tup [.ps 1 (intsN (pickP (fun t => !t) l.tail 1 n)), .int .i64 0]) (Xh h b c (setL l true (pickP (fun t => !t) l.tail 1 n))) := by
  refine Run.start t_extent_Extent_Take ?_
  unfold k_extent_Extent_Take
  have hs := some_run f_extent_Extent_Take_1 n (fun t => !t) hb hc hn rfl (fun t => take1_run t _) hl h0
  have h3 : ¬ (n : Int) < 1 := by omega
  have h4 : ¬ fr l < n := by omega
  simp (disch := omega) [Xh_b hb, h3, h4]
  rw [Xf_run hs]
  have hlen := pickP_length (fun t => !t) l.tail 1 n
  have hcp := List.countP_le_length (p := fun t => !t) (l := l.tail)
  rw [List.length_tail] at hcp
  have e1 : (intsN (pickP (fun t => !t) l.tail 1 n)).length = (pickP (fun t => !t) l.tail 1 n).length := by simp [intsN]
  simp (disch := omega) [e1]
  have := take_loop hb hc hn hl (.ps 1 (intsN (pickP (fun t => !t) l.tail 1 n))) (pickP (fun t => !t) l.tail 1 n) [] l hl (pickP_sorted _ _ _ _) (fun p hp => by
    obtain ⟨h5, h6, h7⟩ := pickP_mem _ _ _ _ _ hp
    refine ⟨h5, ?_⟩
    rw [List.getElem?_tail, show p - 1 + 1 = p by omega] at h7
    cases hx : l[p]? with
    | none => rw [hx] at h7; cases h7
    | some t => rw [hx] at h7; simpa using h7) (by simp; omega)
  simp at this
  refine this _ _ ?_
  simp (disch := omega)

def giveK : List Bool → List Int → Nat
  | _, [] => 0
  | l, p :: r => if isT l p then giveK (l.set p.toNat false) r + 1 else giveK l r
def giveS : List Bool → List Int → List Bool
  | l, [] => l
  | l, p :: r => if isT l p then giveS (l.set p.toNat false) r else giveS l r
theorem giveS_len : ∀ (ps : List Int) (l : List Bool), (giveS l ps).length = l.length
  | [], l => rfl
  | p :: r, l => by unfold giveS; split <;> simp [giveS_len r]

theorem give_loop (hb : b < h.length) (hc : c < h.length) (hn : b ≠ c) :
    ∀ (ps pre : List Int) (l : List Bool) (k : Nat), l.length ≤ 65536 → pre.length + ps.length < 4611686018427387904 → k ≤ pre.length → ∀ ks Q,
      Xk T ks (.x 0) [(0, .ptr b 0), (5, .int .i64 (k + giveK l ps)), (8, .ps 1 (ints (pre ++ ps))), (9, .int .i64 (pre.length + ps.length)), (10, .int .i64 (pre.length + ps.length)), (11, .bool false)] (Xh h b c (giveS l ps)) Q →
      Xc T l_extent_Extent_Give_0 ks [(0, .ptr b 0), (5, .int .i64 k), (8, .ps 1 (ints (pre ++ ps))), (9, .int .i64 (pre.length + ps.length)), (10, .int .i64 pre.length)] (Xh h b c l) Q := by
  intro ps
  induction ps with
  | nil =>
    intro pre l k _ _ _ ks Q hQ
    rw [L_extent_Extent_Give_0]; unfold bl_extent_Extent_Give_0
    simp (disch := omega)
    simpa [giveK, giveS] using hQ
  | cons p r ih =>
    intro pre l k hl hlen hk ks Q hQ
    rw [L_extent_Extent_Give_0]; unfold bl_extent_Extent_Give_0
    simp only [List.length_cons] at hlen hQ
    have h6 : (ints (pre ++ p :: r))[pre.length]? = some (V.int .i64 p) := by simp [ints]
    have h7 : (pre.length : Int) < pre.length + (r.length + 1) := by omega
    have e0 : ((pre.length + 1 : Nat) : Int) + (r.length : Int) = (pre.length : Int) + ((r.length + 1 : Nat) : Int) := by omega
    simp (disch := omega) [h6, h7, Xf_run (is_run p hb hc hn)]
    apply Xb_intro
    · intro ht
      obtain ⟨h1, h2⟩ := isT_lt ht
      have h3 : l[p.toNat]? = some true := by
        unfold isT at ht
        simp only [Bool.and_eq_true] at ht
        have := ht.2
        rw [List.getD_eq_getElem?_getD] at this
        cases hx : l[p.toNat]? with
        | none => rw [hx] at this; cases this
        | some t => rw [hx] at this; simpa using this
      have hs := set_run p.toNat false hb hc hn hl (by omega) (by omega) h3
      rw [show ((p.toNat : Nat) : Int) = p by omega] at hs
      have hi := ih (pre ++ [p]) (l.set p.toNat false) (k + 1) (by simpa using hl) (by simp; omega) (by simp; omega) ks Q (by
        simp only [List.length_append, List.length_singleton, List.append_assoc, List.singleton_append, e0]
        simp only [giveK, giveS, ht, if_true] at hQ
        rw [show ((k + 1 : Nat) : Int) + (giveK (l.set p.toNat false) r : Nat) = (k : Int) + ((giveK (l.set p.toNat false) r + 1 : Nat) : Int) by omega]
        exact hQ)
      simp (disch := omega) [Xf_run hs]
      simp (disch := omega) at hi
      rw [show (pre.length : Int) + 1 + r.length = pre.length + (r.length + 1) by omega] at hi
      exact hi
    · intro ht
      have hi := ih (pre ++ [p]) l k hl (by simp; omega) (by simp; omega) ks Q (by
        simp only [List.length_append, List.length_singleton, List.append_assoc, List.singleton_append, e0]
        simp only [giveK, giveS, ht, Bool.false_eq_true, if_false] at hQ
        exact hQ)
      simp (disch := omega)
      simp (disch := omega) at hi
      rw [show (pre.length : Int) + 1 + r.length = pre.length + (r.length + 1) by omega] at hi
      exact hi
theorem give_run (ps : List Int) (hb : b < h.length) (hc : c < h.length) (hn : b ≠ c) (hl : l.length ≤ 65536) (hp : ps.length < 4611686018427387904) :
    Run T f_extent_Extent_Give [.ptr b 0, .ps 1 (ints ps)] (Xh h b c l) (.int .i64 (giveK l ps)) (Xh h b c (giveS l ps)) := by
  refine Run.start t_extent_Extent_Give ?_
  unfold k_extent_Extent_Give
  have e1 : (ints ps).length = ps.length := by simp [ints]
  have := give_loop hb hc hn ps [] l 0 hl (by simpa using hp) (by simp)
  simp at this
  simp (disch := omega) [e1]
  refine this _ _ ?_
  simp (disch := omega)
theorem given_run (p : Int) (h : Heap) : Run T f_extent_Extent_Give [.nilp, .ps 1 [.int .i64 p]] h (.int .i64 0) h := by
  refine Run.start t_extent_Extent_Give ?_
  unfold k_extent_Extent_Give
  simp (disch := omega)
  rw [L_extent_Extent_Give_0]; unfold bl_extent_Extent_Give_0
  simp (disch := omega) [Xf_run (isn_run p h)]
  rw [L_extent_Extent_Give_0]; unfold bl_extent_Extent_Give_0
  simp (disch := omega)

def newS (l : List Bool) (ps : List Int) : List Bool := ps.foldl (fun (l : List Bool) (p : Int) => if 1 ≤ p ∧ p < l.length then l.set p.toNat true else l) l
theorem newS_cons (l : List Bool) (p : Int) (r : List Int) : newS l (p :: r) = newS (if 1 ≤ p ∧ p < l.length then l.set p.toNat true else l) r := rfl
theorem newS_len : ∀ (ps : List Int) (l : List Bool), (newS l ps).length = l.length
  | [], l => rfl
  | p :: r, l => by rw [newS_cons, newS_len r]; split <;> simp

theorem xnew_loop (hb : b < h.length) (hc : c < h.length) (hn : b ≠ c) :
    ∀ (ps pre : List Int) (l : List Bool), l.length ≤ 65536 → pre.length + ps.length < 4611686018427387904 → ∀ ks Q,
      Xk T ks (.x 0) [(6, .ptr b 0), (18, .ps 1 (ints (pre ++ ps))), (19, .int .i64 (pre.length + ps.length)), (20, .int .i64 (pre.length + ps.length)), (21, .bool false)] (Xh h b c (newS l ps)) Q →
      Xc T l_extent_New_0 ks [(6, .ptr b 0), (18, .ps 1 (ints (pre ++ ps))), (19, .int .i64 (pre.length + ps.length)), (20, .int .i64 pre.length)] (Xh h b c l) Q := by
  intro ps
  induction ps with
  | nil =>
    intro pre l _ _ ks Q hQ
    rw [L_extent_New_0]; unfold bl_extent_New_0
    simp (disch := omega)
    simpa [newS] using hQ
  | cons p r ih =>
    intro pre l hl hlen ks Q hQ
    rw [L_extent_New_0]; unfold bl_extent_New_0
    have e3 := Xh_c hc hn (h := h) (l := l)
    have e4 := Xh_b hb (h := h) (l := l) (c := c)
    simp only [List.length_cons] at hlen hQ
    have h6 : (ints (pre ++ p :: r))[pre.length]? = some (V.int .i64 p) := by simp [ints]
    have h7 : (pre.length : Int) < pre.length + (r.length + 1) := by omega
    have e0 : ((pre.length + 1 : Nat) : Int) + (r.length : Int) = (pre.length : Int) + ((r.length + 1 : Nat) : Int) := by omega
    have next : ∀ l', l'.length ≤ 65536 → newS l (p :: r) = newS l' r → Xc T l_extent_New_0 ks [(6, .ptr b 0), (18, .ps 1 (ints (pre ++ p :: r))), (19, .int .i64 (pre.length + (r.length + 1))), (20, .int .i64 (pre.length + 1))] (Xh h b c l') Q := by
      intro l' hl' he
      have hi := ih (pre ++ [p]) l' hl' (by simp; omega) ks Q (by
        simp only [List.length_append, List.length_singleton, List.append_assoc, List.singleton_append, e0]
        rw [he] at hQ
        exact hQ)
      simp (disch := omega) at hi
      rw [show (pre.length : Int) + 1 + r.length = pre.length + (r.length + 1) by omega] at hi
      exact hi
    simp (disch := omega) [h6, h7, Xf_run (right_run p hb)]
    apply Xg_intro
    · intro h1
      have h2 : 1 ≤ p ∧ p < l.length := by simpa using h1
      simp (disch := omega) [h2, e3, e4]
      have h4 : p.toNat < l.length := by omega
      apply Xb_intro
      · intro ht
        have h5 : l[p.toNat]? = some false := by rw [List.getElem?_eq_getElem h4]; simpa using ht
        have hs := set_run p.toNat true hb hc hn hl (by omega) h4 h5
        rw [show ((p.toNat : Nat) : Int) = p by omega] at hs
        simp (disch := omega) [Xf_run hs]
        exact next _ (by simpa using hl) (by rw [newS_cons, if_pos h2])
      · intro ht
        simp (disch := omega)
        have h5 : l[p.toNat] = true := by simpa using ht
        exact next _ hl (by rw [newS_cons, if_pos h2, show l.set p.toNat true = l from by conv => rhs; rw [← List.set_getElem_self h4, h5]])
    · intro h1
      have h2 : ¬ (1 ≤ p ∧ p < l.length) := by simpa using h1
      rw [h1]
      simp (disch := omega)
      exact next _ hl (by rw [newS_cons, if_neg h2])

theorem fr_rep (n : Nat) : fr (List.replicate n false) = (n - 1 : Nat) := by
  unfold fr; simp
theorem xnew_run (total : Int) (ps : List Int) (h : Heap) (hp : ps.length < 4611686018427387904) (hh : h.length < 1000000) :
    Run T f_extent_New [.int .i64 total, .ps 1 (ints ps)] h (.ptr (h.length + 1) 0) (Xh (h ++ [none, none]) (h.length + 1) h.length (newS (List.replicate (min (max total 1) 65536).toNat false) ps)) := by
  refine Run.start t_extent_New ?_
  unfold k_extent_New
  have e1 : (ints ps).length = ps.length := by simp [ints]
  obtain ⟨n, hn⟩ : ∃ n : Nat, min (max total 1) 65536 = n := ⟨(min (max total 1) 65536).toNat, by omega⟩
  have h1 : 1 ≤ n := by omega
  have h2 : n ≤ 65536 := by omega
  rw [hn]
  have hX : h ++ [some (List.replicate n (V.bool false))] ++ [some [.hs 1 h.length 0 n, .int .i64 ((n : Int) - 1)]] = Xh (h ++ [none, none]) (h.length + 1) h.length (List.replicate n false) := by
    unfold Xh
    rw [fr_rep]
    simp
    omega
  have := xnew_loop (h := h ++ [none, none]) (b := h.length + 1) (c := h.length) (by simp) (by simp) (by omega) ps [] (List.replicate n false) (by simp; omega) (by simpa using hp)
  simp at this
  simp (disch := omega) [e1, hn]
  simp at hX
  rw [hX]
  refine this _ _ ?_
  simp (disch := omega)
end
end Ev
