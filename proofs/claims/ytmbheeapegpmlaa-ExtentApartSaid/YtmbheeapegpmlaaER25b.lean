/- The reference's extent: its functions. Each theorem states its own conditions. -/
import Derived.Test.YtmbheeapegpmlaaER25
set_option linter.all false
namespace Ev
open Go
set_option maxRecDepth 10000
attribute [-simp] getElem?_pos getElem?_neg

def Yh (h : Heap) (d : Nat) (N : Nat) (t : List Int) : Heap := h.set d (some [.int .i64 N, .ps 1 (ints t)])
section
variable {h : Heap} {d N : Nat} {t : List Int}
theorem Yh_len : (Yh h d N t).length = h.length := by simp [Yh]
theorem Yh_d (hd : d < h.length) : (Yh h d N t).row d = some [.int .i64 N, .ps 1 (ints t)] := by unfold Yh; rw [row_set hd]
theorem Yh_set (t' : List Int) (X : Option (List V)) (hX : X = some [.int .i64 N, .ps 1 (ints t')]) : List.set (Yh h d N t) d X = Yh h d N t' := by
  subst hX; unfold Yh; rw [List.set_set]

theorem rfree_run (hd : d < h.length) (hN : N ≤ 65536) (ht : t.length ≤ 65536) : Run T f_ref25_X_Free [.ptr d 0] (Yh h d N t) (.int .i64 ((N : Int) - 1 - t.length)) (Yh h d N t) := by
  refine Run.start t_ref25_X_Free ?_
  unfold k_ref25_X_Free
  simp (disch := omega) [Yh_d hd, ints_len]

theorem newS_nil (l : List Bool) : newS l [] = l := rfl
theorem tkOf_le (l : List Bool) (hl : l.length ≤ 65536) (h0 : 1 ≤ l.length) : (tkOf l).length ≤ 65536 := by
  have := tkOf_len l hl h0
  have := @fr_ge l
  omega

theorem rnew_loop (hd : d < h.length) (ps : List Int) (hN : N ≤ 65536) (h0 : 1 ≤ N) (hp : ps.length < 4611686018427387904) :
    ∀ (k i : Nat) (l : List Bool), i + k = ps.length → l.length = N → ∀ ks Q,
      Xk T ks (.x 0) [(1, .ps 1 (ints ps)), (5, .ptr d 0), (6, .int .i64 ps.length), (15, .bool false)] (Yh h d N (tkOf (newS l (ps.drop i)))) Q →
      Xc T l_ref25_New_0 ks [(1, .ps 1 (ints ps)), (5, .ptr d 0), (6, .int .i64 i)] (Yh h d N (tkOf l)) Q := by
  intro k
  induction k with
  | zero =>
    intro i l hk hl ks Q h1
    rw [L_ref25_New_0]; unfold bl_ref25_New_0
    have e0 : i = ps.length := by omega
    subst e0
    simp (disch := omega) [ints_len]
    simpa [newS_nil] using h1
  | succ k ih =>
    intro i l hk hl ks Q h1
    rw [L_ref25_New_0]; unfold bl_ref25_New_0
    have e1 : i < ps.length := by omega
    have e3 : (i : Int) < ps.length := by omega
    have da : ps.drop i = ps[i] :: ps.drop (i + 1) := List.drop_eq_getElem_cons e1
    have ht := tkOf_le l (by omega) (by omega)
    have next : ∀ l', l'.length = N → newS l (ps.drop i) = newS l' (ps.drop (i + 1)) → Xc T l_ref25_New_0 ks [(1, .ps 1 (ints ps)), (5, .ptr d 0), (6, .int .i64 (i + 1))] (Yh h d N (tkOf l')) Q := by
      intro l' hl' he
      have := ih (i + 1) l' (by omega) hl' ks Q (by rw [← he]; exact h1)
      simpa using this
    simp (disch := omega) [ints_len, ints_get, e3, List.getElem?_eq_getElem e1]
    apply Xg_dec
    · intro h2
      simp (disch := omega) [h2, Yh_d hd, List.getElem?_eq_getElem e1, ints_get]
      apply Xb_dec
      · intro h3
        have h5 : (ps[i].toNat : Int) = ps[i] := by omega
        have hput := putS_tk l (by omega) ps[i].toNat (by omega) (by omega)
        rw [h5] at hput
        simp (disch := omega) [h2, Yh_d hd, List.getElem?_eq_getElem e1, ints_get]
        rw [Xp_run (put_run (tkOf l) ps[i] [] (by omega)) (by simp [ints_hfs]) (by simp [ints_hfs]) (by simp)]
        simp (disch := omega) [h2, Yh_d hd]
        rw [Yh_set _ _ rfl, hput]
        exact next _ (by simpa using hl) (by rw [da, newS_cons, if_pos ⟨h2, by omega⟩])
      · intro h3
        simp (disch := omega)
        exact next _ hl (by rw [da, newS_cons, if_neg (by omega)])
    · intro h2
      simp (disch := omega) [h2]
      exact next _ hl (by rw [da, newS_cons, if_neg (by omega)])

theorem tkOf_rep (n : Nat) : tkOf (List.replicate n false) = [] := by
  refine List.eq_nil_iff_forall_not_mem.2 fun x hx => ?_
  unfold tkOf at hx
  rw [List.mem_map] at hx
  obtain ⟨q, hq, rfl⟩ := hx
  obtain ⟨h1, h2, h3⟩ := pickP_mem id _ _ _ _ hq
  simp [List.getElem?_replicate] at h3
theorem rnew_run (total : Int) (ps : List Int) (h : Heap) (hp : ps.length < 4611686018427387904) :
    Run T f_ref25_New [.int .i64 total, .ps 1 (ints ps)] h (.ptr h.length 0)
      (Yh (h ++ [none]) h.length (min (max total 1) 65536).toNat (tkOf (newS (List.replicate (min (max total 1) 65536).toNat false) ps))) := by
  refine Run.start t_ref25_New ?_
  unfold k_ref25_New
  obtain ⟨n, hn⟩ : ∃ n : Nat, min (max total 1) 65536 = n := ⟨(min (max total 1) 65536).toNat, by omega⟩
  have h1 : 1 ≤ n := by omega
  have h2 : n ≤ 65536 := by omega
  simp (disch := omega)
  rw [Xp_run (High_run total 1 []) (by simp) rfl (by simp)]
  simp (disch := omega)
  rw [Xp_run (Low_run _ 65536 []) (by simp) rfl (by simp), hn]
  simp (disch := omega)
  have := rnew_loop (h := h ++ [none]) (d := h.length) (by simp) ps h2 h1 hp ps.length 0 (List.replicate n false) (by omega) (by simp)
  rw [tkOf_rep] at this
  have hX : Yh (h ++ [none]) h.length n [] = h ++ [some [.int .i64 n, .ps 1 []]] := by simp [Yh, ints]
  rw [hX] at this
  simp at this
  refine this _ _ ?_
  simp (disch := omega)

theorem rgive_in (hd : d < h.length) (ps : List Int) (i : Nat) (hi : i < ps.length) (hp : ps.length < 4611686018427387904) (ht : t.length ≤ 65536) (k : V) :
    ∀ (m j : Nat) (out : List Int), j + m = t.length → out.length ≤ j → ∀ ks Q,
      Xk T ks (.x 2) [(0, .ptr d 0), (1, .ps 1 (ints ps)), (5, k), (6, .int .i64 i), (7, .ps 1 (ints (out ++ (t.drop j).filter (· != ps[i])))), (8, .int .i64 t.length), (21, .bool false)] (Yh h d N t) Q →
      Xc T l_ref25_X_Give_0 ks [(0, .ptr d 0), (1, .ps 1 (ints ps)), (5, k), (6, .int .i64 i), (7, .ps 1 (ints out)), (8, .int .i64 j)] (Yh h d N t) Q := by
  intro m
  induction m with
  | zero =>
    intro j out hj ho ks Q h1
    rw [L_ref25_X_Give_0]; unfold bl_ref25_X_Give_0
    have e0 : j = t.length := by omega
    subst e0
    simp (disch := omega) [ints_len, Yh_d hd]
    simpa using h1
  | succ m ih =>
    intro j out hj ho ks Q h1
    rw [L_ref25_X_Give_0]; unfold bl_ref25_X_Give_0
    have e1 : j < t.length := by omega
    have e3 : (j : Int) < t.length := by omega
    have da : t.drop j = t[j] :: t.drop (j + 1) := List.drop_eq_getElem_cons e1
    simp (disch := omega) [ints_len, ints_get, e3, Yh_d hd, List.getElem?_eq_getElem e1, List.getElem?_eq_getElem hi]
    apply Xb_decn
    · intro hne
      simp (disch := omega) [ints_len, ints_get, e3, Yh_d hd, List.getElem?_eq_getElem e1]
      have := ih (j + 1) (out ++ [t[j]]) (by omega) (by simp; omega) ks Q (by
        rw [da, List.filter_cons, if_pos (by simpa using hne)] at h1
        rw [List.append_assoc]; exact h1)
      simpa [ints] using this
    · intro he
      simp (disch := omega)
      have := ih (j + 1) out (by omega) (by omega) ks Q (by
        rw [da, List.filter_cons, if_neg (by simpa using he)] at h1
        exact h1)
      simpa using this
theorem rgive_loop (hd : d < h.length) (ps : List Int) (hN : N ≤ 65536) (h0 : 1 ≤ N) (hp : ps.length < 4611686018427387904) :
    ∀ (m i : Nat) (l : List Bool) (k : Nat), i + m = ps.length → l.length = N → k ≤ i → ∀ ks Q,
      Xk T ks (.x 0) [(0, .ptr d 0), (1, .ps 1 (ints ps)), (5, .int .i64 (k + giveK l (ps.drop i))), (6, .int .i64 ps.length), (12, .bool false)] (Yh h d N (tkOf (giveS l (ps.drop i)))) Q →
      Xc T l_ref25_X_Give_1 ks [(0, .ptr d 0), (1, .ps 1 (ints ps)), (5, .int .i64 k), (6, .int .i64 i)] (Yh h d N (tkOf l)) Q := by
  intro m
  induction m with
  | zero =>
    intro i l k hk hl hki ks Q h1
    rw [L_ref25_X_Give_1]; unfold bl_ref25_X_Give_1
    have e0 : i = ps.length := by omega
    subst e0
    simp (disch := omega) [ints_len]
    simpa [giveK, giveS] using h1
  | succ m ih =>
    intro i l k hk hl hki ks Q h1
    rw [L_ref25_X_Give_1]; unfold bl_ref25_X_Give_1
    have e1 : i < ps.length := by omega
    have e3 : (i : Int) < ps.length := by omega
    have da : ps.drop i = ps[i] :: ps.drop (i + 1) := List.drop_eq_getElem_cons e1
    have ht := tkOf_le l (by omega) (by omega)
    simp (disch := omega) [ints_len, e3]
    have hin := rgive_in (N := N) hd ps i e1 hp ht (.int .i64 k) (tkOf l).length 0 [] (by omega) (by simp)
    simp at hin
    refine hin _ _ ?_
    have hf := tkOf_filter l (by omega) ps[i]
    have hl2 : (if isT l ps[i] then l.set ps[i].toNat false else l).length = N := by split <;> simpa using hl
    have ht2 := tkOf_le _ (show (if isT l ps[i] then l.set ps[i].toNat false else l).length ≤ 65536 by omega) (by omega)
    rw [← hf] at ht2
    simp (disch := omega) [Yh_d hd, ints_len]
    rw [Yh_set _ _ rfl, hf]
    have c1 := tkOf_len l (by omega) (by omega)
    have c2 := tkOf_len _ (show (if isT l ps[i] then l.set ps[i].toNat false else l).length ≤ 65536 by omega) (by omega)
    cases hT : isT l ps[i] with
    | true =>
      rw [hT] at c2 hl2
      simp only [if_true] at c2 hl2 ⊢
      obtain ⟨b1, b2⟩ := isT_lt hT
      have hfr := fr_set (l := l) ps[i].toNat false (by omega) (by omega) (isT_iff.1 hT).2
      simp only [Bool.false_eq_true, if_false] at hfr
      have := ih (i + 1) (l.set ps[i].toNat false) (k + 1) (by omega) hl2 (by omega) ks Q (by
        rw [da] at h1
        simp only [giveK, giveS, hT, if_true] at h1
        rw [show ((k + 1 : Nat) : Int) + (giveK (l.set ps[i].toNat false) (ps.drop (i + 1)) : Nat) = (k : Int) + ((giveK (l.set ps[i].toNat false) (ps.drop (i + 1)) + 1 : Nat) : Int) by omega]
        exact h1)
      rw [show (k : Int) + (tkOf l).length - (tkOf (l.set ps[i].toNat false)).length = ((k + 1 : Nat) : Int) by simp at c2; omega]
      simpa using this
    | false =>
      simp only [Bool.false_eq_true, if_false]
      have := ih (i + 1) l k (by omega) hl (by omega) ks Q (by
        rw [da] at h1
        simp only [giveK, giveS, hT, Bool.false_eq_true, if_false] at h1
        exact h1)
      rw [show (k : Int) + (tkOf l).length - (tkOf l).length = (k : Int) by omega]
      simpa using this
theorem rgive_run (hd : d < h.length) (ps : List Int) (l : List Bool) (hl : l.length = N) (hN : N ≤ 65536) (h0 : 1 ≤ N) (hp : ps.length < 4611686018427387904) :
    Run T f_ref25_X_Give [.ptr d 0, .ps 1 (ints ps)] (Yh h d N (tkOf l)) (.int .i64 (giveK l ps)) (Yh h d N (tkOf (giveS l ps))) := by
  refine Run.start t_ref25_X_Give ?_
  unfold k_ref25_X_Give
  have := rgive_loop hd ps hN h0 hp ps.length 0 l 0 (by omega) hl (by omega)
  simp at this
  simp (disch := omega)
  refine this _ _ ?_
  simp (disch := omega)

/-- Pages that are free, one by one. -/
theorem rtake_find (hd : d < h.length) (l : List Bool) (hl : l.length = N) (hN : N ≤ 65536) (n : Nat) (hn : (n : Int) ≤ fr l) :
    ∀ (m p : Nat) (out : List Nat), p + m = N → 1 ≤ p → out.length ≤ p → out.length + (pickP (fun t => !t) (l.drop p) p (n - out.length)).length = n → ∀ ks Q,
      (∀ q : Nat, Xk T ks (.x 0) [(0, .ptr d 0), (1, .int .i64 n), (6, .ps 1 (intsN (out ++ pickP (fun t => !t) (l.drop p) p (n - out.length)))), (7, .int .i64 q), (18, .bool false)] (Yh h d N (tkOf l)) Q) →
      Xc T l_ref25_X_Take_0 ks [(0, .ptr d 0), (1, .int .i64 n), (6, .ps 1 (intsN out)), (7, .int .i64 p)] (Yh h d N (tkOf l)) Q := by
  have ht : (tkOf l).length ≤ 65536 := by
    rcases Nat.eq_zero_or_pos l.length with h1 | h1
    · have : l = [] := List.eq_nil_of_length_eq_zero h1
      subst this; simp [tkOf, pickP]
    · exact tkOf_le l (by omega) h1
  intro m
  induction m with
  | zero =>
    intro p out hk hp ho hlen ks Q hQ
    rw [L_ref25_X_Take_0]; unfold bl_ref25_X_Take_0
    have := hQ p
    rw [List.drop_eq_nil_of_le (by omega)] at this hlen
    simp [pickP] at this hlen
    have e1 : ¬ (out.length : Int) < n := by omega
    simp (disch := omega) [intsN, e1]
    simpa [intsN] using this
  | succ m ih =>
    intro p out hk hp ho hlen ks Q hQ
    rw [L_ref25_X_Take_0]; unfold bl_ref25_X_Take_0
    have h1' : p < l.length := by omega
    have hdr : l.drop p = l[p] :: l.drop (p + 1) := List.drop_eq_getElem_cons h1'
    simp (disch := omega) [intsN]
    apply Xb_dec
    · intro h2
      have h2' : out.length < n := by simpa using h2
      obtain ⟨w, hw⟩ : ∃ w, n - out.length = w + 1 := ⟨n - out.length - 1, by omega⟩
      simp (disch := omega) [Yh_d hd]
      rw [Xp_run (Has_run (tkOf l) p [] (by omega)) (by simp [ints_hfs]) rfl (by simp [scalar])]
      have hT : (decide ((p : Int) ∈ tkOf l)) = l[p] := by
        rw [Bool.eq_iff_iff, decide_eq_true_eq, tkOf_mem l p (by omega), isT_iff]
        simp [List.getElem?_eq_getElem h1']
        omega
      rw [hT]
      rw [hdr, hw] at hlen
      have hi := ih (p + 1) (if l[p] then out else out ++ [p]) (by omega) (by omega) (by split <;> (try simp) <;> omega) (by
        cases hgp : l[p] with
        | true =>
          simp only [pickP, hgp, Bool.not_true, Bool.false_eq_true, if_false, if_true] at hlen ⊢
          rw [hw]; exact hlen
        | false =>
          simp only [pickP, hgp, Bool.not_false, Bool.false_eq_true, if_false, if_true, List.length_cons] at hlen ⊢
          rw [show n - (out ++ [p]).length = w by simp; omega]
          simp; omega) ks Q (by
        intro q
        have := hQ q
        rw [hdr, hw] at this
        cases hgp : l[p] with
        | true =>
          simp only [pickP, hgp, Bool.not_true, Bool.false_eq_true, if_false, if_true] at this ⊢
          rw [hw]; exact this
        | false =>
          simp only [pickP, hgp, Bool.not_false, Bool.false_eq_true, if_false, if_true] at this ⊢
          rw [show n - (out ++ [p]).length = w by simp; omega, List.append_assoc]
          exact this)
      cases hgp : l[p] with
      | true =>
        simp (disch := omega)
        simpa [hgp, intsN] using hi
      | false =>
        simp (disch := omega)
        simpa [hgp, intsN] using hi
    · intro h2
      have h2' : ¬ out.length < n := by simpa using h2
      have := hQ p
      rw [show n - out.length = 0 by omega, hdr] at this
      simp [pickP, intsN] at this
      simpa [h2'] using this

theorem rtake_put (hd : d < h.length) (hN : N ≤ 65536) (h0 : 1 ≤ N) (ps : List Nat) (hps : ps.length ≤ 65536) :
    ∀ (m i : Nat) (l : List Bool), i + m = ps.length → l.length = N → (∀ p ∈ ps.drop i, 1 ≤ p ∧ p < N) → ∀ ks Q,
      Xk T ks (.x 2) [(0, .ptr d 0), (6, .ps 1 (intsN ps)), (8, .int .i64 ps.length), (35, .bool false)] (Yh h d N (tkOf (setL l true (ps.drop i)))) Q →
      Xc T l_ref25_X_Take_1 ks [(0, .ptr d 0), (6, .ps 1 (intsN ps)), (8, .int .i64 i)] (Yh h d N (tkOf l)) Q := by
  have e0 : (intsN ps).length = ps.length := by simp [intsN]
  intro m
  induction m with
  | zero =>
    intro i l hk hl hm ks Q hQ
    rw [L_ref25_X_Take_1]; unfold bl_ref25_X_Take_1
    have e1 : i = ps.length := by omega
    subst e1
    simp (disch := omega) [e0]
    simpa [setL] using hQ
  | succ m ih =>
    intro i l hk hl hm ks Q hQ
    rw [L_ref25_X_Take_1]; unfold bl_ref25_X_Take_1
    have e1 : i < ps.length := by omega
    have e3 : (i : Int) < ps.length := by omega
    have e4 : (intsN ps)[i]? = some (.int .i64 ps[i]) := by simp [intsN, List.getElem?_eq_getElem e1]
    have da : ps.drop i = ps[i] :: ps.drop (i + 1) := List.drop_eq_getElem_cons e1
    have ht := tkOf_le l (by omega) (by omega)
    obtain ⟨b1, b2⟩ := hm ps[i] (by rw [da]; exact List.mem_cons_self)
    simp (disch := omega) [e0, e3, Yh_d hd, e4]
    rw [Xp_run (put_run (tkOf l) ps[i] [] (by omega)) (by simp [ints_hfs]) (by simp [ints_hfs]) (by simp)]
    simp (disch := omega) [Yh_d hd]
    rw [Yh_set _ _ rfl, putS_tk l (by omega) ps[i] b1 (by omega)]
    have := ih (i + 1) (l.set ps[i] true) (by omega) (by simpa using hl) (fun p hp => hm p (by rw [da]; exact List.mem_cons_of_mem _ hp)) ks Q (by
      rw [da] at hQ
      exact hQ)
    simpa using this

theorem rtake_range (n : Int) (hn : n < 1) (h : Heap) : Run T f_ref25_X_Take [.ptr d 0, .int .i64 n] h (.tup [.ps 1 [], .int .i64 3]) h := by
  refine Run.start t_ref25_X_Take ?_
  unfold k_ref25_X_Take
  simp (disch := omega) [hn]
theorem rtake_full (n : Int) (hd : d < h.length) (l : List Bool) (hl : l.length = N) (hN : N ≤ 65536) (h0 : 1 ≤ N) (h1 : 1 ≤ n) (hn : fr l < n) :
    Run T f_ref25_X_Take [.ptr d 0, .int .i64 n] (Yh h d N (tkOf l)) (.tup [.ps 1 [], .int .i64 13]) (Yh h d N (tkOf l)) := by
  refine Run.start t_ref25_X_Take ?_
  unfold k_ref25_X_Take
  have h2 : ¬ n < 1 := by omega
  have hf := rfree_run hd hN (tkOf_le l (by omega) (by omega))
  have hc := tkOf_len l (by omega) (by omega)
  rw [show (N : Int) - 1 - (tkOf l).length = fr l by omega] at hf
  simp (disch := omega) [h2]
  rw [Xf_run hf]
  simp (disch := omega) [hn]
theorem rtake_run (n : Nat) (hd : d < h.length) (l : List Bool) (hl : l.length = N) (hN : N ≤ 65536) (h0 : 1 ≤ N) (h1 : 1 ≤ n) (hn : n ≤ fr l) :
    Run T f_ref25_X_Take [.ptr d 0, .int .i64 n] (Yh h d N (tkOf l)) (.tup [.ps 1 (intsN (pickP (fun t => !t) l.tail 1 n)), .int .i64 0]) (Yh h d N (tkOf (setL l true (pickP (fun t => !t) l.tail 1 n)))) := by
  refine Run.start t_ref25_X_Take ?_
  unfold k_ref25_X_Take
  have h2 : ¬ (n : Int) < 1 := by omega
  have h3 : ¬ fr l < n := by omega
  have hf := rfree_run hd hN (tkOf_le l (by omega) (by omega))
  have hc := tkOf_len l (by omega) (by omega)
  rw [show (N : Int) - 1 - (tkOf l).length = fr l by omega] at hf
  have hcount := fr_count l
  have hlen := pickP_length (fun t => !t) l.tail 1 n
  have hlp : (pickP (fun t => !t) l.tail 1 n).length = n := by omega
  have hfl := @fr_le l
  simp (disch := omega) [h2]
  rw [Xf_run hf]
  simp (disch := omega) [h3]
  have hfi := rtake_find hd l hl hN n hn (N - 1) 1 [] (by omega) (by omega) (by simp) (by simpa using hlp)
  simp at hfi
  refine hfi _ _ ?_
  intro q
  simp (disch := omega)
  have hpu := rtake_put (h := h) hd hN h0 (pickP (fun t => !t) l.tail 1 n) (by omega) (pickP (fun t => !t) l.tail 1 n).length 0 l (by omega) hl (fun p hp => by
    obtain ⟨h5, h6, h7⟩ := pickP_mem _ _ _ _ _ hp
    rw [List.length_tail] at h6
    omega)
  simp at hpu
  refine hpu _ _ ?_
  simp (disch := omega)
end
end Ev
