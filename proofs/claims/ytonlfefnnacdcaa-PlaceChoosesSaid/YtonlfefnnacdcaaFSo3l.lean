/- Whole numbers that stand beside equal ones left out: slices.Compact. slices.Compact of whole numbers, a slice that stays. Wear: which block is worn least, which most. Wear: the reference's answers, gaps, what may be written. Places: which blocks they use. Places: what the reference says of them, and the counts. Places taken out of a slice of the heap (printed by gen/xpl3.py). place.Free and place.Stuck. Choosing copies: blocks used, of a slice of the heap or one that stays; the blocks that may be used. Choosing copies: others in blocks that may be used. Choosing copies: place.choice.others. Choosing copies: place.choice.others, on. Choosing copies: shrink. Choosing copies: shrink, and how it ends. Choosing copies: shrink, walked. Each theorem states its own conditions. -/
import Derived.Test.YtonlfefnnacdcaaFCode
import Derived.Test.YtonlfefnnacdcaaFSo
import Derived.Test.YtonlfefnnacdcaaFR01
set_option linter.all false
namespace Ev
open Go
set_option maxRecDepth 10000
attribute [-simp] getElem?_pos getElem?_neg
/-- A list without those that stand beside an equal one. -/
def ddF (p : Int) : List Int → List Int
  | [] => []
  | y :: r => if y = p then ddF p r else y :: ddF y r
def dd : List Int → List Int
  | [] => []
  | x :: r => x :: ddF x r
theorem ddF_app (l : List Int) : ∀ (p y : Int), ddF p (l ++ [y]) = ddF p l ++ (if y = (p :: l).getLast (by simp) then [] else [y]) := by
  induction l with
  | nil => intro p y; by_cases c : y = p <;> simp [ddF, c]
  | cons x r ih =>
    intro p y
    rw [List.cons_append, ddF, ddF]
    by_cases c : x = p
    · rw [if_pos c, if_pos c, ih]
      subst c
      by_cases c2 : y = (x :: r).getLast (by simp) <;> simp [c2]
    · rw [if_neg c, if_neg c, ih]
      by_cases c2 : y = (x :: r).getLast (by simp) <;> simp [c2]
theorem dd_take (l : List Int) (i : Nat) (h1 : 1 ≤ i) (h : i < l.length) : dd (l.take (i + 1)) = dd (l.take i) ++ (if l[i] = l[i - 1] then [] else [l[i]]) := by
  match l, h with
  | x :: r, h =>
    obtain ⟨i, rfl⟩ : ∃ k, i = k + 1 := ⟨i - 1, by omega⟩
    have hi : i < r.length := by simpa using h
    have e : r.take (i + 1) = r.take i ++ [r[i]] := by rw [List.take_succ, List.getElem?_eq_getElem hi]; rfl
    simp only [List.take_succ_cons, dd]
    rw [e, ddF_app]
    have g : (x :: r.take i).getLast (by simp) = (x :: r)[i] := by
      rw [List.getLast_eq_getElem]
      cases i with
      | zero => simp
      | succ i => simp [Nat.min_eq_left (Nat.le_of_lt hi)]
    rw [g]
    simp
theorem dd_len (l : List Int) : (dd l).length ≤ l.length := by
  cases l with
  | nil => simp [dd]
  | cons x r =>
    have : ∀ (r : List Int) (p : Int), (ddF p r).length ≤ r.length := by
      intro r
      induction r with
      | nil => intro p; simp [ddF]
      | cons y r ih =>
        intro p
        rw [ddF]
        split
        · have := ih p; simp; omega
        · have := ih y; simp; omega
    have := this r x
    simp [dd, this]
theorem dd_pos (l : List Int) (h : l ≠ []) : 1 ≤ (dd l).length := by
  cases l with
  | nil => exact absurd rfl h
  | cons x r => simp [dd]
section
variable {h : Heap} {b : Nat}
theorem cmp_in (l : List Int) (N K0 : Nat) (hN : l.length = N) (hb6 : N ≤ 1000000) (hK : 1 ≤ K0) (hK' : K0 < N) : ∀ (m k2 k : Nat) (cur : List Int) (h : Heap), 1 ≤ k2 → K0 + k2 + m = N → cur.length = N → h.row b = some (ints cur) → k ≤ K0 + k2 - 1 → (dd (l.take (K0 + k2))).length = k → cur.take k = dd (l.take (K0 + k2)) → cur.drop (K0 + k2 - 1) = l.drop (K0 + k2 - 1) → ∀ ks Q,
    (∀ h' cur' z, HK h h' b → cur'.length = N → Heap.row h' b = some (ints cur') → cur'.take (dd l).length = dd l → Xk T ks (.x 2) ((0, .hs 1 b 0 N) :: (3, .int .i64 (dd l).length) :: z) h' Q) →
    Xc T l_slices_Compact_int_int_0 ks [(0, .hs 1 b 0 N), (3, .int .i64 k), (4, .hs 1 b K0 (N - K0)), (5, .int .i64 k2)] h Q := by
  intro m
  induction m with
  | zero =>
    intro k2 k cur h h1 h2 hc hr hk hd ht hdr ks Q hx
    rw [L_slices_Compact_int_int_0]; unfold bl_slices_Compact_int_int_0
    have c1 : ¬ (k2 : Int) < ((N - K0 : Nat) : Int) := by omega
    have e1 : l.take (K0 + k2) = l := List.take_of_length_le (by omega)
    rw [e1] at hd ht
    rw [← hd] at ht
    simp (disch := omega) [c1]
    rw [← hd] at *
    exact hx h cur _ (HK.refl _ _) hc hr ht
  | succ m ih =>
    intro k2 k cur h h1 h2 hc hr hk hd ht hdr ks Q hx
    rw [L_slices_Compact_int_int_0]; unfold bl_slices_Compact_int_int_0
    have c1 : (k2 : Int) < ((N - K0 : Nat) : Int) := by omega
    have jl := hlt hr
    have il : (ints cur).length = N := by rw [ints_len, hc]
    have hq : ∀ (p : Nat) (hp : p < l.length), K0 + k2 - 1 ≤ p → (ints cur)[p]? = some (.int .i64 l[p]) := fun p hp h4 => by
      rw [ints_get]
      have := congrArg (fun z => z[p - (K0 + k2 - 1)]?) hdr
      simp only [List.getElem?_drop] at this
      rw [show K0 + k2 - 1 + (p - (K0 + k2 - 1)) = p by omega] at this
      rw [this, List.getElem?_eq_getElem hp]; rfl
    have g1 := hq (K0 + k2) (by omega) (by omega)
    have g2 := hq (K0 + (k2 - 1)) (by omega) (by omega)
    have e5 : ((k2 : Int) - 1).toNat = k2 - 1 := by omega
    have c2 : ((k2 : Int) - 1) < ((N - K0 : Nat) : Int) := by omega
    have dt := dd_take l (K0 + k2) (by omega) (by omega)
    have e6 : K0 + k2 - 1 = K0 + (k2 - 1) := by omega
    have ee : ((k2 : Int) + 1) = ((k2 + 1 : Nat) : Int) := by omega
    simp only [e6] at dt
    have tk : (l.take (K0 + k2 + 1)).length = K0 + k2 + 1 := by rw [List.length_take]; omega
    simp (disch := omega) [c1, hr, g1, g2, e5, il]
    by_cases c3 : l[K0 + k2]'(by omega) = l[K0 + (k2 - 1)]'(by omega)
    · rw [if_pos c3, List.append_nil] at dt
      have := ih (k2 + 1) k cur h (by omega) (by omega) hc hr (by omega) (by rw [← Nat.add_assoc, dt]; exact hd) (by rw [← Nat.add_assoc, dt]; exact ht) (by
        rw [show K0 + (k2 + 1) - 1 = (K0 + k2 - 1) + 1 by omega, ← List.drop_drop, ← List.drop_drop, hdr]) ks Q hx
      simp (disch := omega) [c3]
      simpa using this
    · rw [if_neg c3] at dt
      have kN : k < N := by omega
      have := ih (k2 + 1) (k + 1) (cur.set k (l[K0 + k2]'(by omega))) (h.set b (some (ints (cur.set k (l[K0 + k2]'(by omega)))))) (by omega) (by omega) (by simp [hc]) (by rw [row_set jl]) (by omega) (by rw [← Nat.add_assoc, dt]; simp [hd]) (by
          rw [← Nat.add_assoc, dt, ← ht, List.take_succ, List.take_set_of_le (Nat.le_refl _), List.getElem?_set_self (by omega)]; rfl) (by
          rw [List.drop_set_of_lt (by omega), show K0 + (k2 + 1) - 1 = (K0 + k2 - 1) + 1 by omega, ← List.drop_drop, ← List.drop_drop, hdr]) ks Q (fun h' cur' z a b' => hx h' cur' z ((HK.set _ _ _).trans a) b')
      have si : ints (cur.set k (l[K0 + k2]'(by omega))) = (ints cur).set k (.int .i64 (l[K0 + k2]'(by omega))) := by simp [ints, List.map_set]
      rw [si] at this
      simp (disch := omega) [c3, hr, g1, il, kN]
      simpa using this
theorem cmp_out (l : List Int) (N : Nat) (hN : l.length = N) (hb6 : N ≤ 1000000) : ∀ (m k : Nat) (h : Heap), 1 ≤ k → k + m = N → h.row b = some (ints l) → dd (l.take k) = l.take k → ∀ ks Q,
    (dd l = l → ∀ z, Xk T ks (.x 0) ((0, .hs 1 b 0 N) :: z) h Q) →
    (∀ h' R, HK h h' b → Heap.row h' b = some R → (dd l).length ≤ R.length → R.take (dd l).length = ints (dd l) → Xk T ks .r [(2, .hs 1 b 0 (dd l).length)] h' Q) →
    Xc T l_slices_Compact_int_int_1 ks [(0, .hs 1 b 0 N), (3, .int .i64 k)] h Q := by
  intro m
  induction m with
  | zero =>
    intro k h h1 h2 hr hd ks Q hx hy
    rw [L_slices_Compact_int_int_1]; unfold bl_slices_Compact_int_int_1
    have c1 : ¬ (k : Int) < N := by omega
    rw [List.take_of_length_le (by omega)] at hd
    simp (disch := omega) [c1]
    exact hx hd _
  | succ m ih =>
    intro k h h1 h2 hr hd ks Q hx hy
    rw [L_slices_Compact_int_int_1]; unfold bl_slices_Compact_int_int_1
    have c1 : (k : Int) < N := by omega
    have kN : k < N := by omega
    have il : (ints l).length = N := by rw [ints_len, hN]
    have g1 : (ints l)[k]? = some (.int .i64 (l[k]'(by omega))) := by rw [ints_get, List.getElem?_eq_getElem (by omega)]; rfl
    have g2 : (ints l)[k - 1]? = some (.int .i64 (l[k - 1]'(by omega))) := by rw [ints_get, List.getElem?_eq_getElem (by omega)]; rfl
    have e5 : ((k : Int) - 1).toNat = k - 1 := by omega
    have dt := dd_take l k (by omega) (by omega)
    simp (disch := omega) [c1, hr, g1, g2, e5, il, kN]
    by_cases c3 : l[k]'(by omega) = l[k - 1]'(by omega)
    · rw [if_pos c3, List.append_nil] at dt
      have tk : (l.take k).length = k := by rw [List.length_take]; omega
      have sv1 := slN_lo 1 b N k kN
      have cI := cmp_in (b := b) l N k hN hb6 h1 kN m 1 k l h (by omega) (by omega) hN hr (by omega) (by rw [dt, hd, tk]) (by rw [dt, hd]) rfl
      have dp := dd_pos l (by intro e; rw [e] at hN; simp at hN; omega)
      have dl : (dd l).length < N := by
        have : ∀ (m i : Nat), k + 1 + i + m = N → (dd (l.take (k + 1 + i))).length ≤ k + i → (dd l).length ≤ N - 1 := by
          intro m
          induction m with
          | zero => intro i h3 h4; rw [List.take_of_length_le (by omega)] at h4; omega
          | succ m ih =>
            intro i h3 h4
            refine ih (i + 1) (by omega) ?_
            have := dd_take l (k + 1 + i) (by omega) (by omega)
            rw [← Nat.add_assoc, this, List.length_append]
            split <;> simp <;> omega
        have := this m 0 (by omega) (by rw [Nat.add_zero, dt, hd, tk]; omega)
        omega
      generalize hM : (dd l).length = M at *
      simp (disch := omega) [c3, sv1]
      refine cI _ _ fun h' cur z q1 q2 q3 q4 => ?_
      have sv2 := slN_lo 1 b N M dl
      have sv3 := slN_hi 1 b N M (by omega)
      have il2 : (ints cur).length = N := by rw [ints_len, q2]
      have cv := clrN h' 1 b (M * 1) (N - M) [.int .i64 0] (ints cur) rfl q3 (by rw [il2]; omega)
      have M0 : M ≠ 0 := by omega
      have rl : (repZ (N - M) [V.int .i64 0]).length = N - M := by simp [repZ]
      rw [if_neg M0] at sv3
      simp only [Nat.mul_one] at sv2 cv
      simp (disch := omega) [sv2, sv3, cv]
      refine hy _ _ (q1.trans (HK.set _ _ _)) (row_set (hlt q3)) ?_ ?_
      · simp only [spliceL, List.length_append, List.length_take, rl, il2]; omega
      · unfold spliceL
        rw [List.append_assoc, List.take_left' (by rw [List.length_take]; omega)]
        rw [← q4]; simp [ints, List.map_take]
    · rw [if_neg c3, hd] at dt
      have := ih (k + 1) h (by omega) (by omega) hr (by rw [dt, List.take_succ, List.getElem?_eq_getElem (by omega)]; rfl) ks Q hx hy
      simp (disch := omega) [c3]
      simpa using this
end
theorem CompactP_run (l : List Int) (hb6 : l.length ≤ 1000000) (hl : l ≠ []) (b : Nat) (h : Heap) (hr : h.row b = some (ints l)) :
    ∃ h', Run T f_slices_Compact_int_int [.hs 1 b 0 l.length] h (.ps 1 (ints (dd l))) h' ∧ HK h h' b := by
  have ln : l.length ≠ 0 := fun e => hl (List.eq_nil_of_length_eq_zero e)
  have lp := cmp_out (b := b) l l.length rfl hb6 (l.length - 1) 1 h (by omega) (by omega) hr (by
    cases l with
    | nil => exact absurd rfl hl
    | cons x r => simp [dd, ddF])
  have fz : ∀ (g : Heap) (R : List V) (F : List Int), Heap.row g b = some R → F.length ≤ R.length → R.take F.length = ints F → freeze1 false (.hs 1 b 0 F.length) g = some (.ps 1 (ints F), g.set b none) := fun g R F h9 h11 h10 => by
    have hc : hsCells g 1 b 0 F.length = some (ints F) := by simp [hsCells, h9, h10, h11]
    have ck : chunkOk 1 false (ints F) = true := by simp [chunkOk, ints]
    simp only [freeze1, hc, Option.bind_some]
    rw [if_pos ck, chunk1 _ _ (ints_len F)]
  obtain ⟨v, h', ⟨ev, q1⟩, r⟩ := Run.startP (P := fun v h' => v = .ps 1 (ints (dd l)) ∧ HK h h' b) (vs := [.hs 1 b 0 l.length]) (h := h) t_slices_Compact_int_int (by
    unfold k_slices_Compact_int_int
    by_cases c : l.length < 2
    · have e : dd l = l := by
        match l, c with
        | [], _ => rfl
        | [x], _ => rfl
        | x :: y :: r, c => simp at c; omega
      have c' : (l.length : Int) < 2 := by omega
      have f := fz h (ints l) l hr (by rw [ints_len]; omega) (List.take_of_length_le (by rw [ints_len]; omega))
      simp (disch := omega) [c, c', e]
      rw [f]
      simp only [Option.bind_some, epiP_some]
      exact ⟨rfl, HK.set _ _ _⟩
    · have c' : ¬ (l.length : Int) < 2 := by omega
      simp (disch := omega) [c, c']
      refine lp _ _ (fun e z => ?_) (fun h' R q1 q2 q3 q4 => ?_)
      · have f := fz h (ints l) l hr (by rw [ints_len]; omega) (List.take_of_length_le (by rw [ints_len]; omega))
        simp (disch := omega) [e]
        rw [f]
        simp only [Option.bind_some, epiP_some]
        exact ⟨rfl, HK.set _ _ _⟩
      · have f := fz h' R (dd l) q2 q3 q4
        simp (disch := omega)
        rw [f]
        simp only [Option.bind_some, epiP_some]
        exact ⟨rfl, q1.trans (HK.set _ _ _)⟩)
  subst ev
  exact ⟨h', r, q1⟩
theorem CompactP_hn (h : Heap) : Run T f_slices_Compact_int_int [.hn 1] h (.ps 1 []) h := by
  refine Run.start t_slices_Compact_int_int ?_
  unfold k_slices_Compact_int_int
  simp (disch := omega)
section
variable {ks : List Kt} {ops : List AOpr} {K : Kp} {e : Env} {h : Heap} {Q : Ex → Env → Heap → Prop} {d : Nat} {lent : Bool}
theorem Has_p (l : List Int) (x : Int) (hl : l.length < 4611686018427387904) : Xp T f_ref13_Has (some ([.ps 1 (ints l), .int .i64 x], lent)) h (some d) ops K ks e Q = Xo T ops K ks ((d, .bool (decide (x ∈ l))) :: e) h Q :=
  Xp_run (Has_run l x [] hl) (by simp [ints_hfs]) rfl (by simp [scalar])
end
section
variable {ks : List Kt} {ops : List AOpr} {K : Kp} {e : Env} {h : Heap} {Q : Ex → Env → Heap → Prop} {d : Nat} {lent : Bool}
end
section
variable {ks : List Kt} {ops : List AOpr} {K : Kp} {e : Env} {h : Heap} {Q : Ex → Env → Heap → Prop} {d : Nat} {lent : Bool}
end
theorem Index_loop (h : Heap) (l : List Int) (x : Int) (hb : l.length < 4611686018427387904) : ∀ (k i : Nat), i + k = l.length → ∀ ks Q,
    (x ∉ l.drop i → Xk T ks (.x 0) [(0, .ps 1 (ints l)), (1, .int .i64 x), (7, .int .i64 l.length), (8, .int .i64 l.length), (9, .bool false)] h Q) →
    (x ∈ l.drop i → ∀ j : Nat, Xk T ks .r [(4, .int .i64 j)] h Q) →
    Xc T l_slices_Index_int_int_0 ks [(0, .ps 1 (ints l)), (1, .int .i64 x), (7, .int .i64 l.length), (8, .int .i64 i)] h Q := by
  intro k
  induction k with
  | zero =>
    intro i hk ks Q h1 h2
    rw [L_slices_Index_int_int_0]; unfold bl_slices_Index_int_int_0
    have e0 : i = l.length := by omega
    subst e0
    simp (disch := omega)
    exact h1 (by simp)
  | succ k ih =>
    intro i hk ks Q h1 h2
    rw [L_slices_Index_int_int_0]; unfold bl_slices_Index_int_int_0
    have e1 : i < l.length := by omega
    have e3 : (i : Int) < l.length := by omega
    have da : l.drop i = l[i] :: l.drop (i + 1) := List.drop_eq_getElem_cons e1
    simp (disch := omega) [ints_get, e3, List.getElem?_eq_getElem e1]
    apply Xb_dec
    · intro he
      simp (disch := omega)
      exact h2 (by rw [da, ← he]; simp) i
    · intro hne
      simp (disch := omega)
      have := ih (i + 1) (by omega) ks Q (fun hh => h1 (by rw [da, List.mem_cons]; exact fun q => q.elim hne hh)) (fun hh => h2 (by rw [da, List.mem_cons]; exact .inr hh))
      simpa using this
theorem Index_run (l : List Int) (x : Int) (h : Heap) (hb : l.length < 4611686018427387904) : ∃ j : Int, (0 ≤ j ↔ x ∈ l) ∧ Run T f_slices_Index_int_int [.ps 1 (ints l), .int .i64 x] h (.int .i64 j) h := by
  obtain ⟨v, h', ⟨k, rfl, rfl, hk⟩, hr⟩ := Run.startP (P := fun v h' => ∃ k : Int, v = .int .i64 k ∧ h' = h ∧ (0 ≤ k ↔ x ∈ l)) t_slices_Index_int_int (vs := [.ps 1 (ints l), .int .i64 x]) (h := h) (by
    unfold k_slices_Index_int_int
    simp (disch := omega) [ints_len]
    have := Index_loop h l x hb l.length 0 (by omega)
    simp at this
    refine this _ _ (fun hx => ?_) (fun hx j => ?_)
    · simp (disch := omega) [hx]
    · simp (disch := omega) [hx])
  exact ⟨k, hk, hr⟩
theorem Contains_run (l : List Int) (x : Int) (h : Heap) (hb : l.length < 4611686018427387904) : Run T f_slices_Contains_int_int [.ps 1 (ints l), .int .i64 x] h (.bool (decide (x ∈ l))) h := by
  refine Run.start t_slices_Contains_int_int ?_
  unfold k_slices_Contains_int_int
  obtain ⟨j, hj, hr⟩ := Index_run l x [] hb
  simp (disch := omega)
  rw [Xp_run hr (by simp [ints_hfs]) rfl (by simp [scalar])]
  simp (disch := omega) [hj]
section
variable {ks : List Kt} {ops : List AOpr} {K : Kp} {e : Env} {h : Heap} {Q : Ex → Env → Heap → Prop} {d : Nat} {lent : Bool}
theorem Contains_p (l : List Int) (x : Int) (hl : l.length < 4611686018427387904) : Xp T f_slices_Contains_int_int (some ([.ps 1 (ints l), .int .i64 x], lent)) h (some d) ops K ks e Q = Xo T ops K ks ((d, .bool (decide (x ∈ l))) :: e) h Q :=
  Xp_run (Contains_run l x [] hl) (by simp [ints_hfs]) rfl (by simp [scalar])
end
section
variable {ks : List Kt} {ops : List AOpr} {K : Kp} {e : Env} {h : Heap} {Q : Ex → Env → Heap → Prop} {d : Nat} {lent : Bool}
end
structure Pt where
  b : Int
  k : Int
  deriving Inhabited, DecidableEq
def Pt.cs (p : Pt) : List V := [.int .i64 p.b, .int .i64 p.k]
def Pt.v (p : Pt) : V := .agg p.cs
def Pt.vs (l : List Pt) : List V := l.map Pt.v
theorem pt_len (l : List Pt) : (Pt.vs l).length = l.length := by simp [Pt.vs]
theorem pt_get (l : List Pt) (i : Nat) : (Pt.vs l)[i]? = (l[i]?).map Pt.v := by simp [Pt.vs]
theorem pt_at (l : List Pt) (i : Nat) (h : i < l.length) : (Pt.vs l)[i]? = some l[i].v := by rw [pt_get, List.getElem?_eq_getElem h]; rfl
theorem pt_cells (p : Pt) : p.v.cells = [.int .i64 p.b, .int .i64 p.k] := rfl
theorem pt_hf (l : List Pt) : V.hfs (Pt.vs l) = true := by
  induction l with
  | nil => rfl
  | cons x l ih => show (V.hf x.v && V.hfs (Pt.vs l)) = true; rw [ih]; rfl
def blkOf (l : List Pt) : List Int := l.map (·.b)
/-- All rows stay. -/
def HA (g g' : Heap) : Prop := g.length ≤ g'.length ∧ ∀ i, i < g.length → Heap.row g' i = Heap.row g i
theorem HA.refl (g : Heap) : HA g g := ⟨Nat.le_refl _, fun _ _ => rfl⟩
theorem HA.app (g w : Heap) : HA g (g ++ w) := ⟨by simp, fun i h => row_app h⟩
theorem HA.trans {g h k : Heap} (a : HA g h) (b : HA h k) : HA g k := ⟨Nat.le_trans a.1 b.1, fun i hi => (b.2 i (Nat.lt_of_lt_of_le hi a.1)).trans (a.2 i hi)⟩
theorem HA.upd {g h : Heap} {b : Nat} (k : HA g h) (hb : g.length ≤ b) (v : Option (List V)) : HA g (h.set b v) := by
  refine ⟨by have := k.1; simp; omega, fun i hi => ?_⟩
  rw [row_ne (by omega)]
  exact k.2 i hi
theorem HA.hk {g h h' : Heap} {b : Nat} (k : HA g h) (hb : g.length ≤ b) (q : HK h h' b) : HA g h' := ⟨Nat.le_trans k.1 q.1, fun i hi => (q.2 i (by omega) (Nat.lt_of_lt_of_le hi k.1)).trans (k.2 i hi)⟩
theorem setrow {h : Heap} {b : Nat} {cs : List V} (hr : h.row b = some cs) : h.set b (some cs) = h := by
  have hb := hlt hr
  refine List.ext_getElem (by simp) fun i h1 h2 => ?_
  rw [List.getElem_set]
  split
  · rename_i e
    subst e
    unfold Heap.row at hr
    rw [List.getElem?_eq_getElem hb] at hr
    simpa using hr.symm
  · rfl
/-- A slice of whole numbers that grows. -/
def GrV (s : List Int) (v : V) (lo : Nat) (g : Heap) : Prop :=
  (s = [] ∧ v = .hn 1) ∨ (s ≠ [] ∧ ∃ o, v = .hs 1 o 0 s.length ∧ lo ≤ o ∧ Heap.row g o = some (ints s))
theorem used_loop (l : List Pt) (hl : l.length ≤ 60) (g0 : Heap) : ∀ (m i : Nat) (ov : V) (g : Heap), i + m = l.length → HA g0 g → GrV (blkOf (l.take i)) ov g0.length g → ∀ ks Q,
    (∀ z g' ov', HA g0 g' → GrV (blkOf l) ov' g0.length g' → Xk T ks (.x 0) ((3, ov') :: z) g' Q) →
    Xc T l_place_Used_0 ks [(3, ov), (6, .ps 2 (Pt.vs l)), (7, .int .i64 l.length), (8, .int .i64 i)] g Q := by
  intro m
  induction m with
  | zero =>
    intro i ov g hi ha ho ks Q hx
    rw [L_place_Used_0]; unfold bl_place_Used_0
    have c1 : ¬ (i : Int) < l.length := by omega
    have e : i = l.length := by omega
    subst e
    rw [List.take_length] at ho
    simp (disch := omega)
    exact hx _ g ov ha ho
  | succ m ih =>
    intro i ov g hi ha ho ks Q hx
    rw [L_place_Used_0]; unfold bl_place_Used_0
    have hil : i < l.length := by omega
    have c1 : (i : Int) < l.length := by omega
    have g1 := pt_at l i hil
    have bt : blkOf (l.take (i + 1)) = blkOf (l.take i) ++ [l[i].b] := by
      unfold blkOf
      rw [List.take_succ, List.getElem?_eq_getElem hil, List.map_append]; rfl
    have bl : (blkOf (l.take i)).length = i := by simp [blkOf]; omega
    have bl2 : (blkOf (l.take (i + 1))).length = i + 1 := by simp [blkOf]; omega
    have pc := pt_cells l[i]
    obtain ⟨p, hp⟩ : ∃ p, p = l[i] := ⟨_, rfl⟩
    rw [← hp] at g1 bt pc
    have sp : spliceL [V.int .i64 0, V.int .i64 0] 0 [V.int .i64 p.b, V.int .i64 p.k] = [V.int .i64 p.b, V.int .i64 p.k] := rfl
    have ih := ih (i + 1)
    rw [show ((i + 1 : Nat) : Int) = (i : Int) + 1 from rfl] at ih
    have il : ∀ s : List Int, (ints s).length = s.length := ints_len
    rcases ho with ⟨h1, rfl⟩ | ⟨h1, o, rfl, h2, h3⟩
    · rw [h1] at bt
      simp (disch := omega) [c1, hil, g1, pc, sp]
      refine ih _ _ (by omega) (ha.trans (HA.app _ _)) (.inr ⟨by rw [bt]; simp, g.length + 1, by rw [bt]; rfl, by have := ha.1; omega, ?_⟩) ks Q hx
      have e2 : g ++ [some [V.int .i64 p.b, V.int .i64 p.k], some [V.int .i64 p.b]] = (g ++ [some [V.int .i64 p.b, V.int .i64 p.k]]) ++ [some [V.int .i64 p.b]] := by simp
      have e3 : g.length + 1 = (g ++ [some [V.int .i64 p.b, V.int .i64 p.k]]).length := by simp
      rw [e2, e3, row_new, bt]
      rfl
    · have ol := hlt h3
      have h3A : ∀ w, Heap.row (g ++ w) o = some (ints (blkOf (l.take i))) := fun w => by rw [row_app ol]; exact h3
      simp (disch := omega) [c1, hil, g1, pc, sp, h3A, bl, il]
      have e2 : g.set o none ++ [some [V.int .i64 p.b, V.int .i64 p.k], some (ints (blkOf (l.take i)) ++ [V.int .i64 p.b])] = (g.set o none ++ [some [V.int .i64 p.b, V.int .i64 p.k]]) ++ [some (ints (blkOf (l.take (i + 1))))] := by
        rw [bt]; simp [ints]
      have e3 : g.length + 1 = (g.set o none ++ [some [V.int .i64 p.b, V.int .i64 p.k]]).length := by simp
      refine ih _ _ (by omega) ((ha.upd h2 _).trans (HA.app _ _)) (.inr ⟨by intro e; rw [e] at bl2; simp at bl2, g.length + 1, by rw [bl2], by have := ha.1; omega, ?_⟩) ks Q hx
      rw [e2, e3, row_new]
theorem ddF_memP : ∀ (r : List Int) (p x : Int), x ∈ p :: ddF p r ↔ x ∈ p :: r
  | [], p, x => by simp [ddF]
  | y :: r, p, x => by
    rw [ddF]
    split
    · rename_i c
      subst c
      rw [ddF_memP r y x]
      simp
    · have := ddF_memP r y x
      rw [List.mem_cons, this]
      simp [List.mem_cons]
theorem dd_memP (l : List Int) (x : Int) : x ∈ dd l ↔ x ∈ l := by
  cases l with
  | nil => simp [dd]
  | cons y r => exact ddF_memP r y x
theorem ddF_ltP : ∀ (r : List Int) (p : Int), (p :: r).Pairwise (· ≤ ·) → (p :: ddF p r).Pairwise (· < ·)
  | [], p, _ => by simp [ddF]
  | y :: r, p, h => by
    have h1 := (List.pairwise_cons.1 h).1
    have h2 := (List.pairwise_cons.1 h).2
    have hy : p ≤ y := h1 y (by simp)
    rw [ddF]
    split
    · rename_i c
      subst c
      exact ddF_ltP r y h2
    · rename_i c
      have i2 := ddF_ltP r y h2
      refine List.pairwise_cons.2 ⟨fun x hx => ?_, i2⟩
      rcases List.mem_cons.1 hx with rfl | hx
      · omega
      · have := (List.pairwise_cons.1 i2).1 x hx; omega
theorem dd_ltP (l : List Int) (h : l.Pairwise (· ≤ ·)) : (dd l).Pairwise (· < ·) := by
  cases l with
  | nil => exact List.Pairwise.nil
  | cons x r => exact ddF_ltP r x h
theorem rising_eq : ∀ (a b : List Int), a.Pairwise (· < ·) → b.Pairwise (· < ·) → (∀ x, x ∈ a ↔ x ∈ b) → a = b
  | [], [], _, _, _ => rfl
  | [], y :: b, _, _, h => by have := (h y).2 (by simp); simp at this
  | x :: a, [], _, _, h => by have := (h x).1 (by simp); simp at this
  | x :: a, y :: b, ha, hb, h => by
    obtain ⟨a1, a2⟩ := List.pairwise_cons.1 ha
    obtain ⟨b1, b2⟩ := List.pairwise_cons.1 hb
    have hx := (h x).1 (by simp)
    have hy := (h y).2 (by simp)
    have e : x = y := by
      rcases List.mem_cons.1 hx with e | hx
      · exact e
      · rcases List.mem_cons.1 hy with e | hy
        · exact e.symm
        · have := b1 x hx; have := a1 y hy; omega
    subst e
    rw [rising_eq a b a2 b2 fun z => ?_]
    have := h z
    simp only [List.mem_cons] at this
    constructor
    · intro hz
      rcases this.1 (.inr hz) with e | e
      · have := a1 z hz; omega
      · exact e
    · intro hz
      rcases this.2 (.inr hz) with e | e
      · have := b1 z hz; omega
      · exact e
theorem Sort_hn (h : Heap) : Run T f_slices_Sort_int_int [.hn 1] h (.tup []) h := by
  have r1 : Run T f_slices_insertionSortOrdered_int [.hn 1, .int .i64 0, .int .i64 0] h (.tup []) h := by
    refine Run.start t_slices_insertionSortOrdered_int ?_
    unfold k_slices_insertionSortOrdered_int
    simp (disch := omega)
    rw [L_slices_insertionSortOrdered_int_1]; unfold bl_slices_insertionSortOrdered_int_1
    simp (disch := omega)
  have r2 : ∀ lim, Run T f_slices_pdqsortOrdered_int [.hn 1, .int .i64 0, .int .i64 0, .int .i64 lim] h (.tup []) h := fun lim => by
    refine Run.start t_slices_pdqsortOrdered_int ?_
    unfold k_slices_pdqsortOrdered_int
    simp (disch := omega)
    rw [L_slices_pdqsortOrdered_int_0]; unfold bl_slices_pdqsortOrdered_int_0
    simp (disch := omega)
    rw [Xf_run r1]
    simp (disch := omega)
  refine Run.start t_slices_Sort_int_int ?_
  unfold k_slices_Sort_int_int
  have := len_run [] 0 (by omega)
  simp at this
  simp (disch := omega)
  rw [Xp_run this (by simp) (by simp) (by simp)]
  simp (disch := omega)
  rw [Xf_run (r2 _)]
  simp (disch := omega)
theorem Used_run (l : List Pt) (hl : l.length ≤ 60) (g0 : Heap) : ∃ U g', U.Pairwise (· < ·) ∧ (∀ x, x ∈ U ↔ x ∈ blkOf l) ∧ HA g0 g' ∧ U.length ≤ l.length ∧ Run T f_place_Used [.ps 2 (Pt.vs l)] g0 (.ps 1 (ints U)) g' := by
  have lp := used_loop l hl g0 l.length 0 (.hn 1) g0 (by omega) (HA.refl _) (.inl ⟨rfl, rfl⟩)
  obtain ⟨v, g', ⟨U, ev, q1, q2, q3, q4⟩, r⟩ := Run.startP (P := fun v g' => ∃ U, v = .ps 1 (ints U) ∧ U.Pairwise (· < ·) ∧ (∀ x, x ∈ U ↔ x ∈ blkOf l) ∧ HA g0 g' ∧ U.length ≤ l.length) (vs := [.ps 2 (Pt.vs l)]) (h := g0) t_place_Used (by
    unfold k_place_Used
    simp (disch := omega) [pt_len]
    refine lp _ _ fun z g1 ov ha ho => ?_
    rcases ho with ⟨h1, rfl⟩ | ⟨h1, o, rfl, h2, h3⟩
    · simp (disch := omega)
      rw [Xf_run (Sort_hn _)]
      simp (disch := omega)
      rw [Xf_run (CompactP_hn _)]
      simp (disch := omega)
      exact ⟨[], rfl, .nil, fun x => by rw [h1], ha, by simp⟩
    · have bl : (blkOf l).length = l.length := by simp [blkOf]
      obtain ⟨g2, d', a1, a2, a3, rs⟩ := sortf_run (h0 := g1) (h := g1) (b := o) (hlt h3) Agree.refl (blkOf l).toArray (by simp [bl]; omega)
      have sd : SD g1 o (blkOf l).toArray = g1 := by
        unfold SD
        exact setrow (by simpa using h3)
      have fsz : (blkOf l).toArray.size = (blkOf l).length := by simp
      rw [sd, fsz] at rs
      have dsz : d'.size = (blkOf l).length := by rw [a2.1, fsz]
      have perm : d'.toList.Perm (blkOf l) := by
        have := a2.2.2
        simp at this
        rwa [List.take_of_length_le (by simp [dsz])] at this
      have srt : d'.toList.Pairwise (· ≤ ·) := by
        rw [List.pairwise_iff_getElem]
        intro i j hi hj hij
        simp at hi hj
        have := a3 i j (Nat.zero_le _) hij (by rw [fsz, ← dsz]; exact hj)
        simp only [Sort.ltInt, decide_eq_false_iff_not] at this
        simp only [getElem!_pos d' i hi, getElem!_pos d' j hj] at this
        simp
        omega
      have b2 : o < g2.length := Nat.lt_of_lt_of_le (hlt h3) a1.1
      have dl : d'.toList.length = (blkOf l).length := by simp [dsz]
      obtain ⟨g3, rc, hk⟩ := CompactP_run d'.toList (by rw [dl, bl]; omega) (by intro e; rw [e] at dl; exact h1 (List.eq_nil_of_length_eq_zero dl.symm)) o (SD g2 o d') (SD_row b2 d')
      rw [dl] at rc
      simp (disch := omega)
      rw [Xf_run rs]
      simp (disch := omega)
      rw [Xf_run rc]
      simp (disch := omega)
      refine ⟨dd d'.toList, rfl, dd_ltP _ srt, fun x => (dd_memP _ x).trans perm.mem_iff, ?_⟩
      have ha2 : HA g0 (SD g2 o d') := by
        refine ⟨by rw [SD_len]; exact Nat.le_trans ha.1 a1.1, fun i hi => ?_⟩
        unfold SD
        rw [row_ne (by omega), a1.2 i (Nat.lt_of_lt_of_le hi ha.1) (by omega)]
        exact ha.2 i hi
      exact ⟨ha2.hk h2 hk, by have := dd_len d'.toList; omega⟩)
  subst ev
  exact ⟨U, g', q1, q2, q3, q4, r⟩
theorem pt_v (p : Pt) : p.v = .agg [.int .i64 p.b, .int .i64 p.k] := rfl
theorem rising_ins {s : List Int} (hs : s.Pairwise (· < ·)) {k : Nat} {x : Int} (h1 : ∀ y ∈ s.take k, y < x) (h2 : ∀ y, s[k]? = some y → x < y) : (s.take k ++ [x] ++ s.drop k).Pairwise (· < ·) := by
  have hd : ∀ y ∈ s.drop k, x < y := fun y hy => by
    by_cases hk : k < s.length
    · have e := List.drop_eq_getElem_cons hk
      have h0 := h2 _ (List.getElem?_eq_getElem hk)
      rw [e] at hy
      rcases List.mem_cons.1 hy with rfl | hy
      · exact h0
      · have := hs.sublist (List.drop_sublist k s)
        rw [e] at this
        have := (List.pairwise_cons.1 this).1 y hy
        omega
    · rw [List.drop_eq_nil_of_le (by omega)] at hy; simp at hy
  refine List.pairwise_append.2 ⟨List.pairwise_append.2 ⟨hs.sublist (List.take_sublist _ _), List.pairwise_singleton _ _, fun a ha b hb => ?_⟩, hs.sublist (List.drop_sublist _ _), fun a ha b hb => ?_⟩
  · rw [List.mem_singleton] at hb; subst hb; exact h1 a ha
  · have hb := hd b hb
    rcases List.mem_append.1 ha with ha | ha
    · have := h1 a ha; omega
    · rw [List.mem_singleton] at ha; subst ha; exact hb
theorem ins_mem (s : List Int) (k : Nat) (y x : Int) : x ∈ s.take k ++ [y] ++ s.drop k ↔ x ∈ s ∨ x = y := by
  have e : x ∈ s ↔ x ∈ s.take k ∨ x ∈ s.drop k := by rw [← List.mem_append, List.take_append_drop]
  rw [e]
  simp only [List.mem_append, List.mem_singleton]
  constructor <;> rintro ((h | h) | h) <;> simp [h]
theorem Blk_in (l : List Pt) (s : List Int) (i : Nat) (hi : i < l.length) (hl : l.length ≤ 1000) (hs : s.length ≤ 1000) (h : Heap) : ∀ (m k : Nat), k + m = s.length → (∀ y ∈ s.take k, y < l[i].b) → ∀ ks Q,
    (∀ k' z, k' ≤ s.length → (∀ y ∈ s.take k', y < l[i].b) → (∀ y, s[k']? = some y → l[i].b ≤ y) → Xk T ks (.x 2) ((0, .ps 2 (Pt.vs l)) :: (3, .ps 1 (ints s)) :: (4, .int .i64 i) :: (5, .int .i64 k') :: z) h Q) →
    Xc T l_ref20_Blocks_0 ks [(0, .ps 2 (Pt.vs l)), (3, .ps 1 (ints s)), (4, .int .i64 i), (5, .int .i64 k)] h Q := by
  intro m
  induction m with
  | zero =>
    intro k hk hlt ks Q hx
    rw [L_ref20_Blocks_0]; unfold bl_ref20_Blocks_0
    have c1 : ¬ (k : Int) < s.length := by omega
    simp (disch := omega) [c1, ints_len]
    exact hx k _ (by omega) hlt (fun y hy => by rw [List.getElem?_eq_none (by omega)] at hy; cases hy)
  | succ m ih =>
    intro k hk hlt ks Q hx
    rw [L_ref20_Blocks_0]; unfold bl_ref20_Blocks_0
    have hks : k < s.length := by omega
    have c1 : (k : Int) < s.length := by omega
    have g1 := pt_at l i hi
    have pc := pt_cells l[i]
    have g2 : (ints s)[k]? = some (.int .i64 s[k]) := by rw [ints_get, List.getElem?_eq_getElem hks]; rfl
    by_cases c2 : s[k] < l[i].b
    · simp (disch := omega) [c1, ints_len, g1, g2, pc, c2]
      have := ih (k + 1) (by omega) (fun y hy => by
        rw [List.take_succ, List.getElem?_eq_getElem hks] at hy
        rcases List.mem_append.1 hy with hy | hy
        · exact hlt y hy
        · simp at hy; subst hy; exact c2) ks Q hx
      simpa using this
    · simp (disch := omega) [c1, ints_len, g1, g2, pc, c2]
      exact hx k _ (by omega) hlt (fun y hy => by rw [List.getElem?_eq_getElem hks] at hy; cases hy; omega)
theorem Blk_out (l : List Pt) (hl : l.length ≤ 1000) (h : Heap) : ∀ (m i : Nat) (s : List Int), i + m = l.length → s.length ≤ i → s.Pairwise (· < ·) → (∀ x, x ∈ s ↔ x ∈ blkOf (l.take i)) → ∀ ks Q,
    (∀ s' z, s'.Pairwise (· < ·) → (∀ x, x ∈ s' ↔ x ∈ blkOf l) → Xk T ks (.x 0) ((0, .ps 2 (Pt.vs l)) :: (3, .ps 1 (ints s')) :: z) h Q) →
    Xc T l_ref20_Blocks_1 ks [(0, .ps 2 (Pt.vs l)), (3, .ps 1 (ints s)), (4, .int .i64 i)] h Q := by
  intro m
  induction m with
  | zero =>
    intro i s hi hsl hs hm ks Q hx
    rw [L_ref20_Blocks_1]; unfold bl_ref20_Blocks_1
    have c1 : ¬ (i : Int) < l.length := by omega
    have e : i = l.length := by omega
    subst e
    rw [List.take_length] at hm
    simp (disch := omega) [c1, pt_len]
    exact hx s _ hs hm
  | succ m ih =>
    intro i s hi hsl hs hm ks Q hx
    rw [L_ref20_Blocks_1]; unfold bl_ref20_Blocks_1
    have hil : i < l.length := by omega
    have c1 : (i : Int) < l.length := by omega
    have g1 := pt_at l i hil
    have pc := pt_cells l[i]
    have bt : blkOf (l.take (i + 1)) = blkOf (l.take i) ++ [l[i].b] := by
      unfold blkOf
      rw [List.take_succ, List.getElem?_eq_getElem hil, List.map_append]; rfl
    simp (disch := omega) [c1, pt_len]
    refine Blk_in l s i hil hl (by omega) h s.length 0 (by omega) (by simp) _ _ fun k z hk h1 h2 => ?_
    by_cases hks : k < s.length
    · have c2 : (k : Int) < s.length := by omega
      have g2 : (ints s)[k]? = some (.int .i64 s[k]) := by rw [ints_get, List.getElem?_eq_getElem hks]; rfl
      by_cases c3 : s[k] = l[i].b
      · simp (disch := omega) [c2, ints_len, g1, g2, pc, c3]
        have := ih (i + 1) s (by omega) (by omega) hs (fun x => by
          rw [bt, List.mem_append, hm x, List.mem_singleton]
          refine ⟨.inl, fun q => q.elim id fun e => ?_⟩
          rw [← hm x, e, ← c3]
          exact List.getElem_mem hks) ks Q hx
        simpa using this
      · simp (disch := omega) [c2, ints_len, g1, g2, pc, c3]
        have := ih (i + 1) (s.take k ++ [l[i].b] ++ s.drop k) (by omega) (by simp; omega) (rising_ins hs h1 (fun y hy => by
          have := h2 y hy
          rw [List.getElem?_eq_getElem hks] at hy
          cases hy
          omega)) (fun x => by
          rw [ins_mem, bt, List.mem_append, ← hm x, List.mem_singleton]) ks Q hx
        simpa [ints, List.map_take, List.map_drop] using this
    · have c2 : ¬ (k : Int) < s.length := by omega
      have ek : k = s.length := by omega
      subst ek
      have e8 : (ints s).take s.length = ints s := List.take_of_length_le (by simp [ints])
      have e9 : (ints s).drop s.length = [] := List.drop_eq_nil_of_le (by simp [ints])
      simp (disch := omega) [c2, ints_len, g1, pc, e8, e9]
      have := ih (i + 1) (s.take s.length ++ [l[i].b] ++ s.drop s.length) (by omega) (by simp; omega) (rising_ins hs h1 (fun y hy => by
          rw [List.getElem?_eq_none (by omega)] at hy
          cases hy)) (fun x => by
          rw [ins_mem, bt, List.mem_append, ← hm x, List.mem_singleton]) ks Q hx
      simpa [ints] using this
theorem Blocks_run (l : List Pt) (hl : l.length ≤ 1000) (h : Heap) : ∃ s, s.Pairwise (· < ·) ∧ (∀ x, x ∈ s ↔ x ∈ blkOf l) ∧ Run T f_ref20_Blocks [.ps 2 (Pt.vs l)] h (.ps 1 (ints s)) h := by
  obtain ⟨v, h', ⟨s, ev, eh, q1, q2⟩, r⟩ := Run.startP (P := fun v h' => ∃ s, v = .ps 1 (ints s) ∧ h' = h ∧ s.Pairwise (· < ·) ∧ ∀ x, x ∈ s ↔ x ∈ blkOf l) (vs := [.ps 2 (Pt.vs l)]) (h := h) t_ref20_Blocks (by
    unfold k_ref20_Blocks
    simp (disch := omega)
    refine Blk_out l hl h l.length 0 [] (by omega) (by simp) .nil (fun x => by simp [blkOf]) _ _ fun s z q1 q2 => ?_
    simp (disch := omega)
    exact ⟨s, rfl, q1, q2⟩)
  subst ev eh
  exact ⟨s, q1, q2, r⟩
theorem RIn_loop (l : List Pt) (n : Int) (hb : l.length ≤ 1000) (h : Heap) : ∀ (m i : Nat), i + m = l.length → ∀ ks Q,
    (n ∉ blkOf (l.drop i) → ∀ z, Xk T ks (.x 0) z h Q) → (n ∈ blkOf (l.drop i) → Xk T ks .r [(4, .bool true)] h Q) →
    Xc T l_ref20_In_0 ks [(0, .ps 2 (Pt.vs l)), (1, .int .i64 n), (5, .int .i64 i)] h Q := by
  intro m
  induction m with
  | zero =>
    intro i hi ks Q h1 h2
    have e : l.drop i = [] := List.drop_eq_nil_of_le (by omega)
    rw [e] at h1
    have c1 : ¬ (i : Int) < l.length := by omega
    rw [L_ref20_In_0]; unfold bl_ref20_In_0
    simp (disch := omega) [c1, pt_len]
    exact h1 (by simp [blkOf]) _
  | succ m ih =>
    intro i hi ks Q h1 h2
    have hil : i < l.length := by omega
    have e := List.drop_eq_getElem_cons hil
    have c1 : (i : Int) < l.length := by omega
    have g1 := pt_at l i hil
    have pc := pt_cells l[i]
    have be : blkOf (l.drop i) = l[i].b :: blkOf (l.drop (i + 1)) := by rw [e]; rfl
    rw [be, List.mem_cons] at h1 h2
    have ih := ih (i + 1) (by omega) ks Q
    rw [show ((i + 1 : Nat) : Int) = (i : Int) + 1 from rfl] at ih
    rw [L_ref20_In_0]; unfold bl_ref20_In_0
    by_cases c2 : l[i].b = n
    · simp (disch := omega) [c1, pt_len, g1, pc, c2]
      exact h2 (.inl c2.symm)
    · simp (disch := omega) [c1, pt_len, g1, pc, c2]
      exact ih (fun q => h1 fun k => k.elim (fun k => c2 k.symm) q) (fun q => h2 (.inr q))
theorem RIn_run (l : List Pt) (n : Int) (hb : l.length ≤ 1000) (h : Heap) : Run T f_ref20_In [.ps 2 (Pt.vs l), .int .i64 n] h (.bool (decide (n ∈ blkOf l))) h := by
  refine Run.start t_ref20_In ?_
  unfold k_ref20_In
  simp (disch := omega)
  have := RIn_loop l n hb h l.length 0 (by omega)
  refine this _ _ (fun h z => ?_) (fun h => ?_)
  · rw [List.drop_zero] at h; simp [h]
  · rw [List.drop_zero] at h; simp [h]
theorem RPl_loop (h : Heap) (a b : List Pt) (hl : a.length = b.length) (hb : a.length < 4611686018427387904) : ∀ (k i : Nat), i + k = a.length → ∀ ks Q,
    (a.drop i = b.drop i → ∀ z, Xk T ks (.x 0) z h Q) → (a.drop i ≠ b.drop i → Xk T ks .r [(4, .bool false)] h Q) →
    Xc T l_ref20_Places_0 ks [(0, .ps 2 (Pt.vs a)), (1, .ps 2 (Pt.vs b)), (5, .int .i64 i)] h Q := by
  intro k
  induction k with
  | zero =>
    intro i hk ks Q h1 h2
    rw [L_ref20_Places_0]; unfold bl_ref20_Places_0
    have c1 : ¬ (i : Int) < a.length := by omega
    have c2 : ¬ (i : Int) < b.length := by omega
    simp (disch := omega) [c1, c2, pt_len]
    exact h1 (by rw [List.drop_eq_nil_of_le (by omega), List.drop_eq_nil_of_le (by omega)]) _
  | succ k ih =>
    intro i hk ks Q h1 h2
    rw [L_ref20_Places_0]; unfold bl_ref20_Places_0
    have ha : i < a.length := by omega
    have hb' : i < b.length := by omega
    have c1 : (i : Int) < a.length := by omega
    have g1 := pt_at a i ha
    have g2 := pt_at b i hb'
    have e1 := List.drop_eq_getElem_cons ha
    have e2 := List.drop_eq_getElem_cons hb'
    have ih := ih (i + 1) (by omega) ks Q
    rw [show ((i + 1 : Nat) : Int) = (i : Int) + 1 from rfl] at ih
    by_cases c : a[i] = b[i]
    · rw [← c] at g2
      obtain ⟨x, hx⟩ : ∃ x, x = a[i] := ⟨_, rfl⟩
      rw [← hx] at g1 g2
      simp (disch := omega) [c1, pt_len, g1, g2, pt_v]
      exact ih (fun q => h1 (by rw [e1, e2, c, q])) (fun q => h2 fun k => q (by rw [e1, e2] at k; exact (List.cons.inj k).2))
    · have c' : ¬ (a[i].b = b[i].b ∧ a[i].k = b[i].k) := fun q => c (by
        have e := q.1; have f := q.2
        revert e f
        generalize a[i] = x
        generalize b[i] = y
        intro e f
        cases x; cases y; exact Pt.mk.injEq .. ▸ ⟨e, f⟩)
      by_cases d : a[i].b = b[i].b
      · have d' : ¬ a[i].k = b[i].k := fun q => c' ⟨d, q⟩
        simp (disch := omega) [c1, pt_len, g1, g2, pt_v, d, d']
        exact h2 fun k => c (by rw [e1, e2] at k; exact (List.cons.inj k).1)
      · simp (disch := omega) [c1, pt_len, g1, g2, pt_v, d]
        exact h2 fun k => c (by rw [e1, e2] at k; exact (List.cons.inj k).1)
theorem RPl_run (a b : List Pt) (h : Heap) (ha : a.length < 4611686018427387904) (hb : b.length < 4611686018427387904) : Run T f_ref20_Places [.ps 2 (Pt.vs a), .ps 2 (Pt.vs b)] h (.bool (decide (a = b))) h := by
  refine Run.start t_ref20_Places ?_
  unfold k_ref20_Places
  simp (disch := omega) [pt_len]
  by_cases c : (a.length : Int) = b.length
  · simp (disch := omega) [c]
    have := RPl_loop h a b (by omega) ha a.length 0 (by omega)
    refine this _ _ (fun q z => ?_) (fun q => ?_)
    · rw [List.drop_zero, List.drop_zero] at q; simp [q]
    · rw [List.drop_zero, List.drop_zero] at q; simp [q]
  · simp (disch := omega) [c]
    intro e; subst e; exact c rfl
section
variable {ks : List Kt} {ops : List AOpr} {K : Kp} {e : Env} {h : Heap} {Q : Ex → Env → Heap → Prop} {d : Nat} {lent : Bool}
theorem RIn_p (l : List Pt) (n : Int) (hb : l.length ≤ 1000) : Xp T f_ref20_In (some ([.ps 2 (Pt.vs l), .int .i64 n], lent)) h (some d) ops K ks e Q = Xo T ops K ks ((d, .bool (decide (n ∈ blkOf l))) :: e) h Q :=
  Xp_run (RIn_run l n hb []) (by simp [pt_hf]) rfl (by simp [scalar])
theorem RPl_p (a b : List Pt) (ha : a.length < 4611686018427387904) (hb : b.length < 4611686018427387904) : Xp T f_ref20_Places (some ([.ps 2 (Pt.vs a), .ps 2 (Pt.vs b)], lent)) h (some d) ops K ks e Q = Xo T ops K ks ((d, .bool (decide (a = b))) :: e) h Q :=
  Xp_run (RPl_run a b [] ha hb) (by simp [pt_hf]) rfl (by simp [scalar])
end
def pts (l : List Pt) : List V := l.flatMap Pt.cs
theorem pts_len : ∀ (l : List Pt), (pts l).length = l.length * 2
  | [] => rfl
  | x :: r => by
    have := pts_len r
    show (x.cs ++ pts r).length = _
    rw [List.length_append, this]; simp [Pt.cs]; omega
theorem pts_drop : ∀ (l : List Pt) (i : Nat), (pts l).drop (i * 2) = pts (l.drop i)
  | [], i => by simp [pts]
  | x :: r, 0 => by simp
  | x :: r, i + 1 => by
    have h := pts_drop r i
    rw [List.drop_succ_cons]
    show (x.cs ++ pts r).drop ((i + 1) * 2) = pts (r.drop i)
    rw [List.drop_append, List.drop_eq_nil_of_le (by simp [Pt.cs]; omega), List.nil_append, ← h]
    congr 1
    simp [Pt.cs]; omega
theorem pts_take : ∀ (l : List Pt) (i : Nat), (pts l).take (i * 2) = pts (l.take i)
  | [], i => by simp [pts]
  | x :: r, 0 => by simp [pts]
  | x :: r, i + 1 => by
    have h := pts_take r i
    rw [List.take_succ_cons]
    show (x.cs ++ pts r).take ((i + 1) * 2) = x.cs ++ pts (r.take i)
    rw [List.take_append, List.take_of_length_le (by simp [Pt.cs]; omega), ← h]
    congr 2
    simp [Pt.cs]; omega
theorem pts_app (a b : List Pt) : pts (a ++ b) = pts a ++ pts b := by simp [pts]
theorem pts_part (l : List Pt) (i : Nat) (h : i < l.length) : ((pts l).drop (i * 2)).take 2 = l[i].cs := by
  rw [pts_drop, List.drop_eq_getElem_cons h]
  show (l[i].cs ++ pts _).take 2 = _
  exact List.take_left' rfl
theorem pts_set (l : List Pt) (i : Nat) (x : Pt) (h : i < l.length) : spliceL (pts l) (i * 2) x.cs = pts (l.set i x) := by
  unfold spliceL
  have xl : x.cs.length = 2 := rfl
  rw [xl, show i * 2 + 2 = (i + 1) * 2 by omega, pts_take, pts_drop, List.set_eq_take_append_cons_drop, if_pos h, pts_app, List.append_assoc]
  rfl
@[simp] theorem cs_lent (x : Pt) : x.cs.length = 2 := rfl
@[simp] theorem cs_onet (x : Pt) : x.cs.all V.one = true := rfl
theorem flat_vst (l : List Pt) : flat (Pt.vs l) = pts l := by
  simp [flat, Pt.vs, pts, List.flatMap_map, Pt.v, V.cells]
theorem vs_lent (l : List Pt) : (Pt.vs l).length = l.length := by simp [Pt.vs]
@[simp] theorem spl0t (a b : V) (x : Pt) : spliceL [a, b] 0 x.cs = x.cs := by simp [spliceL, Pt.cs]
@[simp] theorem cs_taket (x : Pt) : x.cs.take 2 = x.cs := rfl
/-- Where the first is that passes. -/
def fIx2t (p : Pt → Bool) : List Pt → Nat → Int
  | [], _ => -1
  | y :: r, i => if p y then (i : Int) else fIx2t p r (i + 1)
section
variable {g0 g : Heap} {b f : Nat} {cap : List V} {p : Pt → Bool}
theorem chunkPrt : ∀ l : List Pt, chunk 2 true l.length (pts l) = Pt.vs l
  | [] => rfl
  | x :: l => by
    have ih := chunkPrt l
    show V.agg ((pts (x :: l)).take 2) :: chunk 2 true l.length ((pts (x :: l)).drop 2) = x.v :: Pt.vs l
    have e : pts (x :: l) = x.cs ++ pts l := rfl
    have hl : x.cs.length = 2 := rfl
    rw [e, List.take_left' hl, List.drop_left' hl, ih]
    rfl
theorem fzP (g : Heap) (b : Nat) (R : List V) (F : List Pt) (h9 : Heap.row g b = some R) (h11 : F.length * 2 ≤ R.length) (h10 : R.take (F.length * 2) = pts F) : freeze1 true (.hs 2 b 0 F.length) g = some (.ps 2 (Pt.vs F), g.set b none) := by
  have hc : hsCells g 2 b 0 F.length = some (pts F) := by simp [hsCells, h9, h10, h11]
  have ck : chunkOk 2 true (pts F) = true := by simp [chunkOk]
  simp only [freeze1, hc, Option.bind_some]
  rw [if_pos ck]
  have := chunkPrt F
  rw [this]
end
theorem ClonePrt (l : List Pt) (hn : l.length ≤ 1000000) (hl : l ≠ []) (h : Heap) : Run T f_slices_Clone_api_Place_api_Place [.ps 2 (Pt.vs l)] h (.hs 2 h.length 0 l.length) (h ++ [some (pts l)]) := by
  have nc : ∀ h : Heap, newCells h 2 (.ps 2 (Pt.vs l)) = some (pts l) := fun h => by
    simp [newCells, flat_vst]
  have pl := pts_len l
  have vl := vs_lent l
  refine Run.start t_slices_Clone_api_Place_api_Place ?_
  unfold k_slices_Clone_api_Place_api_Place
  simp (disch := omega)
  refine Xc_nilc (fun C => rfl) rfl (v := .ps 2 (Pt.vs l)) (by cases l with | nil => exact absurd rfl hl | cons _ _ => rfl) ?_
  have ne : ¬ pts l = [] := fun e => by
    have := congrArg List.length e
    rw [pl] at this
    have h0 : l.length ≠ 0 := fun z => hl (List.eq_nil_of_length_eq_zero z)
    simp at this; omega
  have dv : (pts l).length / 2 = l.length := by rw [pl]; omega
  simp (disch := omega) [nc, ne, dv]
theorem row_at (g w : Heap) (x : Option (List V)) (i : Nat) (hi : i = g.length) : Heap.row (g ++ x :: w) i = x := by
  subst hi
  unfold Heap.row
  rw [List.getElem?_append_right (Nat.le_refl _), Nat.sub_self]; rfl
/-- Places: a slice that stays, or one of the heap. -/
def LV (l : List Pt) (v : V) (g : Heap) : Prop := v = .ps 2 (Pt.vs l) ∨ (∃ o, v = .hs 2 o 0 l.length ∧ Heap.row g o = some (pts l))
theorem LV.ha {l : List Pt} {v : V} {g g' : Heap} (h : LV l v g) (a : HA g g') : LV l v g' := by
  rcases h with h | ⟨o, h1, h2⟩
  · exact .inl h
  · exact .inr ⟨o, h1, by rw [a.2 o (hlt h2)]; exact h2⟩
theorem used_loopV (l : List Pt) (hl : l.length ≤ 60) (lv : V) (g0 : Heap) (hv : LV l lv g0) : ∀ (m i : Nat) (ov : V) (g : Heap), i + m = l.length → HA g0 g → GrV (blkOf (l.take i)) ov g0.length g → ∀ ks Q,
    (∀ z g' ov', HA g0 g' → GrV (blkOf l) ov' g0.length g' → Xk T ks (.x 0) ((3, ov') :: z) g' Q) →
    Xc T l_place_Used_0 ks [(3, ov), (6, lv), (7, .int .i64 l.length), (8, .int .i64 i)] g Q := by
  intro m
  induction m with
  | zero =>
    intro i ov g hi ha ho ks Q hx
    rw [L_place_Used_0]; unfold bl_place_Used_0
    have c1 : ¬ (i : Int) < l.length := by omega
    have e : i = l.length := by omega
    subst e
    rw [List.take_length] at ho
    simp (disch := omega)
    exact hx _ g ov ha ho
  | succ m ih =>
    intro i ov g hi ha ho ks Q hx
    rw [L_place_Used_0]; unfold bl_place_Used_0
    have hil : i < l.length := by omega
    have c1 : (i : Int) < l.length := by omega
    have g1 := pt_at l i hil
    have bt : blkOf (l.take (i + 1)) = blkOf (l.take i) ++ [l[i].b] := by
      unfold blkOf
      rw [List.take_succ, List.getElem?_eq_getElem hil, List.map_append]; rfl
    have bl : (blkOf (l.take i)).length = i := by simp [blkOf]; omega
    have bl2 : (blkOf (l.take (i + 1))).length = i + 1 := by simp [blkOf]; omega
    have pp := pts_part l i hil
    have pl := pts_len l
    have pc := pt_cells l[i]
    obtain ⟨p, hp⟩ : ∃ p, p = l[i] := ⟨_, rfl⟩
    rw [← hp] at g1 bt pc pp
    have pcs : p.cs = [.int .i64 p.b, .int .i64 p.k] := rfl
    have sp : spliceL [V.int .i64 0, V.int .i64 0] 0 [V.int .i64 p.b, V.int .i64 p.k] = [V.int .i64 p.b, V.int .i64 p.k] := rfl
    have ih := ih (i + 1)
    rw [show ((i + 1 : Nat) : Int) = (i : Int) + 1 from rfl] at ih
    have il : ∀ s : List Int, (ints s).length = s.length := ints_len
    have l2 : i * 2 + 2 ≤ (pts l).length := by omega
    rcases ho with ⟨h1, rfl⟩ | ⟨h1, o, rfl, h2, h3⟩
    · rw [h1] at bt
      have fin : Xc T l_place_Used_0 ks [(3, .hs 1 (g.length + 1) 0 1), (6, lv), (7, .int .i64 l.length), (8, .int .i64 ((i : Int) + 1))] (g ++ [some [V.int .i64 p.b, V.int .i64 p.k], some [V.int .i64 p.b]]) Q := by
        refine ih _ _ (by omega) (ha.trans (HA.app _ _)) (.inr ⟨by rw [bt]; simp, g.length + 1, by rw [bt]; rfl, by have := ha.1; omega, ?_⟩) ks Q hx
        have e2 : g ++ [some [V.int .i64 p.b, V.int .i64 p.k], some [V.int .i64 p.b]] = (g ++ [some [V.int .i64 p.b, V.int .i64 p.k]]) ++ [some [V.int .i64 p.b]] := by simp
        have e3 : g.length + 1 = (g ++ [some [V.int .i64 p.b, V.int .i64 p.k]]).length := by simp
        rw [e2, e3, row_new, bt]
        rfl
      rcases hv with rfl | ⟨r, rfl, hr⟩
      · simp (disch := omega) [c1, hil, g1, pc, sp]
        exact fin
      · have hrg : g.row r = some (pts l) := by rw [ha.2 r (hlt hr)]; exact hr
        simp (disch := omega) [c1, hil, hrg, pp, l2, pcs, sp]
        exact fin
    · have ol := hlt h3
      have h3A : ∀ w, Heap.row (g ++ w) o = some (ints (blkOf (l.take i))) := fun w => by rw [row_app ol]; exact h3
      have fin : Xc T l_place_Used_0 ks [(3, .hs 1 (g.length + 1) 0 (i + 1)), (6, lv), (7, .int .i64 l.length), (8, .int .i64 ((i : Int) + 1))] (g.set o none ++ [some [V.int .i64 p.b, V.int .i64 p.k], some (ints (blkOf (l.take i)) ++ [V.int .i64 p.b])]) Q := by
        have e2 : g.set o none ++ [some [V.int .i64 p.b, V.int .i64 p.k], some (ints (blkOf (l.take i)) ++ [V.int .i64 p.b])] = (g.set o none ++ [some [V.int .i64 p.b, V.int .i64 p.k]]) ++ [some (ints (blkOf (l.take (i + 1))))] := by
          rw [bt]; simp [ints]
        have e3 : g.length + 1 = (g.set o none ++ [some [V.int .i64 p.b, V.int .i64 p.k]]).length := by simp
        refine ih _ _ (by omega) ((ha.upd h2 _).trans (HA.app _ _)) (.inr ⟨by intro e; rw [e] at bl2; simp at bl2, g.length + 1, by rw [bl2], by have := ha.1; omega, ?_⟩) ks Q hx
        rw [e2, e3, row_new]
      rcases hv with rfl | ⟨r, rfl, hr⟩
      · simp (disch := omega) [c1, hil, g1, pc, sp, h3A, bl, il]
        exact fin
      · have hrg : g.row r = some (pts l) := by rw [ha.2 r (hlt hr)]; exact hr
        simp (disch := omega) [c1, hil, hrg, pp, l2, pcs, sp, h3A, bl, il]
        exact fin
theorem UsedV_run (l : List Pt) (hl : l.length ≤ 60) (lv : V) (g0 : Heap) (hv : LV l lv g0) : ∃ U g', U.Pairwise (· < ·) ∧ (∀ x, x ∈ U ↔ x ∈ blkOf l) ∧ HA g0 g' ∧ U.length ≤ l.length ∧ Run T f_place_Used [lv] g0 (.ps 1 (ints U)) g' := by
  have lp := used_loopV l hl lv g0 hv l.length 0 (.hn 1) g0 (by omega) (HA.refl _) (.inl ⟨rfl, rfl⟩)
  obtain ⟨v, g', ⟨U, ev, q1, q2, q3, q4⟩, r⟩ := Run.startP (P := fun v g' => ∃ U, v = .ps 1 (ints U) ∧ U.Pairwise (· < ·) ∧ (∀ x, x ∈ U ↔ x ∈ blkOf l) ∧ HA g0 g' ∧ U.length ≤ l.length) (vs := [lv]) (h := g0) t_place_Used (by
    unfold k_place_Used
    rcases hv with rfl | ⟨r, rfl, hr⟩ <;>
    ( simp (disch := omega) [pt_len]
      refine lp _ _ fun z g1 ov ha ho => ?_
      rcases ho with ⟨h1, rfl⟩ | ⟨h1, o, rfl, h2, h3⟩
      · simp (disch := omega)
        rw [Xf_run (Sort_hn _)]
        simp (disch := omega)
        rw [Xf_run (CompactP_hn _)]
        simp (disch := omega)
        exact ⟨[], rfl, .nil, fun x => by rw [h1], ha, by simp⟩
      · have bl : (blkOf l).length = l.length := by simp [blkOf]
        obtain ⟨g2, d', a1, a2, a3, rs⟩ := sortf_run (h0 := g1) (h := g1) (b := o) (hlt h3) Agree.refl (blkOf l).toArray (by simp [bl]; omega)
        have sd : SD g1 o (blkOf l).toArray = g1 := by
          unfold SD
          exact setrow (by simpa using h3)
        have fsz : (blkOf l).toArray.size = (blkOf l).length := by simp
        rw [sd, fsz] at rs
        have dsz : d'.size = (blkOf l).length := by rw [a2.1, fsz]
        have perm : d'.toList.Perm (blkOf l) := by
          have := a2.2.2
          simp at this
          rwa [List.take_of_length_le (by simp [dsz])] at this
        have srt : d'.toList.Pairwise (· ≤ ·) := by
          rw [List.pairwise_iff_getElem]
          intro i j hi hj hij
          simp at hi hj
          have := a3 i j (Nat.zero_le _) hij (by rw [fsz, ← dsz]; exact hj)
          simp only [Sort.ltInt, decide_eq_false_iff_not] at this
          simp only [getElem!_pos d' i hi, getElem!_pos d' j hj] at this
          simp
          omega
        have b2 : o < g2.length := Nat.lt_of_lt_of_le (hlt h3) a1.1
        have dl : d'.toList.length = (blkOf l).length := by simp [dsz]
        obtain ⟨g3, rc, hk⟩ := CompactP_run d'.toList (by rw [dl, bl]; omega) (by intro e; rw [e] at dl; exact h1 (List.eq_nil_of_length_eq_zero dl.symm)) o (SD g2 o d') (SD_row b2 d')
        rw [dl] at rc
        simp (disch := omega)
        rw [Xf_run rs]
        simp (disch := omega)
        rw [Xf_run rc]
        simp (disch := omega)
        refine ⟨dd d'.toList, rfl, dd_ltP _ srt, fun x => (dd_memP _ x).trans perm.mem_iff, ?_⟩
        have ha2 : HA g0 (SD g2 o d') := by
          refine ⟨by rw [SD_len]; exact Nat.le_trans ha.1 a1.1, fun i hi => ?_⟩
          unfold SD
          rw [row_ne (by omega), a1.2 i (Nat.lt_of_lt_of_le hi ha.1) (by omega)]
          exact ha.2 i hi
        exact ⟨ha2.hk h2 hk, by have := dd_len d'.toList; omega⟩))
  subst ev
  exact ⟨U, g', q1, q2, q3, q4, r⟩
structure Cp where
  lpn : Int
  seq : Int
  ats : List Pt
  deriving Inhabited, DecidableEq
def Cp.cs (c : Cp) : List V := [.int .i64 c.lpn, .int .i64 c.seq, .ps 2 (Pt.vs c.ats)]
def Cp.v (c : Cp) : V := .agg c.cs
def Cp.vs (l : List Cp) : List V := l.map Cp.v
def crow (l : List Cp) : List V := l.flatMap Cp.cs
theorem crow_len : ∀ (l : List Cp), (crow l).length = l.length * 3
  | [] => rfl
  | x :: r => by
    have := crow_len r
    show (x.cs ++ crow r).length = _
    rw [List.length_append, this]; simp [Cp.cs]; omega
theorem crow_drop : ∀ (l : List Cp) (i : Nat), (crow l).drop (i * 3) = crow (l.drop i)
  | [], i => by simp [crow]
  | x :: r, 0 => by simp
  | x :: r, i + 1 => by
    have h := crow_drop r i
    rw [List.drop_succ_cons]
    show (x.cs ++ crow r).drop ((i + 1) * 3) = crow (r.drop i)
    rw [List.drop_append, List.drop_eq_nil_of_le (by simp [Cp.cs]; omega), List.nil_append, ← h]
    congr 1
    simp [Cp.cs]; omega
theorem crow_at (l : List Cp) (i : Nat) (h : i < l.length) : (crow l)[i * 3 + 2]? = some (.ps 2 (Pt.vs l[i].ats)) := by
  have e := crow_drop l i
  rw [List.drop_eq_getElem_cons h] at e
  have := congrArg (fun z => z[2]?) e
  simp only [List.getElem?_drop] at this
  rw [this]
  rfl
def kvB (f : Int → Bool) (l : List Int) : List V := l.map fun n => .tup [.int .i64 n, .bool (f n)]
def insB (l : List Int) (n : Int) : List Int := if n ∈ l then l else l ++ [n]
theorem insB_mem (l : List Int) (n x : Int) : x ∈ insB l n ↔ x ∈ l ∨ x = n := by
  unfold insB
  split
  · rename_i h
    exact ⟨.inl, fun q => q.elim id fun e => e ▸ h⟩
  · simp
theorem kvB_no (f : Int → Bool) (n : Int) : ∀ (l : List Int) (i : Nat), n ∉ l → kvFind .int (.int .i64 n) (kvB f l) i = some none
  | [], i, _ => rfl
  | m :: l, i, h => by
    have h1 : ¬ n = m := fun e => h (e ▸ List.mem_cons_self)
    have h2 : n ∉ l := fun e => h (List.mem_cons_of_mem _ e)
    have := kvB_no f n l (i + 1) h2
    simp only [kvB, List.map_cons, kvFind, keyEq] at this ⊢
    simp [h1, this]
theorem kvB_yes (f : Int → Bool) (n : Int) : ∀ (l : List Int) (i : Nat), n ∈ l → ∃ j, kvFind .int (.int .i64 n) (kvB f l) i = some (some (i + j, .bool (f n))) ∧ (kvB f l)[j]? = some (.tup [.int .i64 n, .bool (f n)])
  | m :: l, i, h => by
    by_cases h1 : n = m
    · subst h1
      exact ⟨0, by simp [kvB, kvFind, keyEq], by simp [kvB]⟩
    · obtain ⟨j, a, b⟩ := kvB_yes f n l (i + 1) (by simpa [h1] using h)
      refine ⟨j + 1, ?_, by simpa [kvB] using b⟩
      simp only [kvB, List.map_cons, kvFind, keyEq] at a ⊢
      simp [h1, a]
      omega
theorem look_kvB (f : Int → Bool) (h : Heap) (b : Nat) (l : List Int) (n : Int) (hr : h.row b = some (kvB f l)) : lookV h .int (.mp b) (.int .i64 n) (.bool false) false = some (.bool (decide (n ∈ l) && f n)) := by
  unfold lookV kvsOf
  simp only [hr, Option.bind_some]
  by_cases c : n ∈ l
  · obtain ⟨j, a, _⟩ := kvB_yes f n l 0 c
    simp [keyEq, a, c]
  · simp [keyEq, kvB_no f n l 0 c, c]
theorem mset_kvB (f : Int → Bool) (h : Heap) (b : Nat) (l : List Int) (n : Int) (x : Bool) (hx : x = f n) (hr : h.row b = some (kvB f l)) : msetV h .int (.mp b) (.int .i64 n) (.bool x) = some (h.set b (some (kvB f (insB l n)))) := by
  subst hx
  unfold msetV insB
  simp only [hr, Option.bind_some]
  by_cases c : n ∈ l
  · obtain ⟨j, a, e⟩ := kvB_yes f n l 0 c
    rw [Nat.zero_add] at a
    have hj : (kvB f l).set j (.tup [.int .i64 n, .bool (f n)]) = kvB f l := by
      apply List.ext_getElem?
      intro i
      rw [List.getElem?_set]
      split
      · rename_i hij; subst hij
        rw [e, if_pos (by have := List.getElem?_eq_some_iff.1 e; exact this.1)]
      · rfl
    simp [keyEq, a, c, hj]
  · simp [keyEq, kvB_no f n l 0 c, c]
    simp [kvB]
structure PdH (g0 : Heap) (f : Nat) (cap : List V) (p : Pt → Bool) : Prop where
  free : T.free f = true
  run : ∀ g, HA g0 g → ∀ y : Pt, ∃ g', HA g g' ∧ Run T f (.agg y.cs :: cap) g (.bool (p y)) g'
theorem ixfH_loop {g0 : Heap} {f : Nat} {cap : List V} {p : Pt → Bool} (hp : PdH g0 f cap p) (l : List Pt) (hn : l.length ≤ 1000) : ∀ (m i : Nat) (g : Heap), i + m = l.length → HA g0 g → ∀ ks Q,
    (fIx2t p (l.drop i) i = -1 → ∀ e g', HA g0 g' → Xk T ks (.x 0) e g' Q) →
    (fIx2t p (l.drop i) i ≠ -1 → ∀ g', HA g0 g' → Xk T ks .r [(4, .int .i64 (fIx2t p (l.drop i) i))] g' Q) →
    Xc T l_slices_IndexFunc_api_Place_api_Place_0 ks [(0, .ps 2 (Pt.vs l)), (1, .fn f cap), (7, .int .i64 l.length), (8, .int .i64 i)] g Q := by
  have hf := hp.free
  intro m
  induction m with
  | zero =>
    intro i g hi hk ks Q h1 h2
    have e : l.drop i = [] := List.drop_eq_nil_of_le (by omega)
    rw [e] at h1
    have e2 : ¬ (i : Int) < l.length := by omega
    rw [L_slices_IndexFunc_api_Place_api_Place_0]; unfold bl_slices_IndexFunc_api_Place_api_Place_0
    simp (disch := omega) [e2]
    exact h1 rfl _ _ hk
  | succ m ih =>
    intro i g hi hk ks Q h1 h2
    have hil : i < l.length := by omega
    have e := List.drop_eq_getElem_cons hil
    rw [e] at h1 h2
    have e1 : (i : Int) < l.length := by omega
    have g1 := pt_at l i hil
    have pc : l[i].v.cells = l[i].cs := rfl
    obtain ⟨g', hg, r⟩ := hp.run g hk l[i]
    have ih := ih (i + 1) g' (by omega) (hk.trans hg) ks Q
    rw [show ((i + 1 : Nat) : Int) = (i : Int) + 1 from rfl] at ih
    rw [L_slices_IndexFunc_api_Place_api_Place_0]; unfold bl_slices_IndexFunc_api_Place_api_Place_0
    simp (disch := omega) [e1, g1, pc, hf]
    rw [Xf_run r]
    simp only [fIx2t] at h1 h2
    by_cases c : p l[i] = true
    · rw [if_pos c] at h1 h2
      simp (disch := omega) [c]
      exact h2 (by omega) _ (hk.trans hg)
    · rw [if_neg c] at h1 h2
      simp (disch := omega) [c]
      exact ih h1 h2
theorem ixfH_run {g0 : Heap} {f : Nat} {cap : List V} {p : Pt → Bool} (hp : PdH g0 f cap p) (l : List Pt) (hn : l.length ≤ 1000) : ∃ g', HA g0 g' ∧ Run T f_slices_IndexFunc_api_Place_api_Place [.ps 2 (Pt.vs l), .fn f cap] g0 (.int .i64 (fIx2t p l 0)) g' := by
  obtain ⟨v, g', ⟨ev, hg⟩, r⟩ := Run.startP (P := fun v g' => v = .int .i64 (fIx2t p l 0) ∧ HA g0 g') (vs := [.ps 2 (Pt.vs l), .fn f cap]) (h := g0) t_slices_IndexFunc_api_Place_api_Place (by
    unfold k_slices_IndexFunc_api_Place_api_Place
    simp (disch := omega) [pt_len]
    have := ixfH_loop hp l hn l.length 0 g0 (by omega) (HA.refl _)
    refine this _ _ (fun h e g' hg => ?_) (fun h g' hg => ?_)
    · have h : fIx2t p l 0 = -1 := h
      simp [h]
      exact hg
    · have h : ¬ fIx2t p l 0 = -1 := h
      simp [h]
      exact hg)
  subst ev
  exact ⟨g', hg, r⟩
theorem fIx2_find (p : Pt → Bool) : ∀ (l : List Pt) (i : Nat), (fIx2t p l i = -1 ∧ l.find? p = none) ∨ ∃ k : Nat, fIx2t p l i = ((i + k : Nat) : Int) ∧ ∃ h : k < l.length, l.find? p = some l[k]
  | [], _ => .inl ⟨rfl, rfl⟩
  | y :: r, i => by
    by_cases c : p y = true
    · exact .inr ⟨0, by simp [fIx2t, c], by simp, by simp [c]⟩
    · rcases fIx2_find p r (i + 1) with ⟨h1, h2⟩ | ⟨k, h1, h2, h3⟩
      · exact .inl ⟨by simp only [fIx2t, if_neg c]; exact h1, by simp [c, h2]⟩
      · refine .inr ⟨k + 1, by simp only [fIx2t, if_neg c]; rw [h1]; congr 1; omega, by simp; omega, ?_⟩
        simp [c, h3]
/-- The closure: may a block be used? -/
theorem Oth1_run (f : Int → Bool) (ks : List Int) (g : Heap) (A m : Nat) (hA : g.row A = some [.mp m]) (hm : g.row m = some (kvB f ks)) (y : Pt) :
    Run T f_place_choice_others_1 [.agg y.cs, .ptr A 0] g (.bool (decide (y.b ∈ ks) && f y.b)) (g ++ [some y.cs]) := by
  have yc : y.cs = [.int .i64 y.b, .int .i64 y.k] := rfl
  have hA2 : Heap.row (g ++ [some y.cs]) A = some [.mp m] := by rw [row_app (hlt hA)]; exact hA
  have hm2 : Heap.row (g ++ [some y.cs]) m = some (kvB f ks) := by rw [row_app (hlt hm)]; exact hm
  have lk := look_kvB f (g ++ [some y.cs]) m ks y.b hm2
  rw [yc] at hA2 lk ⊢
  refine Run.start t_place_choice_others_1 ?_
  unfold k_place_choice_others_1
  simp (disch := omega) [hA2, lk]
/-- The copies that are chosen when a block is freed. -/
def mvF (ok : Pt → Bool) (b : Int) : List Cp → List Pt → Option (List Pt)
  | c :: cs, p :: ps => if p.b = b then (c.ats.find? ok).bind fun q => (mvF ok b cs ps).map (q :: ·) else (mvF ok b cs ps).map (p :: ·)
  | _, _ => some []
/-- May a block be used instead? -/
def useF (l : List Pt) (bad : List Int) (b x : Int) : Bool := decide (x ≠ b) && !decide (x ∈ bad)
def okF (l : List Pt) (bad : List Int) (b : Int) (q : Pt) : Bool := decide (q.b ∈ blkOf l) && useF l bad b q.b
/-- A choice in the heap. -/
structure CH (P vb : Nat) (v : List Cp) (bad : List Int) (l : List Pt) (lv : V) (h : Heap) : Prop where
  row : h.row P = some [.hs 3 vb 0 v.length, .ps 1 (ints bad), lv]
  vrow : h.row vb = some (crow v)
  lrow : LV l lv h
  len : v.length = l.length
theorem CH.ha {P vb : Nat} {v : List Cp} {bad : List Int} {l : List Pt} {lv : V} {h g : Heap} (c : CH P vb v bad l lv h) (a : HA h g) : CH P vb v bad l lv g :=
  ⟨by rw [a.2 P (hlt c.row)]; exact c.row, by rw [a.2 vb (hlt c.vrow)]; exact c.vrow, c.lrow.ha a, c.len⟩
theorem oth_loop0 {P vb : Nat} {v : List Cp} {bad : List Int} {l : List Pt} {lv : V} {h0 : Heap} (ch : CH P vb v bad l lv h0) (b : Int) (hl : l.length ≤ 60) (hb : bad.length ≤ 1000) (mr : Nat) (hm : h0.length ≤ mr) : ∀ (m i : Nat) (s : List Int) (g : Heap), i + m = l.length → HA h0 g → g.row mr = some (kvB (useF l bad b) s) → g.row (mr + 1) = some [.mp mr] → (∀ x, x ∈ s ↔ x ∈ blkOf (l.take i)) → ∀ ks Q,
    (∀ z g' s', HA h0 g' → g'.row mr = some (kvB (useF l bad b) s') → g'.row (mr + 1) = some [.mp mr] → (∀ x, x ∈ s' ↔ x ∈ blkOf l) → Xk T ks (.x 0) ((0, .ptr P 0) :: (1, .int .i64 b) :: (6, .ptr (mr + 1) 0) :: z) g' Q) →
    Xc T l_place_choice_others_0 ks [(0, .ptr P 0), (1, .int .i64 b), (6, .ptr (mr + 1) 0), (17, lv), (18, .int .i64 l.length), (19, .int .i64 i)] g Q := by
  intro m
  induction m with
  | zero =>
    intro i s g hi ha h1 h2 h3 ks Q hx
    rw [L_place_choice_others_0]; unfold bl_place_choice_others_0
    have c1 : ¬ (i : Int) < l.length := by omega
    have e : i = l.length := by omega
    subst e
    rw [List.take_length] at h3
    simp (disch := omega)
    exact hx _ g s ha h1 h2 h3
  | succ m ih =>
    intro i s g hi ha h1 h2 h3 ks Q hx
    rw [L_place_choice_others_0]; unfold bl_place_choice_others_0
    have hil : i < l.length := by omega
    have c1 : (i : Int) < l.length := by omega
    have g1 := pt_at l i hil
    have bt : blkOf (l.take (i + 1)) = blkOf (l.take i) ++ [l[i].b] := by
      unfold blkOf
      rw [List.take_succ, List.getElem?_eq_getElem hil, List.map_append]; rfl
    have pp := pts_part l i hil
    have pl := pts_len l
    have pc := pt_cells l[i]
    obtain ⟨p, hp⟩ : ∃ p, p = l[i] := ⟨_, rfl⟩
    rw [← hp] at g1 bt pc pp
    have pcs : p.cs = [.int .i64 p.b, .int .i64 p.k] := rfl
    have sp : spliceL [V.int .i64 0, V.int .i64 0] 0 [V.int .i64 p.b, V.int .i64 p.k] = [V.int .i64 p.b, V.int .i64 p.k] := rfl
    have l2 : i * 2 + 2 ≤ (pts l).length := by omega
    have ga := g ++ [some [V.int .i64 p.b, V.int .i64 p.k]]
    have cg := ch.ha (ha.trans (HA.app g [some [V.int .i64 p.b, V.int .i64 p.k]]))
    have r1 := cg.row
    have r0 := (ch.ha ha).row
    have rl := hlt r0
    have l1 := hlt h1
    have l3 := hlt h2
    have h1A : Heap.row (g ++ [some [V.int .i64 p.b, V.int .i64 p.k]]) mr = some (kvB (useF l bad b) s) := by rw [row_app l1]; exact h1
    have h2A : Heap.row (g ++ [some [V.int .i64 p.b, V.int .i64 p.k]]) (mr + 1) = some [.mp mr] := by rw [row_app l3]; exact h2
    have ms := mset_kvB (useF l bad b) (g ++ [some [V.int .i64 p.b, V.int .i64 p.k]]) mr s p.b
    have cp := fun {ks ops K e h Q d lent} x => Contains_p (ks := ks) (ops := ops) (K := K) (e := e) (h := h) (Q := Q) (d := d) (lent := lent) bad x (by omega)
    have ih := ih (i + 1) (insB s p.b) ((g ++ [some [V.int .i64 p.b, V.int .i64 p.k]]).set mr (some (kvB (useF l bad b) (insB s p.b)))) (by omega) ((ha.trans (HA.app _ _)).upd hm _) (row_set (by simp; omega)) (by rw [row_ne (by omega)]; exact h2A) (fun x => by rw [insB_mem, bt, List.mem_append, h3, List.mem_singleton]) ks Q hx
    have sa : ∀ x, List.set (g ++ [some [V.int .i64 p.b, V.int .i64 p.k]]) mr x = List.set g mr x ++ [some [V.int .i64 p.b, V.int .i64 p.k]] := fun x => by rw [List.set_append, if_pos l1]
    rw [show ((i + 1 : Nat) : Int) = (i : Int) + 1 from rfl, sa] at ih
    rw [sa] at ms
    have hrg : ∀ r, Heap.row h0 r = some (pts l) → g.row r = some (pts l) := fun r hr => by rw [ha.2 r (hlt hr)]; exact hr
    have lrow := ch.lrow
    by_cases c2 : p.b = b
    · subst c2
      have ms := ms false (by simp [useF]) h1A
      rcases lrow with rfl | ⟨r, rfl, hr⟩
      · simp (disch := omega) [c1, hil, g1, pc, sp, r1, h2A, h2, r0, ms]
        exact ih
      · have hrg := hrg r hr
        simp (disch := omega) [c1, hil, hrg, pp, l2, pcs, sp, r1, h2A, h2, r0, ms]
        exact ih
    · by_cases c3 : p.b ∈ bad
      · have ms := ms false (by simp [useF, c2, c3]) h1A
        rcases lrow with rfl | ⟨r, rfl, hr⟩
        · simp (disch := omega) [c1, hil, g1, pc, sp, r1, h2A, h2, r0, c2, cp, c3, ms]
          exact ih
        · have hrg := hrg r hr
          simp (disch := omega) [c1, hil, hrg, pp, l2, pcs, sp, r1, h2A, h2, r0, c2, cp, c3, ms]
          exact ih
      · have ms := ms true (by simp [useF, c2, c3]) h1A
        rcases lrow with rfl | ⟨r, rfl, hr⟩
        · simp (disch := omega) [c1, hil, g1, pc, sp, r1, h2A, h2, r0, c2, cp, c3, ms]
          exact ih
        · have hrg := hrg r hr
          simp (disch := omega) [c1, hil, hrg, pp, l2, pcs, sp, r1, h2A, h2, r0, c2, cp, c3, ms]
          exact ih
theorem CloneLV (l : List Pt) (hn : l.length ≤ 1000) (hl : l ≠ []) (lv : V) (h : Heap) (hv : LV l lv h) : Run T f_slices_Clone_api_Place_api_Place [lv] h (.hs 2 h.length 0 l.length) (h ++ [some (pts l)]) := by
  rcases hv with rfl | ⟨o, rfl, ho⟩
  · exact ClonePrt l (by omega) hl h
  · have pl := pts_len l
    have nc : newCells h 2 (.hs 2 o 0 l.length) = some (pts l) := by
      simp only [newCells, hsCells, ho, Option.bind_some, Nat.zero_add, List.drop_zero]
      rw [List.take_of_length_le (by omega)]
      simp [pl]
    refine Run.start t_slices_Clone_api_Place_api_Place ?_
    unfold k_slices_Clone_api_Place_api_Place
    simp (disch := omega)
    refine Xc_nilc (fun C => rfl) rfl (v := .hs 2 o 0 l.length) (by cases l with | nil => exact absurd rfl hl | cons _ _ => rfl) ?_
    have ne : ¬ pts l = [] := fun e => by
      have := congrArg List.length e
      rw [pl] at this
      have h0 : l.length ≠ 0 := fun z => hl (List.eq_nil_of_length_eq_zero z)
      simp at this; omega
    have dv : (pts l).length / 2 = l.length := by rw [pl]; omega
    simp (disch := omega) [nc, ne, dv]
theorem oth_loop1 {P vb : Nat} {v : List Cp} {bad : List Int} {l : List Pt} {lv : V} {h0 : Heap} (ch : CH P vb v bad l lv h0) (b : Int) (hl : l.length ≤ 60) (hc : ∀ c ∈ v, c.ats.length ≤ 1000) (ok : Pt → Bool) (mr : Nat) (pd : ∀ g, HA h0 g → PdH g f_place_choice_others_1 [V.ptr mr 0] ok) (ob : Nat) (hob : h0.length ≤ ob) : ∀ (m i : Nat) (pre : List Pt) (g : Heap), i + m = l.length → pre.length = i → HA h0 g → g.row ob = some (pts (pre ++ l.drop i)) → ∀ ks Q,
    (∀ z g' suf, mvF ok b (v.drop i) (l.drop i) = some suf → HA h0 g' → g'.row ob = some (pts (pre ++ suf)) → (pre ++ suf).length = l.length → Xk T ks (.x 2) ((0, .ptr P 0) :: (1, .int .i64 b) :: (6, .ptr mr 0) :: (9, .hs 2 ob 0 l.length) :: z) g' Q) →
    (mvF ok b (v.drop i) (l.drop i) = none → ∀ g', HA h0 g' → Xk T ks .r [(4, .hn 2), (5, .bool false)] g' Q) →
    Xc T l_place_choice_others_1 ks [(0, .ptr P 0), (1, .int .i64 b), (6, .ptr mr 0), (9, .hs 2 ob 0 l.length), (49, lv), (50, .int .i64 l.length), (51, .int .i64 i)] g Q := by
  intro m
  induction m with
  | zero =>
    intro i pre g hi hp ha hr ks Q hx hy
    rw [L_place_choice_others_1]; unfold bl_place_choice_others_1
    have c1 : ¬ (i : Int) < l.length := by omega
    have e : l.drop i = [] := List.drop_eq_nil_of_le (by omega)
    have e2 : mvF ok b (v.drop i) (l.drop i) = some [] := by rw [e]; cases v.drop i <;> rfl
    rw [e] at hr
    simp (disch := omega) [c1]
    exact hx _ g [] e2 ha hr (by simp; omega)
  | succ m ih =>
    intro i pre g hi hp ha hr ks Q hx hy
    rw [L_place_choice_others_1]; unfold bl_place_choice_others_1
    have hil : i < l.length := by omega
    have hlen := ch.len
    have hiv : i < v.length := by omega
    have c1 : (i : Int) < l.length := by omega
    have c1v : (i : Int) < v.length := by omega
    have g1 := pt_at l i hil
    have pp := pts_part l i hil
    have pl := pts_len l
    have pc := pt_cells l[i]
    have el := List.drop_eq_getElem_cons hil
    have ev := List.drop_eq_getElem_cons hiv
    rw [el] at hr
    have ca := crow_at v i hiv
    have cl := crow_len v
    have hcc := hc v[i] (List.getElem_mem _)
    rw [ev, el] at hx hy
    obtain ⟨p, hp'⟩ : ∃ p, p = l[i] := ⟨_, rfl⟩
    rw [← hp'] at g1 pc pp hr hx hy
    obtain ⟨c, hc'⟩ : ∃ c, c = v[i] := ⟨_, rfl⟩
    rw [← hc'] at ca hcc hx hy
    have pcs : p.cs = [.int .i64 p.b, .int .i64 p.k] := rfl
    have sp : spliceL [V.int .i64 0, V.int .i64 0] 0 [V.int .i64 p.b, V.int .i64 p.k] = [V.int .i64 p.b, V.int .i64 p.k] := rfl
    have l2 : i * 2 + 2 ≤ (pts l).length := by omega
    have r0 := (ch.ha ha).row
    have v0 := (ch.ha ha).vrow
    have rl := hlt r0
    have vl := hlt v0
    have obl := hlt hr
    have haA := ha.trans (HA.app g [some [V.int .i64 p.b, V.int .i64 p.k]])
    have hrA : Heap.row (g ++ [some [V.int .i64 p.b, V.int .i64 p.k]]) ob = some (pts (pre ++ p :: l.drop (i + 1))) := by rw [row_app obl]; exact hr
    obtain ⟨g', hg, rix⟩ := ixfH_run (pd _ haA) c.ats hcc
    have haB := haA.trans hg
    have hrg : ∀ r, Heap.row h0 r = some (pts l) → g.row r = some (pts l) := fun r hr => by rw [ha.2 r (hlt hr)]; exact hr
    have lrow := ch.lrow
    have stp : ∀ q : Pt, (pts (pre ++ p :: l.drop (i + 1))).length = l.length * 2 ∧ spliceL (pts (pre ++ p :: l.drop (i + 1))) (i * 2) q.cs = pts ((pre ++ [q]) ++ l.drop (i + 1)) := fun q => by
      have h1 : (pre ++ p :: l.drop (i + 1)).length = l.length := by simp; omega
      refine ⟨by rw [pts_len, h1], ?_⟩
      rw [pts_set _ _ _ (by omega)]
      congr 1
      rw [List.set_append, if_neg (by omega), show i - pre.length = 0 by omega]
      simp
    have sl := (stp p).1
    have iobl : i * 2 + 2 ≤ (pts (pre ++ p :: l.drop (i + 1))).length := by omega
    by_cases c2 : p.b = b
    · subst c2
      have mv : mvF ok p.b (c :: v.drop (i + 1)) (p :: l.drop (i + 1)) = (c.ats.find? ok).bind fun q => (mvF ok p.b (v.drop (i + 1)) (l.drop (i + 1))).map (q :: ·) := by simp only [mvF, if_true]
      rw [mv] at hx hy
      rcases fIx2_find ok c.ats 0 with ⟨f1, f2⟩ | ⟨k, f1, hk, f2⟩
      · rw [f2] at hy
        rw [f1] at rix
        rcases lrow with rfl | ⟨r, rfl, hr⟩
        · simp (disch := omega) [c1, hil, g1, pc, sp, r0, v0, ca, cl, hiv, c1v]
          rw [Xf_run rix]
          simp (disch := omega)
          exact hy rfl _ haB
        · have hrg := hrg r hr
          simp (disch := omega) [c1, hil, hrg, pp, l2, pcs, sp, r0, v0, ca, cl, hiv, c1v]
          rw [Xf_run rix]
          simp (disch := omega)
          exact hy rfl _ haB
      · rw [f2] at hx hy
        rw [f1, Nat.zero_add] at rix
        have k1 : ¬ ((k : Int) < 0) := by omega
        have k2 : (k : Int) < c.ats.length := by omega
        have r0B := (ch.ha haB).row
        have v0B := (ch.ha haB).vrow
        have gk := pt_at c.ats k hk
        have obB : g'.row ob = some (pts (pre ++ p :: l.drop (i + 1))) := by rw [hg.2 ob (hlt hrA)]; exact hrA
        have pck := pt_cells c.ats[k]
        obtain ⟨q, hq⟩ : ∃ q, q = c.ats[k] := ⟨_, rfl⟩
        rw [← hq] at gk hx hy pck
        have s2 := (stp q).2
        have qcs : q.cs = [.int .i64 q.b, .int .i64 q.k] := rfl
        have fin : Xc T l_place_choice_others_1 ks [(0, .ptr P 0), (1, .int .i64 p.b), (6, .ptr mr 0), (9, .hs 2 ob 0 l.length), (49, lv), (50, .int .i64 l.length), (51, .int .i64 ((i : Int) + 1))] (g'.set ob (some (pts ((pre ++ [q]) ++ l.drop (i + 1))))) Q := by
          refine ih (i + 1) (pre ++ [q]) _ (by omega) (by simp; omega) (haB.upd hob _) (row_set (hlt obB)) ks Q (fun z g' suf h1 h2 h3 h4 => hx z g' (q :: suf) (by simp [h1]) h2 (by rw [h3]; simp) (by rw [← h4]; simp)) (fun h g' hg => hy (by simp [h]) g' hg)
        rw [qcs] at s2
        simp only [List.append_assoc, List.singleton_append] at fin
        rcases lrow with rfl | ⟨r, rfl, hr⟩
        · simp (disch := omega) [c1, hil, g1, pc, sp, r0, v0, ca, cl, hiv, c1v]
          rw [Xf_run rix]
          simp (disch := omega) [k1, k2, r0B, v0B, ca, cl, hiv, c1v, c1, hk, gk, pck, obB, iobl, hil, s2]
          exact fin
        · have hrg := hrg r hr
          simp (disch := omega) [c1, hil, hrg, pp, l2, pcs, sp, r0, v0, ca, cl, hiv, c1v]
          rw [Xf_run rix]
          simp (disch := omega) [k1, k2, r0B, v0B, ca, cl, hiv, c1v, c1, hk, gk, pck, obB, iobl, hil, s2]
          exact fin
    · have mv : mvF ok b (c :: v.drop (i + 1)) (p :: l.drop (i + 1)) = (mvF ok b (v.drop (i + 1)) (l.drop (i + 1))).map (p :: ·) := by simp only [mvF, if_neg c2]
      rw [mv] at hx hy
      have fin : Xc T l_place_choice_others_1 ks [(0, .ptr P 0), (1, .int .i64 b), (6, .ptr mr 0), (9, .hs 2 ob 0 l.length), (49, lv), (50, .int .i64 l.length), (51, .int .i64 ((i : Int) + 1))] (g ++ [some [V.int .i64 p.b, V.int .i64 p.k]]) Q := by
        refine ih (i + 1) (pre ++ [p]) _ (by omega) (by simp; omega) haA (by rw [hrA]; simp) ks Q (fun z g' suf h1 h2 h3 h4 => hx z g' (p :: suf) (by simp [h1]) h2 (by rw [h3]; simp) (by rw [← h4]; simp)) (fun h g' hg => hy (by simp [h]) g' hg)
      rcases lrow with rfl | ⟨r, rfl, hr⟩
      · simp (disch := omega) [c1, hil, g1, pc, sp, c2]
        exact fin
      · have hrg := hrg r hr
        simp (disch := omega) [c1, hil, hrg, pp, l2, pcs, sp, c2]
        exact fin
/-- What others answers. -/
def othS (v : List Cp) (bad : List Int) (l : List Pt) (b : Int) : Option (List Pt) := mvF (okF l bad b) b v l
def othV (r : Option (List Pt)) : V := match r with
  | some s => .tup [.ps 2 (Pt.vs s), .bool true]
  | none => .tup [.ps 2 [], .bool false]
theorem fzPt (g : Heap) (b : Nat) (F : List Pt) (h9 : Heap.row g b = some (pts F)) : freeze1 true (.hs 2 b 0 F.length) g = some (.ps 2 (Pt.vs F), g.set b none) := by
  have pl := pts_len F
  exact fzP g b (pts F) F h9 (by omega) (List.take_of_length_le (by omega))
theorem others_run {P vb : Nat} {v : List Cp} {bad : List Int} {l : List Pt} {lv : V} {h0 : Heap} (ch : CH P vb v bad l lv h0) (b : Int) (hl : l.length ≤ 60) (hb : bad.length ≤ 1000) (hc : ∀ c ∈ v, c.ats.length ≤ 1000) (hne : l ≠ []) :
    ∃ g', HA h0 g' ∧ Run T f_place_choice_others [.ptr P 0, .int .i64 b] h0 (othV (othS v bad l b)) g' := by
  have l0 := oth_loop0 ch b hl hb h0.length (by omega) l.length 0 [] (h0 ++ [some [], some [.mp h0.length]]) (by omega) (HA.app _ _) (row_at _ _ _ _ rfl) (by
    have : h0 ++ [some [], some [V.mp h0.length]] = (h0 ++ [some []]) ++ [some [V.mp h0.length]] := by simp
    rw [this]; exact row_at _ _ _ _ (by simp)) (by simp [blkOf])
  have r0 := ch.row
  have r0A : Heap.row (h0 ++ [some [], some [V.mp h0.length]]) P = some [.hs 3 vb 0 v.length, .ps 1 (ints bad), lv] := by rw [row_app (hlt r0)]; exact r0
  have lr := ch.lrow
  obtain ⟨u, g', ⟨ev, hg⟩, r⟩ := Run.startP (P := fun u g' => u = othV (othS v bad l b) ∧ HA h0 g') (vs := [.ptr P 0, .int .i64 b]) (h := h0) t_place_choice_others (by
    unfold k_place_choice_others
    have rA : Heap.row (h0 ++ [some [], some [V.mpn]]) (h0.length + 1) = some [V.mpn] := by
      have : h0 ++ [some [], some [V.mpn]] = (h0 ++ [some []]) ++ [some [V.mpn]] := by simp
      rw [this]; exact row_at _ _ _ _ (by simp)
    have mc : (V.mp h0.length).cells = [.mp h0.length] := rfl
    have mo : (V.mp h0.length).one = true := rfl
    rcases lr with rfl | ⟨o, rfl, ho⟩ <;>
    ( simp (disch := omega) [r0, r0A, rA, mc, mo, pt_len, spliceL]
      refine l0 _ _ fun z g1 s ha h1 h2 h3 => ?_
      have r1 := (ch.ha ha).row
      simp (disch := omega) [r1]
      have lr1 := (ch.ha ha).lrow
      rw [Xf_run (CloneLV l (by omega) hne _ _ lr1)]
      have ha2 := ha.trans (HA.app g1 [some (pts l)])
      have r2 := (ch.ha ha2).row
      simp (disch := omega) [r1, r2, pt_len]
      have pd : ∀ g, HA g1 g → PdH g f_place_choice_others_1 [V.ptr (h0.length + 1) 0] (okF l bad b) := fun g hg1 => ⟨rfl, fun g2 hg2 y => ⟨_, HA.app _ _, by
        have hA : g2.row (h0.length + 1) = some [.mp h0.length] := by rw [(hg1.trans hg2).2 _ (hlt h2)]; exact h2
        have hm : g2.row h0.length = some (kvB (useF l bad b) s) := by rw [(hg1.trans hg2).2 _ (hlt h1)]; exact h1
        have := Oth1_run (useF l bad b) s g2 _ _ hA hm y
        rw [show okF l bad b y = (decide (y.b ∈ s) && useF l bad b y.b) from by simp only [okF]; rw [decide_eq_decide.2 (h3 y.b)]]
        exact this⟩⟩
      refine oth_loop1 (ch.ha ha) b hl hc (okF l bad b) (h0.length + 1) pd g1.length (by omega) l.length 0 [] _ (by omega) rfl (HA.app _ _) (row_at _ _ _ _ rfl) _ _ (fun z g2 suf e1 hg e2 e3 => ?_) (fun e1 g2 hg => ?_)
      · have e1 : othS v bad l b = some suf := e1
        have e3 : suf.length = l.length := by simpa using e3
        have fz := fzPt g2 g1.length suf (by simpa using e2)
        rw [e3] at fz
        simp (disch := omega) [e1]
        rw [fz]
        simp only [Option.bind_some, epiP_some]
        exact ⟨rfl, (ha.trans hg).upd ha.1 none⟩
      · have e1 : othS v bad l b = none := e1
        simp (disch := omega) [e1]
        exact ⟨rfl, ha.trans hg⟩))
  subst ev
  exact ⟨g', hg, r⟩
/-- The blocks of places, rising. -/
def IsU (U : List Int) (l : List Pt) : Prop := U.Pairwise (· < ·) ∧ ∀ x, x ∈ U ↔ x ∈ blkOf l
theorem IsU.eq {U W : List Int} {l : List Pt} (a : IsU U l) (b : IsU W l) : U = W := rising_eq U W a.1 b.1 fun x => (a.2 x).trans (b.2 x).symm
def shrS (v : List Cp) (bad : List Int) (l : List Pt) : List Int → Option (List Pt)
  | [] => none
  | b :: r => if b ∈ bad then shrS v bad l r else match othS v bad l b with
    | some s => some s
    | none => shrS v bad l r
/-- One block is freed, or none. -/
def Stp (v : List Cp) (bad : List Int) (l : List Pt) (r : Option (List Pt)) : Prop := ∃ U, IsU U l ∧ r = shrS v bad l U
theorem Stp.eq {v : List Cp} {bad : List Int} {l : List Pt} {r s : Option (List Pt)} (a : Stp v bad l r) (b : Stp v bad l s) : r = s := by
  obtain ⟨U, h1, rfl⟩ := a
  obtain ⟨W, h2, rfl⟩ := b
  rw [h1.eq h2]
/-- Blocks are freed until none can be. -/
inductive Fin' (v : List Cp) (bad : List Int) : Nat → List Pt → List Pt → Prop where
  | stop {l : List Pt} : Stp v bad l none → Fin' v bad 0 l l
  | go {n : Nat} {l s r : List Pt} : Stp v bad l (some s) → Fin' v bad n s r → Fin' v bad (n + 1) l r
theorem Fin'.eq {v : List Cp} {bad : List Int} : ∀ {n m : Nat} {l r s : List Pt}, Fin' v bad n l r → Fin' v bad m l s → r = s
  | _, _, _, _, _, .stop _, .stop _ => rfl
  | _, _, _, _, _, .stop a, .go b _ => by have := a.eq b; cases this
  | _, _, _, _, _, .go a _, .stop b => by have := a.eq b; cases this
  | _, _, _, _, _, .go a x, .go b y => by
    have e := a.eq b
    cases e
    exact x.eq y
theorem mvF_len (ok : Pt → Bool) (b : Int) : ∀ (v : List Cp) (l s : List Pt), v.length = l.length → mvF ok b v l = some s → s.length = l.length
  | [], [], s, _, h => by cases h; rfl
  | c :: v, p :: l, s, hl, h => by
    simp only [mvF] at h
    split at h
    · cases f : c.ats.find? ok with
      | none => rw [f] at h; cases h
      | some q =>
        rw [f] at h
        cases e : mvF ok b v l with
        | none => rw [e] at h; cases h
        | some t =>
          rw [e] at h; cases h
          simp [mvF_len ok b v l t (by simpa using hl) e]
    · cases e : mvF ok b v l with
      | none => rw [e] at h; cases h
      | some t =>
        rw [e] at h; cases h
        simp [mvF_len ok b v l t (by simpa using hl) e]
theorem mvF_mem (ok : Pt → Bool) (b : Int) : ∀ (v : List Cp) (l s : List Pt), mvF ok b v l = some s → ∀ q ∈ s, (q ∈ l ∧ q.b ≠ b) ∨ ok q = true
  | [], l, s, h, q, hq => by cases h; simp at hq
  | c :: v, [], s, h, q, hq => by cases h; simp at hq
  | c :: v, p :: l, s, h, q, hq => by
    simp only [mvF] at h
    split at h
    · cases f : c.ats.find? ok with
      | none => rw [f] at h; cases h
      | some q' =>
        rw [f] at h
        cases e : mvF ok b v l with
        | none => rw [e] at h; cases h
        | some t =>
          rw [e] at h; cases h
          rcases List.mem_cons.1 hq with rfl | hq
          · exact .inr (List.find?_some f)
          · rcases mvF_mem ok b v l t e q hq with ⟨a, b⟩ | a
            · exact .inl ⟨List.mem_cons_of_mem _ a, b⟩
            · exact .inr a
    · rename_i hne
      cases e : mvF ok b v l with
      | none => rw [e] at h; cases h
      | some t =>
        rw [e] at h; cases h
        rcases List.mem_cons.1 hq with rfl | hq
        · exact .inl ⟨List.mem_cons_self, hne⟩
        · rcases mvF_mem ok b v l t e q hq with ⟨a, b⟩ | a
          · exact .inl ⟨List.mem_cons_of_mem _ a, b⟩
          · exact .inr a
theorem blk_mem {l : List Pt} {x : Int} : x ∈ blkOf l ↔ ∃ p ∈ l, p.b = x := by simp [blkOf]
theorem shrS_some {v : List Cp} {bad : List Int} {l : List Pt} : ∀ {U : List Int} {s : List Pt}, shrS v bad l U = some s → ∃ b ∈ U, b ∉ bad ∧ othS v bad l b = some s
  | b :: U, s, h => by
    simp only [shrS] at h
    split at h
    · obtain ⟨c, h1, h2⟩ := shrS_some h
      exact ⟨c, List.mem_cons_of_mem _ h1, h2⟩
    · rename_i hb
      split at h
      · rename_i t e
        cases h
        exact ⟨b, List.mem_cons_self, hb, e⟩
      · obtain ⟨c, h1, h2⟩ := shrS_some h
        exact ⟨c, List.mem_cons_of_mem _ h1, h2⟩
theorem oth_blk {v : List Cp} {bad : List Int} {l s : List Pt} {b : Int} (h : othS v bad l b = some s) : ∀ x ∈ blkOf s, x ∈ blkOf l ∧ x ≠ b := fun x hx => by
  obtain ⟨q, hq, rfl⟩ := blk_mem.1 hx
  rcases mvF_mem _ _ _ _ _ h q hq with ⟨h1, h2⟩ | h1
  · exact ⟨blk_mem.2 ⟨q, h1, rfl⟩, h2⟩
  · simp only [okF, useF, Bool.and_eq_true, decide_eq_true_eq] at h1
    exact ⟨h1.1, h1.2.1⟩
theorem isU_lt {U W : List Int} {l s : List Pt} {b : Int} (hU : IsU U l) (hW : IsU W s) (hs : ∀ x ∈ blkOf s, x ∈ blkOf l ∧ x ≠ b) (hb : b ∈ U) : W.length < U.length := by
  have e : W = U.filter (fun x => decide (x ∈ W)) := rising_eq W _ hW.1 (hU.1.filter _) fun x => by
    simp only [List.mem_filter, decide_eq_true_eq]
    exact ⟨fun h => ⟨(hU.2 x).2 (hs x ((hW.2 x).1 h)).1, h⟩, fun h => h.2⟩
  rw [e]
  refine List.length_filter_lt_length_iff_exists.2 ⟨b, hb, ?_⟩
  simp only [decide_eq_true_eq]
  exact fun h => (hs b ((hW.2 b).1 h)).2 rfl
theorem fin_ex (v : List Cp) (bad : List Int) (ex : ∀ l : List Pt, l.length = v.length → ∃ U, IsU U l) : ∀ (n : Nat) (l : List Pt) (U : List Int), l.length = v.length → IsU U l → U.length ≤ n → ∃ m r, m ≤ n ∧ Fin' v bad m l r := by
  intro n
  induction n with
  | zero =>
    intro l U hl hU hn
    have e : U = [] := List.eq_nil_of_length_eq_zero (by omega)
    exact ⟨0, l, Nat.le_refl _, .stop ⟨U, hU, by rw [e]; rfl⟩⟩
  | succ n ih =>
    intro l U hl hU hn
    cases h : shrS v bad l U with
    | none => exact ⟨0, l, by omega, .stop ⟨U, hU, h.symm⟩⟩
    | some s =>
      obtain ⟨b, h1, h2, h3⟩ := shrS_some h
      have sl := mvF_len _ _ _ _ _ hl.symm h3
      obtain ⟨W, hW⟩ := ex s (by omega)
      have := isU_lt hU hW (oth_blk h3) h1
      obtain ⟨m, r, hm, hf⟩ := ih s W (by omega) hW (by omega)
      exact ⟨m + 1, r, by omega, .go ⟨U, hU, h.symm⟩ hf⟩
theorem fin_inv {v : List Cp} {bad : List Int} {P : List Pt → Prop} (hP : ∀ l s b, P l → othS v bad l b = some s → P s) : ∀ {n : Nat} {l r : List Pt}, Fin' v bad n l r → P l → P r
  | _, _, _, .stop _, h => h
  | _, l, _, .go ⟨U, _, e⟩ f, h => by
    obtain ⟨b, _, _, h3⟩ := shrS_some e.symm
    exact fin_inv hP f (hP l _ b h h3)
/-- What shrink leaves. -/
def ShR (P vb : Nat) (v : List Cp) (bad : List Int) (lv : V) (l : List Pt) (r : Option (List Pt)) (u : V) (g : Heap) : Prop := match r with
  | some s => u = .bool true ∧ CH P vb v bad s (.ps 2 (Pt.vs s)) g
  | none => u = .bool false ∧ CH P vb v bad l lv g
theorem shr_loop {P vb : Nat} {v : List Cp} {bad : List Int} {l : List Pt} {lv : V} (hl : l.length ≤ 60) (hb : bad.length ≤ 1000) (hc : ∀ c ∈ v, c.ats.length ≤ 1000) (hne : l ≠ []) (hpv : P ≠ vb) (U : List Int) (hU : U.length ≤ 60) : ∀ (m i : Nat) (g : Heap), i + m = U.length → CH P vb v bad l lv g → ∀ ks Q,
    (∀ z g', shrS v bad l (U.drop i) = none → CH P vb v bad l lv g' → Xk T ks (.x 0) z g' Q) →
    (∀ s g', shrS v bad l (U.drop i) = some s → CH P vb v bad s (.ps 2 (Pt.vs s)) g' → Xk T ks .r [(2, .bool true)] g' Q) →
    Xc T l_place_choice_shrink_0 ks [(0, .ptr P 0), (11, .ps 1 (ints U)), (12, .int .i64 U.length), (13, .int .i64 i)] g Q := by
  intro m
  induction m with
  | zero =>
    intro i g hi ch ks Q hx hy
    rw [L_place_choice_shrink_0]; unfold bl_place_choice_shrink_0
    have c1 : ¬ (i : Int) < U.length := by omega
    have e : U.drop i = [] := List.drop_eq_nil_of_le (by omega)
    simp (disch := omega) [c1]
    exact hx _ g (by rw [e]; rfl) ch
  | succ m ih =>
    intro i g hi ch ks Q hx hy
    rw [L_place_choice_shrink_0]; unfold bl_place_choice_shrink_0
    have hil : i < U.length := by omega
    have c1 : (i : Int) < U.length := by omega
    have e := List.drop_eq_getElem_cons hil
    rw [e] at hx hy
    have g1 : (ints U)[i]? = some (.int .i64 U[i]) := by rw [ints_get, List.getElem?_eq_getElem hil]; rfl
    have r0 := ch.row
    have cp := fun {ks ops K e h Q d lent} x => Contains_p (ks := ks) (ops := ops) (K := K) (e := e) (h := h) (Q := Q) (d := d) (lent := lent) bad x (by omega)
    have ih := ih (i + 1)
    rw [show ((i + 1 : Nat) : Int) = (i : Int) + 1 from rfl] at ih
    generalize U[i] = b at *
    simp only [shrS] at hx hy
    by_cases c2 : b ∈ bad
    · rw [if_pos c2] at hx hy
      simp (disch := omega) [c1, g1, r0, cp, c2, ints_len]
      exact ih g (by omega) ch ks Q hx hy
    · rw [if_neg c2] at hx hy
      obtain ⟨g', hg, ro⟩ := others_run ch b hl hb hc hne
      simp (disch := omega) [c1, g1, r0, cp, c2, ints_len]
      rw [Xf_run ro]
      have ch' := ch.ha hg
      have r1 := ch'.row
      cases ho : othS v bad l b with
      | none =>
        rw [ho] at hx hy
        simp (disch := omega) [othV]
        exact ih g' (by omega) ch' ks Q hx hy
      | some s =>
        rw [ho] at hx hy
        have sl := mvF_len _ _ _ _ _ ch.len ho
        simp (disch := omega) [othV, r1]
        refine hy s _ rfl ⟨?_, ?_, .inl rfl, by rw [sl]; exact ch.len⟩
        · exact row_set (hlt r1)
        · rw [row_ne hpv]; exact ch'.vrow
theorem shrink_run {P vb : Nat} {v : List Cp} {bad : List Int} {l : List Pt} {lv : V} {g : Heap} (ch : CH P vb v bad l lv g) (hl : l.length ≤ 60) (hb : bad.length ≤ 1000) (hc : ∀ c ∈ v, c.ats.length ≤ 1000) (hne : l ≠ []) (hpv : P ≠ vb) :
    ∃ r u g', Stp v bad l r ∧ ShR P vb v bad lv l r u g' ∧ Run T f_place_choice_shrink [.ptr P 0] g u g' := by
  obtain ⟨U, g1, u1, u2, u3, u4, ru⟩ := UsedV_run l hl lv g ch.lrow
  have ch1 := ch.ha u3
  have r0 := ch.row
  obtain ⟨u, g', hs, r⟩ := Run.startP (P := fun u g' => ShR P vb v bad lv l (shrS v bad l U) u g') (vs := [.ptr P 0]) (h := g) t_place_choice_shrink (by
    unfold k_place_choice_shrink
    simp (disch := omega) [r0]
    rw [Xf_run ru]
    simp (disch := omega) [ints_len]
    refine shr_loop hl hb hc hne hpv U (by omega) U.length 0 g1 (by omega) ch1 _ _ (fun z g' h1 h2 => ?_) (fun s g' h1 h2 => ?_)
    · rw [List.drop_zero] at h1
      simp (disch := omega)
      rw [h1]
      exact ⟨rfl, h2⟩
    · rw [List.drop_zero] at h1
      simp (disch := omega)
      rw [h1]
      exact ⟨rfl, h2⟩)
  exact ⟨_, u, g', ⟨U, ⟨u1, u2⟩, rfl⟩, hs, r⟩
/-- Blocks are freed until none can be: the loop. -/
theorem again_loop {P vb : Nat} {v : List Cp} {bad : List Int} (hv : v.length ≤ 60) (hb : bad.length ≤ 1000) (hc : ∀ c ∈ v, c.ats.length ≤ 1000) (hne : v ≠ []) (hpv : P ≠ vb) : ∀ (n : Nat) (l r : List Pt), Fin' v bad n l r → ∀ (lv : V) (g : Heap), CH P vb v bad l lv g → ∀ ks Q,
    (∀ g' rv, CH P vb v bad r rv g' → Xk T ks .r [(4, rv)] g' Q) →
    ∀ z : Env, z = [] ∨ z = [(46, V.bool true)] ∨ (∃ a b c d, z = [(11, a), (12, b), (13, c), (14, d)]) → Xc T l_place_Choose_1 ks ((5, .ptr P 0) :: z) g Q := by
  intro n l r f
  induction f with
  | @stop l hs =>
    intro lv g ch ks Q hx z hz
    have ll := ch.len
    rw [L_place_Choose_1]; unfold bl_place_Choose_1
    obtain ⟨r, u, g', h1, h2, rs⟩ := shrink_run ch (by omega) hb hc (fun e => hne (List.eq_nil_of_length_eq_zero (by rw [ll, e]; rfl))) hpv
    have e := h1.eq hs
    subst e
    obtain ⟨rfl, ch'⟩ := h2
    have r0 := ch'.row
    rcases hz with rfl | rfl | ⟨a, b, c, d, rfl⟩ <;>
    ( simp (disch := omega)
      rw [Xf_run rs]
      simp (disch := omega) [r0]
      exact hx g' lv ch')
  | @go n l s r hs f ih =>
    intro lv g ch ks Q hx z hz
    have ll := ch.len
    rw [L_place_Choose_1]; unfold bl_place_Choose_1
    obtain ⟨r, u, g', h1, h2, rs⟩ := shrink_run ch (by omega) hb hc (fun e => hne (List.eq_nil_of_length_eq_zero (by rw [ll, e]; rfl))) hpv
    have e := h1.eq hs
    subst e
    obtain ⟨rfl, ch'⟩ := h2
    rcases hz with rfl | rfl | ⟨a, b, c, d, rfl⟩ <;>
    ( simp (disch := omega)
      rw [Xf_run rs]
      simp (disch := omega)
      exact ih _ g' ch' ks Q hx _ (.inr (.inl rfl)))
end Ev
