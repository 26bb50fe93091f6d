/- Pairs taken out of a slice of the heap. Ranges merged. The law ResendMerges. Each theorem states its own conditions. -/
import Derived.Test.YtfkjnpbgkabhbaaGCode
import Derived.Test.YtfkjnpbgkabhbaaGPs
set_option linter.all false
namespace Ev
open Go
set_option maxRecDepth 10000
attribute [-simp] getElem?_pos getElem?_neg
def Pr.vs (l : List Pr) : List V := l.map Pr.v
theorem flat_vs (l : List Pr) : flat (Pr.vs l) = prs l := by
  simp [flat, Pr.vs, prs, List.flatMap_map, Pr.v, V.cells]
theorem vs_len (l : List Pr) : (Pr.vs l).length = l.length := by simp [Pr.vs]
@[simp] theorem spl0 (a b : V) (x : Pr) : spliceL [a, b] 0 x.cs = x.cs := by simp [spliceL, Pr.cs]
@[simp] theorem cs_take (x : Pr) : x.cs.take 2 = x.cs := rfl
/-- A test that turns nothing. -/
structure Pd2 (g0 : Heap) (b f : Nat) (cap : List V) (p : Pr → Bool) : Prop where
  free : T.free f = true
  run : ∀ g, HK g0 g b → ∀ y : Pr, Run T f (.agg y.cs :: cap) g (.bool (p y)) g
/-- Where the first is that passes. -/
def fIx2 (p : Pr → Bool) : List Pr → Nat → Int
  | [], _ => -1
  | y :: r, i => if p y then (i : Int) else fIx2 p r (i + 1)
theorem fIx2_neg (p : Pr → Bool) : ∀ (l : List Pr) (i : Nat), fIx2 p l i = -1 → l.filter (fun y => !p y) = l
  | [], _, _ => rfl
  | y :: r, i, h => by
    by_cases c : p y = true
    · simp only [fIx2, if_pos c] at h; omega
    · simp only [fIx2, if_neg c] at h
      have := fIx2_neg p r (i + 1) h
      simp [c, this]
theorem fIx2_at (p : Pr → Bool) : ∀ (l : List Pr) (i : Nat), fIx2 p l i ≠ -1 → ∃ k : Nat, fIx2 p l i = ((i + k : Nat) : Int) ∧ k < l.length ∧ l.filter (fun y => !p y) = l.take k ++ (l.drop (k + 1)).filter (fun y => !p y)
  | [], _, h => absurd rfl h
  | y :: r, i, h => by
    by_cases c : p y = true
    · exact ⟨0, by simp [fIx2, c], by simp, by simp [c]⟩
    · simp only [fIx2, if_neg c] at h ⊢
      obtain ⟨k, e1, e2, e3⟩ := fIx2_at p r (i + 1) h
      refine ⟨k + 1, by rw [e1]; congr 1; omega, by simpa using e2, ?_⟩
      simp [c, e3]
theorem tk2_get {R : List V} {n : Nat} {l : List Pr} (h : R.take (n * 2) = prs l) (i : Nat) (hi : i < n) (hl : i < l.length) : (R.drop (i * 2)).take 2 = l[i].cs := by
  have := prs_part l i hl
  rw [← h, List.drop_take, List.take_take, Nat.min_eq_left (by omega)] at this
  exact this
theorem tk2_set {R : List V} {n : Nat} {l : List Pr} (h : R.take (n * 2) = prs l) (hl : l.length = n) (hR : n * 2 ≤ R.length) (i : Nat) (hi : i < n) (x : Pr) : (spliceL R (i * 2) x.cs).take (n * 2) = prs (l.set i x) := by
  rw [← prs_set l i x (by omega), ← h]
  unfold spliceL
  simp only [cs_len]
  rw [List.append_assoc, List.append_assoc, List.take_append, List.length_take, Nat.min_eq_left (by omega), List.take_take, Nat.min_eq_right (by omega), List.take_take, Nat.min_eq_left (by omega), List.take_append, cs_len, List.take_of_length_le (show x.cs.length ≤ n * 2 - i * 2 by simp; omega), List.drop_take]
  congr 3
section
variable {g0 g : Heap} {b f : Nat} {cap : List V} {p : Pr → Bool}
theorem ixf2_loop (hp : Pd2 g0 b f cap p) (l : List Pr) (n : Nat) (hn : n ≤ 1000000) (hl : l.length = n) (R : List V) (hR : R.take (n * 2) = prs l) (hRl : n * 2 ≤ R.length) (hk : HK g0 g b) (hr : g.row b = some R) : ∀ (m i : Nat), i + m = n → ∀ ks Q,
    (fIx2 p (l.drop i) i = -1 → ∀ e, Xk T ks (.x 0) e g Q) →
    (fIx2 p (l.drop i) i ≠ -1 → Xk T ks .r [(4, .int .i64 (fIx2 p (l.drop i) i))] g Q) →
    Xc T l_slices_IndexFunc_2_uint64_2_uint64_0 ks [(0, .hs 2 b 0 n), (1, .fn f cap), (7, .int .i64 n), (8, .int .i64 i)] g Q := by
  have hf := hp.free
  intro m
  induction m with
  | zero =>
    intro i hi ks Q h1 h2
    have e : l.drop i = [] := List.drop_eq_nil_of_le (by omega)
    rw [e] at h1
    have e2 : ¬ (i : Int) < n := by omega
    rw [L_slices_IndexFunc_2_uint64_2_uint64_0]; unfold bl_slices_IndexFunc_2_uint64_2_uint64_0
    simp (disch := omega) [e2]
    exact h1 rfl _
  | succ m ih =>
    intro i hi ks Q h1 h2
    have hil : i < l.length := by omega
    have e := List.drop_eq_getElem_cons hil
    rw [e] at h1 h2
    have e1 : (i : Int) < n := by omega
    have g1 := tk2_get hR i (by omega) hil
    have c2 : i * 2 + 2 ≤ R.length := by omega
    have ih := ih (i + 1) (by omega) ks Q
    rw [show ((i + 1 : Nat) : Int) = (i : Int) + 1 from rfl] at ih
    rw [L_slices_IndexFunc_2_uint64_2_uint64_0]; unfold bl_slices_IndexFunc_2_uint64_2_uint64_0
    simp (disch := omega) [e1, hr, g1, hf, c2]
    rw [Xf_run (hp.run g hk _)]
    simp only [fIx2] at h1 h2
    by_cases c : p l[i] = true
    · rw [if_pos c] at h1 h2
      simp (disch := omega) [c]
      exact h2 (by omega)
    · rw [if_neg c] at h1 h2
      simp (disch := omega) [c]
      exact ih h1 h2
theorem ixf2_run (hp : Pd2 g0 b f cap p) (l : List Pr) (hn : l.length ≤ 1000000) (R : List V) (hR : R.take (l.length * 2) = prs l) (hRl : l.length * 2 ≤ R.length) (hk : HK g0 g b) (hr : g.row b = some R) : Run T f_slices_IndexFunc_2_uint64_2_uint64 [.hs 2 b 0 l.length, .fn f cap] g (.int .i64 (fIx2 p l 0)) g := by
  refine Run.start t_slices_IndexFunc_2_uint64_2_uint64 ?_
  unfold k_slices_IndexFunc_2_uint64_2_uint64
  simp (disch := omega)
  have := ixf2_loop hp l l.length hn rfl R hR hRl hk hr l.length 0 (by omega)
  refine this _ _ (fun h e => ?_) (fun h => ?_)
  · have h : fIx2 p l 0 = -1 := h
    simp [h]
  · have h : ¬ fIx2 p l 0 = -1 := h
    simp [h]
theorem dlf2_loop (hp : Pd2 g0 b f cap p) (N : Nat) (hN : N ≤ 1000000) : ∀ (m k : Nat), k + m = N → ∀ (i : Nat) (cur : List Pr) (R : List V) (g : Heap), cur.length = N → i ≤ k → R.take (N * 2) = prs cur → N * 2 ≤ R.length → HK g0 g b → g.row b = some R → ∀ ks Q,
    (∀ z g' cur' R', HK g g' b → cur'.length = N → R'.take (N * 2) = prs cur' → N * 2 ≤ R'.length → Heap.row g' b = some R' → i + ((cur.drop k).filter (fun y => !p y)).length ≤ N → cur'.take (i + ((cur.drop k).filter (fun y => !p y)).length) = cur.take i ++ (cur.drop k).filter (fun y => !p y) →
      Xk T ks (.x 0) ((0, .hs 2 b 0 N) :: (1, .fn f cap) :: (5, .int .i64 ((i + ((cur.drop k).filter (fun y => !p y)).length : Nat) : Int)) :: z) g' Q) →
    Xc T l_slices_DeleteFunc_2_uint64_2_uint64_0 ks [(0, .hs 2 b 0 N), (1, .fn f cap), (5, .int .i64 i), (6, .int .i64 k)] g Q := by
  have hf := hp.free
  intro m
  induction m with
  | zero =>
    intro k hk i cur R g hc hi hR hRl hg hr ks Q hx
    have e : cur.drop k = [] := List.drop_eq_nil_of_le (by omega)
    have e2 : ¬ (k : Int) < N := by omega
    rw [L_slices_DeleteFunc_2_uint64_2_uint64_0]; unfold bl_slices_DeleteFunc_2_uint64_2_uint64_0
    simp (disch := omega) [e2]
    have := hx [(6, .int .i64 k), (19, .bool false)] g cur R (HK.refl _ _) hc hR hRl hr (by rw [e]; simp; omega) (by rw [e]; simp)
    rw [e] at this
    simpa using this
  | succ m ih =>
    intro k hk i cur R g hc hi hR hRl hg hr ks Q hx
    have hl : k < cur.length := by omega
    have e := List.drop_eq_getElem_cons hl
    have e1 : (k : Int) < N := by omega
    have g1 := tk2_get hR k (by omega) hl
    have c2 : k * 2 + 2 ≤ R.length := by omega
    have ih := ih (k + 1) (by omega)
    rw [show ((k + 1 : Nat) : Int) = (k : Int) + 1 from rfl] at ih
    rw [e] at hx
    have jl := hlt hr
    rw [L_slices_DeleteFunc_2_uint64_2_uint64_0]; unfold bl_slices_DeleteFunc_2_uint64_2_uint64_0
    have hrA : ∀ x, Heap.row (g ++ [some x]) b = some R := fun x => by rw [row_app jl]; exact hr
    have cx : cur[k].cs = [.int .u64 cur[k].lo, .int .u64 cur[k].hi] := rfl
    simp (disch := omega) [e1, hr, g1, hf, c2]
    rw [Xf_run (hp.run (g ++ [some cur[k].cs]) (hg.trans (HK.app _ _ _)) _)]
    by_cases c : p cur[k] = true
    · rw [List.filter_cons_of_neg (by simp [c])] at hx
      simp (disch := omega) [c]
      exact ih i cur R _ hc (by omega) hR hRl (hg.trans (HK.app _ _ _)) (hrA _) ks Q (fun z g' cur' R' a1 => hx z g' cur' R' ((HK.app _ _ _).trans a1))
    · rw [List.filter_cons_of_pos (by simp [c])] at hx
      have iR : i * 2 + 2 ≤ R.length := by omega
      have iN : i < N := by omega
      simp (disch := omega) [c, hr, hrA, iR, iN]
      have d1 : (cur.set i cur[k]).drop (k + 1) = cur.drop (k + 1) := List.drop_set_of_lt (by omega)
      have t1 : (cur.set i cur[k]).take (i + 1) = cur.take i ++ [cur[k]] := by
        rw [List.take_succ, List.take_set_of_le (Nat.le_refl _), List.getElem?_set_self (by omega)]; rfl
      have jl2 : b < (g ++ [some cur[k].cs]).length := by simp; omega
      have := ih (i + 1) (cur.set i cur[k]) (spliceL R (i * 2) cur[k].cs) ((g ++ [some cur[k].cs]).set b (some (spliceL R (i * 2) cur[k].cs))) (by simp [hc]) (by omega) (tk2_set hR hc hRl i iN _) (by simp [spliceL]; omega) ((hg.trans (HK.app _ _ _)).trans (HK.set _ _ _)) (row_set jl2) ks Q (fun z g' cur' R' a1 a2 a3 a4 a5 a6 a7 => by
        rw [d1] at a6 a7 ⊢
        rw [t1] at a7
        simp only [List.length_cons] at hx
        have e1 : i + 1 + ((cur.drop (k + 1)).filter (fun y => !p y)).length = i + (((cur.drop (k + 1)).filter (fun y => !p y)).length + 1) := by omega
        rw [e1] at a6 a7 ⊢
        exact hx z g' cur' R' (((HK.app _ _ _).trans (HK.set _ _ _)).trans a1) a2 a3 a4 a5 a6 (by rw [a7]; simp))
      rw [List.set_append, if_pos jl] at this
      simpa using this
/-- A heap slice of pairs. -/
def fv2 (b : Nat) (l : List Pr) : V := if l = [] then .ps 2 [] else .hs 2 b 0 l.length
theorem dlf2_run (hp : Pd2 g0 b f cap p) (l : List Pr) (hn : l.length ≤ 1000000) (hne : l ≠ []) (R : List V) (hR : R.take (l.length * 2) = prs l) (hRl : l.length * 2 ≤ R.length) (hk : HK g0 g b) (hr : g.row b = some R) :
    ∃ g' R', Run T f_slices_DeleteFunc_2_uint64_2_uint64 [.hs 2 b 0 l.length, .fn f cap] g (fv2 b (l.filter fun y => !p y)) g' ∧ HK g g' b ∧ Heap.row g' b = some R' ∧ R'.take ((l.filter fun y => !p y).length * 2) = prs (l.filter fun y => !p y) ∧ (l.filter fun y => !p y).length * 2 ≤ R'.length := by
  obtain ⟨v, h', ⟨ev, hk', R', q1, q2, q3⟩, r⟩ := Run.startP (P := fun v g' => v = fv2 b (l.filter fun y => !p y) ∧ HK g g' b ∧ ∃ R', Heap.row g' b = some R' ∧ R'.take ((l.filter fun y => !p y).length * 2) = prs (l.filter fun y => !p y) ∧ (l.filter fun y => !p y).length * 2 ≤ R'.length) (vs := [.hs 2 b 0 l.length, .fn f cap]) (h := g) t_slices_DeleteFunc_2_uint64_2_uint64 (by
    unfold k_slices_DeleteFunc_2_uint64_2_uint64
    simp (disch := omega)
    rw [Xf_run (ixf2_run hp l hn R hR hRl hk hr)]
    by_cases c : fIx2 p l 0 = -1
    · have e := fIx2_neg p l 0 c
      simp (disch := omega) [c]
      rw [e]
      exact ⟨by simp [fv2, hne], HK.refl _ _, R, hr, hR, hRl⟩
    · obtain ⟨k, e1, e2, e3⟩ := fIx2_at p l 0 c
      rw [Nat.zero_add] at e1
      have c' : ¬ ((k : Int) = -1) := by omega
      have lp := dlf2_loop hp l.length hn (l.length - (k + 1)) (k + 1) (by omega) k l R g rfl (by omega) hR hRl hk hr
      rw [show ((k + 1 : Nat) : Int) = (k : Int) + 1 from rfl] at lp
      rw [e1]
      simp (disch := omega) [c']
      refine lp _ _ (fun z g' cur' R' h0 h1 h2 h3 h4 h5 h6 => ?_)
      have hk : (l.filter fun y => !p y) = cur'.take (k + ((l.drop (k + 1)).filter fun y => !p y).length) := by rw [h6, e3]
      have kf : ((l.drop (k + 1)).filter fun y => !p y).length ≤ l.length - (k + 1) := by have := List.length_filter_le (fun y => !p y) (l.drop (k + 1)); rwa [List.length_drop] at this
      generalize hM : k + ((l.drop (k + 1)).filter fun y => !p y).length = M at *
      have hMl : M < l.length := by omega
      have fl : (l.filter fun y => !p y).length = M := by rw [hk, List.length_take]; omega
      have sv1 := slN_lo 2 b l.length M hMl
      have sv2 := slN_hi 2 b l.length M (by omega)
      have cv := clrN g' 2 b (M * 2) (l.length - M) [.int .u64 0, .int .u64 0] R' rfl h4 (by omega)
      have rl : (repZ (l.length - M) [V.int .u64 0, .int .u64 0]).length = (l.length - M) * 2 := by simp [repZ]
      simp (disch := omega) [sv1, sv2, cv]
      refine ⟨?_, h0.trans (HK.set _ _ _), _, row_set (hlt h4), ?_, ?_⟩
      · unfold fv2
        by_cases z0 : M = 0
        · rw [if_pos z0, if_pos (List.eq_nil_of_length_eq_zero (by rw [fl, z0]))]
        · rw [if_neg z0, if_neg (fun e => by rw [e] at fl; simp at fl; omega), fl]
      · rw [fl]
        unfold spliceL
        rw [List.append_assoc, List.take_left' (by rw [List.length_take]; omega), hk]
        have := congrArg (List.take (M * 2)) h2
        rw [List.take_take, Nat.min_eq_left (by omega), prs_take] at this
        exact this
      · rw [fl]; simp only [spliceL, List.length_append, List.length_take, rl]; omega)
  subst ev
  exact ⟨h', R', r, hk', q1, q2, q3⟩
end
theorem isNaN64_run (x : Int) (h : Heap) : Run T f_cmp_isNaN_uint64 [.int .u64 x] h (.bool false) h := by
  refine Run.start t_cmp_isNaN_uint64 ?_
  unfold k_cmp_isNaN_uint64
  simp (disch := omega)
section
variable {ks : List Kt} {ops : List AOpr} {K : Kp} {e : Env} {h : Heap} {Q : Ex → Env → Heap → Prop} {d : Nat} {lent : Bool}
theorem isNaN64_p (x : Int) : Xp T f_cmp_isNaN_uint64 (some ([.int .u64 x], lent)) h (some d) ops K ks e Q = Xo T ops K ks ((d, .bool false) :: e) h Q :=
  Xp_run (isNaN64_run x []) (by simp) rfl (by simp [scalar])
end
def cmpI (x y : Int) : Int := if x < y then -1 else if y < x then 1 else 0
theorem Compare_run (x y : Int) (h : Heap) : Run T f_cmp_Compare_uint64 [.int .u64 x, .int .u64 y] h (.int .i64 (cmpI x y)) h := by
  refine Run.start t_cmp_Compare_uint64 ?_
  unfold k_cmp_Compare_uint64 cmpI
  by_cases c1 : x < y
  · simp (disch := omega) [isNaN64_p, c1]
  · by_cases c2 : y < x
    · simp (disch := omega) [isNaN64_p, c1, c2]
    · simp (disch := omega) [isNaN64_p, c1, c2]
section
variable {ks : List Kt} {ops : List AOpr} {K : Kp} {e : Env} {h : Heap} {Q : Ex → Env → Heap → Prop} {d : Nat} {lent : Bool}
theorem Compare_p (x y : Int) : Xp T f_cmp_Compare_uint64 (some ([.int .u64 x, .int .u64 y], lent)) h (some d) ops K ks e Q = Xo T ops K ks ((d, .int .i64 (cmpI x y)) :: e) h Q :=
  Xp_run (Compare_run x y []) (by simp) rfl (by simp [scalar])
end
theorem Merge1_run (x : Pr) (h : Heap) : Run T f_resend_Merge_1 [.agg x.cs] h (.bool (decide (x.hi < x.lo))) h := by
  refine Run.start t_resend_Merge_1 ?_
  unfold k_resend_Merge_1 Pr.cs
  simp (disch := omega)
theorem Merge2_run (x y : Pr) (h : Heap) : Run T f_resend_Merge_2 [.agg x.cs, .agg y.cs] h (.int .i64 (cmpI x.lo y.lo)) h := by
  refine Run.start t_resend_Merge_2 ?_
  unfold k_resend_Merge_2 Pr.cs
  simp (disch := omega) [Compare_p]
theorem cmpI_lt (x y : Int) : decide (cmpI x y < 0) = decide (x < y) := by
  unfold cmpI
  split
  · simp [*]
  · split <;> simp [*]
def cmpP (x y : Pr) : Int := cmpI x.lo y.lo
theorem ltC_p (x y : Pr) : ltC cmpP x y = decide (x.lo < y.lo) := cmpI_lt _ _
theorem swoP : Sort.SWO (ltC cmpP) where
  irrefl := fun x => by simp [ltC_p]
  trans := fun x y z h1 h2 => by simp only [ltC_p, decide_eq_true_eq] at *; omega
  ntrans := fun x y z h1 h2 => by simp only [ltC_p, decide_eq_false_iff_not] at *; omega
structure Pr.ok (p : Pr) : Prop where
  l0 : 0 ≤ p.lo
  l1 : p.lo < 18446744073709551616
  h0 : 0 ≤ p.hi
  h1 : p.hi < 18446744073709551616
/-- Ranges merged, the last one ahead. -/
def mergeR : List Pr → Pr → List Pr
  | [], r => [r]
  | k :: t, r => if r.lo ≤ k.hi + 1 then ⟨k.lo, max k.hi r.hi⟩ :: t else r :: k :: t
def inP (l : List Pr) (n : Int) : Bool := l.any fun p => decide (p.lo ≤ n) && decide (n ≤ p.hi)
def APr : List Pr → Prop
  | [] => True
  | k :: t => k.lo ≤ k.hi ∧ (∀ j ∈ t.head?, j.hi + 2 ≤ k.lo) ∧ APr t
theorem mergeR_ap (s : List Pr) (r : Pr) (h : APr s) (hr : r.lo ≤ r.hi) (hl : ∀ k ∈ s.head?, k.lo ≤ r.lo) : APr (mergeR s r) ∧ (∀ k ∈ (mergeR s r).head?, k.lo ≤ r.lo) := by
  cases s with
  | nil => exact ⟨⟨hr, by simp, trivial⟩, by simp [mergeR]⟩
  | cons k t =>
    have hk : k.lo ≤ r.lo := hl k (by simp)
    obtain ⟨h1, h2, h3⟩ := h
    simp only [mergeR]
    split
    · exact ⟨⟨by show k.lo ≤ max k.hi r.hi; omega, h2, h3⟩, by simpa using hk⟩
    · exact ⟨⟨hr, by simp; omega, h1, h2, h3⟩, by simp⟩
theorem mergeR_in (s : List Pr) (r : Pr) (h : APr s) (hr : r.lo ≤ r.hi) (hl : ∀ k ∈ s.head?, k.lo ≤ r.lo) (n : Int) : inP (mergeR s r) n = (inP s n || (decide (r.lo ≤ n) && decide (n ≤ r.hi))) := by
  cases s with
  | nil => simp [mergeR, inP]
  | cons k t =>
    have hk : k.lo ≤ r.lo := hl k (by simp)
    have h1 := h.1
    simp only [mergeR]
    split
    · rename_i c
      simp only [inP, List.any_cons]
      rw [Bool.eq_iff_iff]
      simp only [Bool.or_eq_true, Bool.and_eq_true, decide_eq_true_eq]
      constructor
      · rintro (⟨a, b⟩ | a)
        · by_cases d : n ≤ k.hi
          · exact .inl (.inl ⟨a, d⟩)
          · exact .inr ⟨by omega, by omega⟩
        · exact .inl (.inr a)
      · rintro ((⟨a, b⟩ | a) | ⟨a, b⟩)
        · exact .inl ⟨a, by omega⟩
        · exact .inr a
        · exact .inl ⟨by omega, by omega⟩
    · simp only [inP, List.any_cons]
      rw [Bool.or_comm]
theorem merge_all : ∀ (l s : List Pr), l.Pairwise (fun a b => a.lo ≤ b.lo) → (∀ p ∈ l, p.lo ≤ p.hi) → APr s → (∀ k ∈ s.head?, ∀ p ∈ l, k.lo ≤ p.lo) →
    APr (l.foldl mergeR s) ∧ ∀ n, inP (l.foldl mergeR s) n = (inP s n || inP l n)
  | [], s, _, _, h, _ => ⟨h, fun n => by simp [inP]⟩
  | r :: l, s, hp, ho, h, hl => by
    obtain ⟨p1, p2⟩ := List.pairwise_cons.1 hp
    have hl0 : ∀ k ∈ s.head?, k.lo ≤ r.lo := fun k hk => hl k hk r (by simp)
    have hr := ho r (by simp)
    obtain ⟨m1, m2⟩ := mergeR_ap s r h hr hl0
    obtain ⟨q1, q2⟩ := merge_all l (mergeR s r) p2 (fun p hp => ho p (by simp [hp])) m1 (fun k hk p hp => Int.le_trans (m2 k hk) (p1 p hp))
    refine ⟨q1, fun n => ?_⟩
    rw [List.foldl_cons, q2, mergeR_in s r h hr hl0]
    simp [inP, Bool.or_assoc]
theorem mergeR_ok (s : List Pr) (r : Pr) (hs : ∀ p ∈ s, p.ok) (hr : r.ok) : ∀ p ∈ mergeR s r, p.ok := by
  cases s with
  | nil => simpa [mergeR] using hr
  | cons k t =>
    have hk := hs k (by simp)
    have ht : ∀ p ∈ t, p.ok := fun p hp => hs p (by simp [hp])
    simp only [mergeR]
    split
    · intro p hp
      rcases List.mem_cons.1 hp with rfl | hp
      · exact ⟨hk.l0, hk.l1, by have := hk.h0; show 0 ≤ max _ _; omega, by have := hk.h1; have := hr.h1; show max _ _ < _; omega⟩
      · exact ht p hp
    · intro p hp
      rcases List.mem_cons.1 hp with rfl | hp
      · exact hr
      · exact hs p hp
/-- Pairs, the last one ahead, as they lie. -/
def rvs (s : List Pr) : List V := prs s.reverse
/-- A slice that grows, its pairs the last one ahead. -/
def OutV (s : List Pr) (v : V) (b : Nat) (g : Heap) : Prop :=
  (s = [] ∧ v = .hn 2) ∨ (s ≠ [] ∧ ∃ o, v = .hs 2 o 0 s.length ∧ o ≠ b ∧ Heap.row g o = some (rvs s))
theorem rev_last (x : Pr) (t : List Pr) : rvs (x :: t) = prs t.reverse ++ x.cs := by
  unfold rvs
  rw [List.reverse_cons, prs_app]
  simp [prs]
theorem OutV.len {s : List Pr} {v : V} {b : Nat} {g : Heap} (h : OutV s v b g) : lenV false v = some (.int .i64 s.length) := by
  rcases h with ⟨rfl, rfl⟩ | ⟨_, o, rfl, _⟩ <;> rfl
theorem rev_len (x : Pr) (t : List Pr) : (rvs (x :: t)).length = t.length * 2 + 2 := by
  unfold rvs; rw [prs_len]; simp; omega
theorem rev_hi (x : Pr) (t : List Pr) : (rvs (x :: t))[t.length * 2 + 1]? = some (.int .u64 x.hi) := by
  have h : (prs t.reverse).length = t.length * 2 := by rw [prs_len]; simp
  rw [rev_last, List.getElem?_append_right (by omega), h]
  simp [Pr.cs]
theorem rev_set (x : Pr) (t : List Pr) (z : Int) : (rvs (x :: t)).set (t.length * 2 + 1) (.int .u64 z) = rvs (⟨x.lo, z⟩ :: t) := by
  have h : (prs t.reverse).length = t.length * 2 := by rw [prs_len]; simp
  rw [rev_last, rev_last, List.set_append, if_neg (by omega), h]
  simp [Pr.cs]
theorem mg_loop (b n : Nat) (hn : n ≤ 1000) (l : List Pr) (hl : l.length = n) (R : List V) (hR : R.take (n * 2) = prs l) (hRl : n * 2 ≤ R.length) (rv : V) (hrv : n = 0 ∨ rv = .hs 2 b 0 n) (hok : ∀ p ∈ l, p.ok) : ∀ (m i : Nat) (s : List Pr) (ov : V) (g : Heap), i + m = n → s.length ≤ i → (∀ p ∈ s, p.ok) → (n = 0 ∨ g.row b = some R) → OutV s ov b g → ∀ ks Q,
    (∀ z g' ov', OutV ((l.drop i).foldl mergeR s) ov' b g' → Xk T ks (.x 0) ((4, ov') :: z) g' Q) →
    Xc T l_resend_Merge_0 ks [(4, ov), (13, rv), (14, .int .i64 n), (15, .int .i64 i)] g Q := by
  intro m
  induction m with
  | zero =>
    intro i s ov g hi hsi hs hr ho ks Q hx
    rw [L_resend_Merge_0]; unfold bl_resend_Merge_0
    have c1 : ¬ (i : Int) < n := by omega
    have e : l.drop i = [] := List.drop_eq_nil_of_le (by omega)
    rw [e] at hx
    simp (disch := omega) [c1]
    exact hx _ g ov ho
  | succ m ih =>
    intro i s ov g hi hsi hs hr ho ks Q hx
    rw [L_resend_Merge_0]; unfold bl_resend_Merge_0
    have hil : i < l.length := by omega
    have e := List.drop_eq_getElem_cons hil
    have c1 : (i : Int) < n := by omega
    have g1 := tk2_get hR i (by omega) hil
    have c2 : i * 2 + 2 ≤ R.length := by omega
    have hr : g.row b = some R := by rcases hr with hr | hr; omega; exact hr
    have hrv : rv = .hs 2 b 0 n := by rcases hrv with hr | hr; omega; exact hr
    subst hrv
    have jl := hlt hr
    rw [e, List.foldl_cons] at hx
    have rok := hok l[i] (List.getElem_mem _)
    obtain ⟨r, hrr⟩ : ∃ r, r = l[i] := ⟨_, rfl⟩
    rw [← hrr] at g1 rok hx
    have rcs : r.cs = [.int .u64 r.lo, .int .u64 r.hi] := rfl
    have sp : spliceL [V.int .u64 0, V.int .u64 0] 0 r.cs = [.int .u64 r.lo, .int .u64 r.hi] := by simp [rcs]
    have ol := ho.len
    have ih := ih (i + 1)
    rw [show ((i + 1 : Nat) : Int) = (i : Int) + 1 from rfl] at ih
    rcases ho with ⟨rfl, rfl⟩ | ⟨hne, o, rfl, h5, h6⟩
    · simp (disch := omega) [c1, hr, g1, c2, sp]
      refine ih [r] _ _ (by omega) (by simp) (fun p hp => by rw [List.mem_singleton.1 hp]; exact rok) (.inr (by rw [row_app jl]; exact hr)) (.inr ⟨by simp, g.length + 1, rfl, by omega, ?_⟩) ks Q hx
      have e2 : g ++ [some [V.int .u64 r.lo, V.int .u64 r.hi], some [V.int .u64 r.lo, V.int .u64 r.hi]] = (g ++ [some [V.int .u64 r.lo, V.int .u64 r.hi]]) ++ [some [V.int .u64 r.lo, V.int .u64 r.hi]] := by simp
      have e3 : g.length + 1 = (g ++ [some [V.int .u64 r.lo, V.int .u64 r.hi]]).length := by simp
      rw [e2, e3, row_new]
      rfl
    · obtain ⟨x, t, rfl⟩ : ∃ x t, s = x :: t := by
        cases s with
        | nil => exact absurd rfl hne
        | cons x t => exact ⟨x, t, rfl⟩
      have xok := hs x (by simp)
      have tok : ∀ p ∈ t, p.ok := fun p hp => hs p (by simp [hp])
      have tl : t.length + 1 ≤ i := by simpa using hsi
      have q1 := rev_hi x t
      have q2 := rev_len x t
      have ol2 := hlt h6
      have hrA : ∀ w, Heap.row (g ++ w) b = some R := fun w => by rw [row_app jl]; exact hr
      have h6A : ∀ w, Heap.row (g ++ w) o = some (rvs (x :: t)) := fun w => by rw [row_app ol2]; exact h6
      have nA : ∀ v w, Heap.row (g ++ v :: w) g.length = v := fun v w => by rw [show g ++ v :: w = (g ++ [v]) ++ w by simp, row_app (by simp), row_new]
      have k1 := xok.h0
      have k2 := xok.h1
      have k3 := rok.l0
      have k4 := rok.l1
      have k5 := rok.h0
      have k6 := rok.h1
      have e5 : (((t.length + 1 : Nat) : Int) - 1) = t.length := by omega
      have ll : ((x :: t).length : Int) = t.length + 1 := by simp
      by_cases c3 : r.lo ≤ x.hi
      · have cm : mergeR (x :: t) r = ⟨x.lo, max x.hi r.hi⟩ :: t := by simp only [mergeR]; rw [if_pos (by omega)]
        simp (disch := omega) [c1, hr, g1, c2, sp, hrA, h6A, nA, q1, q2, c3]
        rw [← List.set_append_left _ _ ol2, rev_set]
        exact ih (⟨x.lo, max x.hi r.hi⟩ :: t) _ _ (by omega) (by simp; omega) (by rw [← cm]; exact mergeR_ok _ _ hs rok) (.inr (by rw [row_ne (fun e => h5 e), hrA])) (.inr ⟨by simp, o, rfl, h5, by rw [row_set (by simp; omega)]⟩) ks Q (by rw [← cm]; exact hx)
      · by_cases c4 : r.lo - 1 = x.hi
        · have cm : mergeR (x :: t) r = ⟨x.lo, max x.hi r.hi⟩ :: t := by simp only [mergeR]; rw [if_pos (by omega)]
          simp (disch := omega) [c1, hr, g1, c2, sp, hrA, h6A, nA, q1, q2, c3, c4]
          rw [← List.set_append_left _ _ ol2, rev_set]
          exact ih (⟨x.lo, max x.hi r.hi⟩ :: t) _ _ (by omega) (by simp; omega) (by rw [← cm]; exact mergeR_ok _ _ hs rok) (.inr (by rw [row_ne (fun e => h5 e), hrA])) (.inr ⟨by simp, o, rfl, h5, by rw [row_set (by simp; omega)]⟩) ks Q (by rw [← cm]; exact hx)
        · have cm : mergeR (x :: t) r = r :: x :: t := by simp only [mergeR]; rw [if_neg (by omega)]
          simp (disch := omega) [c1, hr, g1, c2, sp, hrA, h6A, nA, q1, q2, c3, c4]
          have e2 : g.set o none ++ [some [V.int .u64 r.lo, V.int .u64 r.hi], some (rvs (x :: t) ++ [V.int .u64 r.lo, V.int .u64 r.hi])] = (g.set o none ++ [some [V.int .u64 r.lo, V.int .u64 r.hi]]) ++ [some (rvs (r :: x :: t))] := by
            have : rvs (r :: x :: t) = rvs (x :: t) ++ [V.int .u64 r.lo, V.int .u64 r.hi] := by rw [rev_last]; rfl
            rw [this]; simp
          have e3 : g.length + 1 = (g.set o none ++ [some [V.int .u64 r.lo, V.int .u64 r.hi]]).length := by simp
          refine ih (r :: x :: t) _ _ (by omega) (by simp; omega) (fun p hp => ?_) (.inr ?_) (.inr ⟨by simp, g.length + 1, rfl, by omega, ?_⟩) ks Q (by rw [← cm]; exact hx)
          · rcases List.mem_cons.1 hp with rfl | hp
            · exact rok
            · exact hs p hp
          · rw [row_app (by simp; omega), row_ne (fun e => h5 e)]; exact hr
          · rw [e2, e3, row_new]
theorem sortp_nil (v : V) (hv : v = .hn 2 ∨ v = .ps 2 []) (h : Heap) : Run T f_slices_SortFunc_2_uint64_2_uint64 [v, .fn f_resend_Merge_2 []] h (.tup []) h := by
  have lv : lenV false v = some (.int .i64 0) := by rcases hv with rfl | rfl <;> rfl
  have r1 : Run T f_slices_insertionSortCmpFunc_2_uint64 [v, .int .i64 0, .int .i64 0, .fn f_resend_Merge_2 []] h (.tup []) h := by
    refine Run.start t_slices_insertionSortCmpFunc_2_uint64 ?_
    unfold k_slices_insertionSortCmpFunc_2_uint64
    simp (disch := omega)
    rw [L_slices_insertionSortCmpFunc_2_uint64_1]; unfold bl_slices_insertionSortCmpFunc_2_uint64_1
    simp (disch := omega)
  have r2 : ∀ lim, Run T f_slices_pdqsortCmpFunc_2_uint64 [v, .int .i64 0, .int .i64 0, .int .i64 lim, .fn f_resend_Merge_2 []] h (.tup []) h := fun lim => by
    refine Run.start t_slices_pdqsortCmpFunc_2_uint64 ?_
    unfold k_slices_pdqsortCmpFunc_2_uint64
    simp (disch := omega)
    rw [L_slices_pdqsortCmpFunc_2_uint64_0]; unfold bl_slices_pdqsortCmpFunc_2_uint64_0
    simp (disch := omega)
    rw [Xf_run r1]
    simp (disch := omega)
  refine Run.start t_slices_SortFunc_2_uint64_2_uint64 ?_
  unfold k_slices_SortFunc_2_uint64_2_uint64
  have := len_run [] 0 (by omega)
  simp at this
  simp (disch := omega) [lv]
  rw [Xp_run this (by simp) (by simp) (by simp)]
  simp (disch := omega)
  rw [Xf_run (r2 _)]
  simp (disch := omega)
theorem ClonePr (l : List Pr) (hn : l.length ≤ 1000000) (hl : l ≠ []) (h : Heap) : Run T f_slices_Clone_2_uint64_2_uint64 [.ps 2 (Pr.vs l)] h (.hs 2 h.length 0 l.length) (h ++ [some (prs l)]) := by
  have nc : ∀ h : Heap, newCells h 2 (.ps 2 (Pr.vs l)) = some (prs l) := fun h => by
    simp [newCells, flat_vs]
  have pl := prs_len l
  have vl := vs_len l
  refine Run.start t_slices_Clone_2_uint64_2_uint64 ?_
  unfold k_slices_Clone_2_uint64_2_uint64
  simp (disch := omega)
  refine Xc_nilc (fun C => rfl) rfl (v := .ps 2 (Pr.vs l)) (by cases l with | nil => exact absurd rfl hl | cons _ _ => rfl) ?_
  have ne : ¬ prs l = [] := fun e => by
    have := congrArg List.length e
    rw [pl] at this
    have h0 : l.length ≠ 0 := fun z => hl (List.eq_nil_of_length_eq_zero z)
    simp at this; omega
  have dv : (prs l).length / 2 = l.length := by rw [pl]; omega
  simp (disch := omega) [nc, ne, dv]
theorem ClonePr0 (h : Heap) : Run T f_slices_Clone_2_uint64_2_uint64 [.ps 2 (Pr.vs [])] h (.hn 2) h := by
  refine Run.start t_slices_Clone_2_uint64_2_uint64 ?_
  unfold k_slices_Clone_2_uint64_2_uint64
  simp (disch := omega)
  refine Xc_may (fun C => rfl) rfl rfl .r [(2, .hn 2)] h ?_ ?_ ?_
  · simp (disch := omega)
  · simp (disch := omega) [Pr.vs]
  · simp (disch := omega)
theorem Delete0 (h : Heap) : Run T f_slices_DeleteFunc_2_uint64_2_uint64 [.hn 2, .fn f_resend_Merge_1 []] h (.hn 2) h := by
  have ix : Run T f_slices_IndexFunc_2_uint64_2_uint64 [.hn 2, .fn f_resend_Merge_1 []] h (.int .i64 (-1)) h := by
    refine Run.start t_slices_IndexFunc_2_uint64_2_uint64 ?_
    unfold k_slices_IndexFunc_2_uint64_2_uint64
    simp (disch := omega)
    rw [L_slices_IndexFunc_2_uint64_2_uint64_0]; unfold bl_slices_IndexFunc_2_uint64_2_uint64_0
    simp (disch := omega)
  refine Run.start t_slices_DeleteFunc_2_uint64_2_uint64 ?_
  unfold k_slices_DeleteFunc_2_uint64_2_uint64
  simp (disch := omega)
  rw [Xf_run ix]
  simp (disch := omega)
theorem chunkPr : ∀ l : List Pr, chunk 2 true l.length (prs l) = Pr.vs l
  | [] => rfl
  | x :: l => by
    have ih := chunkPr l
    show V.agg ((prs (x :: l)).take 2) :: chunk 2 true l.length ((prs (x :: l)).drop 2) = x.v :: Pr.vs l
    have e : prs (x :: l) = x.cs ++ prs l := rfl
    have hl : x.cs.length = 2 := rfl
    rw [e, List.take_left' hl, List.drop_left' hl, ih]
    rfl
theorem freezePr (h : Heap) (j : Nat) (l : List Pr) (hr : h.row j = some (prs l)) (ag : Bool) : freeze1 (ag || decide (1 < 2)) (.hs 2 j 0 l.length) h = some (.ps 2 (Pr.vs l), h.set j none) := by
  have fl := prs_len l
  simp only [freeze1, hsCells, hr, Option.bind_some, Nat.zero_add, List.drop_zero]
  rw [if_pos (by omega), Option.bind_some, List.take_of_length_le (by omega), if_pos (by simp [chunkOk])]
  have := chunkPr l
  simp only [show (ag || decide (1 < 2)) = true from by simp]
  rw [this]
theorem set_row {h : Heap} {b : Nat} {cs : List V} (hr : h.row b = some cs) : h.set b (some cs) = h := by
  have hb := hlt hr
  refine List.ext_getElem (by simp) fun i h1 h2 => ?_
  rw [List.getElem_set]
  split
  · rename_i e
    subst e
    unfold Heap.row at hr
    rw [List.getElem?_eq_getElem hb] at hr
    simpa using hr.symm
  · rfl
def mrg (l : List Pr) : List Pr := (l.foldl mergeR []).reverse
def okP (p : Pr) : Bool := decide (p.lo ≤ p.hi)
theorem Merge_run (l : List Pr) (hl : l.length ≤ 30) (hok : ∀ p ∈ l, p.ok) : ∃ l' h', l'.Perm (l.filter okP) ∧ l'.Pairwise (fun a b => a.lo ≤ b.lo) ∧ Run T f_resend_Merge [.ps 2 (Pr.vs l)] [] (.ps 2 (Pr.vs (mrg l'))) h' := by
  have fz : ∀ (s : List Pr) (ov : V) (b : Nat) (g : Heap), OutV s ov b g → ∃ g', freeze1 true ov g = some (.ps 2 (Pr.vs s.reverse), g') := fun s ov b g ho => by
    rcases ho with ⟨rfl, rfl⟩ | ⟨hne, o, rfl, h5, h6⟩
    · exact ⟨g, rfl⟩
    · have := freezePr g o s.reverse h6 true
      rw [List.length_reverse] at this
      exact ⟨_, this⟩
  have fe : (l.filter fun y => !decide (y.hi < y.lo)) = l.filter okP := List.filter_congr fun x _ => by
    simp only [okP]
    by_cases c : x.hi < x.lo
    · have : ¬ x.lo ≤ x.hi := by omega
      simp [c, this]
    · have : x.lo ≤ x.hi := by omega
      simp [c, this]
  by_cases hne : l = []
  · subst hne
    refine ⟨[], ?_⟩
    obtain ⟨v, h', ⟨ev⟩, r⟩ := Run.startP (P := fun v h' => v = .ps 2 []) (vs := [.ps 2 (Pr.vs [])]) (h := []) t_resend_Merge (by
      unfold k_resend_Merge
      simp (disch := omega)
      rw [Xf_run (ClonePr0 _)]
      simp (disch := omega)
      rw [Xf_run (Delete0 _)]
      simp (disch := omega)
      rw [Xf_run (sortp_nil _ (.inl rfl) _)]
      simp (disch := omega)
      rw [L_resend_Merge_0]; unfold bl_resend_Merge_0
      simp (disch := omega))
    exact ⟨h', by simp, .nil, r⟩
  · have pd : Pd2 [some (prs l)] 0 f_resend_Merge_1 [] (fun y => decide (y.hi < y.lo)) := ⟨rfl, fun g _ y => Merge1_run y g⟩
    obtain ⟨g1, R1, rd, k1, k2, k3, k4⟩ := dlf2_run pd l (by omega) hne (prs l) (List.take_of_length_le (by rw [prs_len]; omega)) (by rw [prs_len]; omega) (HK.refl _ _) rfl
    rw [fe] at rd k3 k4
    obtain ⟨F, hF⟩ : ∃ F, F = l.filter okP := ⟨_, rfl⟩
    rw [← hF] at rd k3 k4 ⊢
    have Fl : F.length ≤ 30 := by rw [hF]; exact Nat.le_trans (List.length_filter_le _ _) hl
    have Fok : ∀ p ∈ F, p.ok := fun p hp => hok p (by rw [hF] at hp; exact (List.mem_filter.1 hp).1)
    by_cases Fn : F = []
    · refine ⟨[], ?_⟩
      obtain ⟨v, h', ⟨ev⟩, r⟩ := Run.startP (P := fun v h' => v = .ps 2 []) (vs := [.ps 2 (Pr.vs l)]) (h := []) t_resend_Merge (by
        unfold k_resend_Merge
        simp (disch := omega)
        rw [Xf_run (ClonePr l (by omega) hne _)]
        simp (disch := omega)
        rw [Xf_run rd]
        have e : fv2 0 F = .ps 2 [] := by simp [fv2, Fn]
        rw [e]
        simp (disch := omega)
        rw [Xf_run (sortp_nil _ (.inr rfl) _)]
        simp (disch := omega)
        rw [L_resend_Merge_0]; unfold bl_resend_Merge_0
        simp (disch := omega))
      exact ⟨h', by rw [Fn], .nil, r⟩
    · -- sorted
      have hc : Cmp g1 0 f_resend_Merge_2 [] cmpP := ⟨rfl, hlt k2, fun g _ x y => Merge2_run x y g⟩
      obtain ⟨g2, d', ag, hp, hs, rs⟩ := sortf_run (tv := R1.drop (F.length * 2)) hc swoP (Agree.refl) F.toArray (by simpa using (by omega : F.length < 50))
      have sd : SD (R1.drop (F.length * 2)) g1 0 F.toArray = g1 := by
        unfold SD prt
        rw [show F.toArray.toList = F from rfl, ← k3, List.take_append_drop]
        exact set_row k2
      have fsz : F.toArray.size = F.length := by simp
      rw [sd, fsz] at rs
      have dsz : d'.size = F.length := by rw [hp.1, fsz]
      have perm : d'.toList.Perm F := by
        have := hp.2.2
        simp at this
        rwa [List.take_of_length_le (by simp [dsz])] at this
      have srt : d'.toList.Pairwise (fun a b => a.lo ≤ b.lo) := by
        rw [List.pairwise_iff_getElem]
        intro i j hi hj hij
        simp at hi hj
        have := hs i j (Nat.zero_le _) hij (by rw [fsz, ← dsz]; exact hj)
        simp only [ltC_p, decide_eq_false_iff_not] at this
        simp only [getElem!_pos d' i hi, getElem!_pos d' j hj] at this
        simp
        omega
      have b2 : 0 < g2.length := Nat.lt_of_lt_of_le (hlt k2) ag.1
      have rw2 : Heap.row (SD (R1.drop (F.length * 2)) g2 0 d') 0 = some (prs d'.toList ++ R1.drop (F.length * 2)) := SD_row b2 d'
      have dl : d'.toList.length = F.length := by simp [dsz]
      refine ⟨d'.toList, ?_⟩
      have lp := mg_loop 0 F.length (by omega) d'.toList dl (prs d'.toList ++ R1.drop (F.length * 2)) (List.take_left' (by rw [prs_len, dl])) (by rw [List.length_append, prs_len, dl]; omega) (.hs 2 0 0 F.length) (.inr rfl) (fun p hp => Fok p (perm.mem_iff.1 hp)) F.length 0 [] (.hn 2) (SD (R1.drop (F.length * 2)) g2 0 d') (by omega) (by simp) (by simp) (.inr rw2) (.inl ⟨rfl, rfl⟩)
      obtain ⟨v, h', ev, r⟩ := Run.startP (P := fun v h' => v = .ps 2 (Pr.vs (mrg d'.toList))) (vs := [.ps 2 (Pr.vs l)]) (h := []) t_resend_Merge (by
        unfold k_resend_Merge
        simp (disch := omega)
        rw [Xf_run (ClonePr l (by omega) hne _)]
        simp (disch := omega)
        rw [Xf_run rd]
        have e : fv2 0 F = .hs 2 0 0 F.length := by simp [fv2, Fn]
        rw [e]
        simp (disch := omega)
        rw [Xf_run rs]
        simp (disch := omega)
        refine lp _ _ fun z g' ov' ho => ?_
        rw [List.drop_zero] at ho
        obtain ⟨g3, hz⟩ := fz _ _ _ _ ho
        simp (disch := omega)
        rw [hz]
        simp only [Option.bind_some, epiP_some]
        rfl)
      subst ev
      exact ⟨h', perm, srt, r⟩
theorem vs_get (l : List Pr) (i : Nat) : (Pr.vs l)[i]? = (l[i]?).map Pr.v := by simp [Pr.vs]
theorem In_loop (l : List Pr) (n : Int) (hb : l.length < 4611686018427387904) (h : Heap) : ∀ (m i : Nat), i + m = l.length → ∀ ks Q,
    (inP (l.drop i) n = false → ∀ z, Xk T ks (.x 0) z h Q) → (inP (l.drop i) n = true → Xk T ks .r [(4, .bool true)] h Q) →
    Xc T l_ref34_In_0 ks [(0, .ps 2 (Pr.vs l)), (1, .int .u64 n), (5, .int .i64 i)] h Q := by
  intro m
  induction m with
  | zero =>
    intro i hi ks Q h1 h2
    have e : l.drop i = [] := List.drop_eq_nil_of_le (by omega)
    rw [e] at h1
    have c1 : ¬ (i : Int) < l.length := by omega
    rw [L_ref34_In_0]; unfold bl_ref34_In_0
    simp (disch := omega) [c1, vs_len]
    exact h1 rfl _
  | succ m ih =>
    intro i hi ks Q h1 h2
    have hil : i < l.length := by omega
    have e := List.drop_eq_getElem_cons hil
    have c1 : (i : Int) < l.length := by omega
    have g1 : (Pr.vs l)[i]? = some l[i].v := by rw [vs_get, List.getElem?_eq_getElem hil]; rfl
    have vc : l[i].v.cells = [.int .u64 l[i].lo, .int .u64 l[i].hi] := rfl
    have q : inP (l.drop i) n = ((decide (l[i].lo ≤ n) && decide (n ≤ l[i].hi)) || inP (l.drop (i + 1)) n) := by rw [e]; exact List.any_cons
    rw [q] at h1 h2
    have ih := ih (i + 1) (by omega) ks Q
    rw [show ((i + 1 : Nat) : Int) = (i : Int) + 1 from rfl] at ih
    rw [L_ref34_In_0]; unfold bl_ref34_In_0
    by_cases c2 : l[i].lo ≤ n
    · by_cases c3 : n ≤ l[i].hi
      · simp (disch := omega) [c1, vs_len, g1, vc, c2, c3]
        exact h2 (by rw [decide_eq_true c2, decide_eq_true c3]; rfl)
      · simp (disch := omega) [c1, vs_len, g1, vc, c2, c3]
        rw [decide_eq_true c2, decide_eq_false c3] at h1 h2
        exact ih h1 h2
    · simp (disch := omega) [c1, vs_len, g1, vc, c2]
      rw [decide_eq_false c2] at h1 h2
      exact ih h1 h2
theorem In_run (l : List Pr) (n : Int) (hb : l.length < 4611686018427387904) (h : Heap) : Run T f_ref34_In [.ps 2 (Pr.vs l), .int .u64 n] h (.bool (inP l n)) h := by
  refine Run.start t_ref34_In ?_
  unfold k_ref34_In
  simp (disch := omega)
  have := In_loop l n hb h l.length 0 (by omega)
  refine this _ _ (fun h z => ?_) (fun h => ?_)
  · rw [List.drop_zero] at h; simp [h]
  · rw [List.drop_zero] at h; simp [h]
theorem vs_hf (l : List Pr) : V.hfs (Pr.vs l) = true := by
  induction l with
  | nil => rfl
  | cons x l ih => show (V.hf x.v && V.hfs (Pr.vs l)) = true; rw [ih]; rfl
section
variable {ks : List Kt} {ops : List AOpr} {K : Kp} {e : Env} {h : Heap} {Q : Ex → Env → Heap → Prop} {d : Nat} {lent : Bool}
theorem In_p (l : List Pr) (n : Int) (hb : l.length < 4611686018427387904) : Xp T f_ref34_In (some ([.ps 2 (Pr.vs l), .int .u64 n], lent)) h (some d) ops K ks e Q = Xo T ops K ks ((d, .bool (inP l n)) :: e) h Q :=
  Xp_run (In_run l n hb []) (by simp [vs_hf]) rfl (by simp [scalar])
end
def aptC (l : List Pr) (i : Nat) : Prop := ∃ p, l[i]? = some p ∧ p.lo ≤ p.hi ∧ (0 < i → ∃ q, l[i - 1]? = some q ∧ q.hi + 2 ≤ p.lo)
theorem Apart_loop (l : List Pr) (hb : l.length < 4611686018427387904) (hok : ∀ p ∈ l, p.ok) (ha : ∀ i, i < l.length → aptC l i) (h : Heap) : ∀ (m i : Nat), i + m = l.length → ∀ ks Q,
    (∀ z, Xk T ks (.x 0) z h Q) → Xc T l_ref34_Apart_0 ks [(0, .ps 2 (Pr.vs l)), (3, .int .i64 i)] h Q := by
  intro m
  induction m with
  | zero =>
    intro i hi ks Q h1
    have c1 : ¬ (i : Int) < l.length := by omega
    rw [L_ref34_Apart_0]; unfold bl_ref34_Apart_0
    simp (disch := omega) [c1, vs_len]
    exact h1 _
  | succ m ih =>
    intro i hi ks Q h1
    have hil : i < l.length := by omega
    have c1 : (i : Int) < l.length := by omega
    obtain ⟨p, hp, c2, c3⟩ := ha i hil
    have pok := hok p (List.mem_of_getElem? hp)
    have g1 : (Pr.vs l)[i]? = some p.v := by rw [vs_get, hp]; rfl
    have vc : ∀ p : Pr, p.v.cells = [.int .u64 p.lo, .int .u64 p.hi] := fun _ => rfl
    have ih := ih (i + 1) (by omega) ks Q h1
    rw [show ((i + 1 : Nat) : Int) = (i : Int) + 1 from rfl] at ih
    rw [L_ref34_Apart_0]; unfold bl_ref34_Apart_0
    have c4 : ¬ p.hi < p.lo := by omega
    by_cases i0 : i = 0
    · subst i0
      have c0 : 0 < l.length := hil
      simp (disch := omega) [c0, vs_len, g1, vc, c4]
      simpa using ih
    · obtain ⟨q, hq, c5⟩ := c3 (by omega)
      have qok := hok q (List.mem_of_getElem? hq)
      have g2 : (Pr.vs l)[i - 1]? = some q.v := by rw [vs_get, hq]; rfl
      have e5 : ((i : Int) - 1).toNat = i - 1 := by omega
      have c6 : ¬ p.lo ≤ q.hi := by omega
      have c7 : ¬ p.lo - q.hi < 2 := by omega
      have i1 : (0 : Int) < i := by omega
      have k1 := pok.l0
      have k2 := pok.l1
      have k3 := qok.h0
      have k4 := qok.h1
      have i2 : 0 < i := by omega
      simp (disch := omega) [c1, vs_len, g1, g2, vc, c4, c6, c7, i1, i2, e5]
      simpa using ih
theorem Apart_run (l : List Pr) (hb : l.length < 4611686018427387904) (hok : ∀ p ∈ l, p.ok) (ha : ∀ i, i < l.length → aptC l i) (h : Heap) : Run T f_ref34_Apart [.ps 2 (Pr.vs l)] h (.bool true) h := by
  refine Run.start t_ref34_Apart ?_
  unfold k_ref34_Apart
  simp (disch := omega)
  have := Apart_loop l hb hok ha h l.length 0 (by omega)
  refine this _ _ (fun z => ?_)
  simp
theorem apr_at : ∀ (s : List Pr), APr s → ∀ i, i < s.length → aptC s.reverse i
  | [], _, i, h => by simp at h
  | k :: t, ⟨h1, h2, h3⟩, i, hi => by
    simp only [List.length_cons] at hi
    rw [List.reverse_cons]
    have tl : t.reverse.length = t.length := List.length_reverse
    by_cases c : i = t.length
    · subst c
      refine ⟨k, by rw [List.getElem?_append_right (by omega), tl]; simp, h1, fun h0 => ?_⟩
      cases t with
      | nil => simp at h0
      | cons j t =>
        refine ⟨j, ?_, h2 j (by simp)⟩
        rw [List.getElem?_append_left (by simp)]
        rw [List.reverse_cons, List.getElem?_append_right (by simp)]
        simp
    · obtain ⟨p, q1, q2, q3⟩ := apr_at t h3 i (by omega)
      refine ⟨p, by rw [List.getElem?_append_left (by omega)]; exact q1, q2, fun h0 => ?_⟩
      obtain ⟨q, q4, q5⟩ := q3 h0
      exact ⟨q, by rw [List.getElem?_append_left (by omega)]; exact q4, q5⟩
theorem awake34 : ∃ h', Run T f_law34_awake [] [] (.bool true) h' := Run.closed (n := 300) (by kernel_rfl)
section
variable {ks : List Kt} {ops : List AOpr} {K : Kp} {e : Env} {h : Heap} {Q : Ex → Env → Heap → Prop} {d : Nat} {lent : Bool}
theorem awake34_p : Xp T f_law34_awake (some ([], lent)) h (some d) ops K ks e Q = Xo T ops K ks ((d, .bool true) :: e) h Q := by
  obtain ⟨h', r⟩ := awake34
  exact Xp_run r (by simp) rfl (by simp [scalar])
end
theorem law_l0 (l m : List Pr) (y : V) (hb : l.length ≤ 30) (hm : m.length ≤ 30) (hok : ∀ p ∈ l, p.ok) (H : ∀ p ∈ l, p.lo ≤ p.hi → inP m p.lo = true ∧ inP m p.hi = true) (h : Heap) : ∀ (k i : Nat), i + k = l.length → ∀ ks Q,
    (∀ z, Xk T ks (.x 0) ((0, .ps 2 (Pr.vs l)) :: (1, y) :: (5, .ps 2 (Pr.vs m)) :: z) h Q) →
    Xc T l_law34_ResendMerges_0 ks [(0, .ps 2 (Pr.vs l)), (1, y), (5, .ps 2 (Pr.vs m)), (6, .int .i64 i)] h Q := by
  intro k
  induction k with
  | zero =>
    intro i hi ks Q h1
    have c1 : ¬ (i : Int) < l.length := by omega
    rw [L_law34_ResendMerges_0]; unfold bl_law34_ResendMerges_0
    simp (disch := omega) [c1, vs_len]
    exact h1 _
  | succ k ih =>
    intro i hi ks Q h1
    have hil : i < l.length := by omega
    have c1 : (i : Int) < l.length := by omega
    have g1 : (Pr.vs l)[i]? = some l[i].v := by rw [vs_get, List.getElem?_eq_getElem hil]; rfl
    have vc : ∀ p : Pr, p.v.cells = [.int .u64 p.lo, .int .u64 p.hi] := fun _ => rfl
    have hH := H l[i] (List.getElem_mem _)
    generalize l[i] = p at *
    have ih := ih (i + 1) (by omega) ks Q h1
    rw [show ((i + 1 : Nat) : Int) = (i : Int) + 1 from rfl] at ih
    have ip := fun {ks ops K e h Q d lent} n => In_p (ks := ks) (ops := ops) (K := K) (e := e) (h := h) (Q := Q) (d := d) (lent := lent) m n (by omega)
    rw [L_law34_ResendMerges_0]; unfold bl_law34_ResendMerges_0
    by_cases c2 : p.lo ≤ p.hi
    · obtain ⟨q1, q2⟩ := hH c2
      simp (disch := omega) [c1, vs_len, g1, vc, c2, ip, q1, q2]
      exact ih
    · simp (disch := omega) [c1, vs_len, g1, vc, c2]
      exact ih
theorem law_l1 (l m : List Pr) (y : V) (hb : l.length ≤ 30) (hm : m.length ≤ 30) (H : ∀ p ∈ m, inP l p.lo = true ∧ inP l p.hi = true) (h : Heap) : ∀ (k i : Nat), i + k = m.length → ∀ ks Q,
    (∀ z, Xk T ks (.x 2) ((0, .ps 2 (Pr.vs l)) :: (1, y) :: (5, .ps 2 (Pr.vs m)) :: z) h Q) →
    Xc T l_law34_ResendMerges_1 ks [(0, .ps 2 (Pr.vs l)), (1, y), (5, .ps 2 (Pr.vs m)), (7, .int .i64 i)] h Q := by
  intro k
  induction k with
  | zero =>
    intro i hi ks Q h1
    have c1 : ¬ (i : Int) < m.length := by omega
    rw [L_law34_ResendMerges_1]; unfold bl_law34_ResendMerges_1
    simp (disch := omega) [c1, vs_len]
    exact h1 _
  | succ k ih =>
    intro i hi ks Q h1
    have hil : i < m.length := by omega
    have c1 : (i : Int) < m.length := by omega
    have g1 : (Pr.vs m)[i]? = some m[i].v := by rw [vs_get, List.getElem?_eq_getElem hil]; rfl
    have vc : ∀ p : Pr, p.v.cells = [.int .u64 p.lo, .int .u64 p.hi] := fun _ => rfl
    obtain ⟨q1, q2⟩ := H m[i] (List.getElem_mem _)
    generalize m[i] = p at *
    have ih := ih (i + 1) (by omega) ks Q h1
    rw [show ((i + 1 : Nat) : Int) = (i : Int) + 1 from rfl] at ih
    have ip := fun {ks ops K e h Q d lent} n => In_p (ks := ks) (ops := ops) (K := K) (e := e) (h := h) (Q := Q) (d := d) (lent := lent) l n (by omega)
    rw [L_law34_ResendMerges_1]; unfold bl_law34_ResendMerges_1
    simp (disch := omega) [c1, vs_len, g1, vc, ip, q1, q2]
    exact ih
theorem inP_perm {a b : List Pr} (h : a.Perm b) (n : Int) : inP a n = inP b n := by
  unfold inP
  rw [Bool.eq_iff_iff]
  simp only [List.any_eq_true]
  exact ⟨fun ⟨x, h1, h2⟩ => ⟨x, h.mem_iff.1 h1, h2⟩, fun ⟨x, h1, h2⟩ => ⟨x, h.mem_iff.2 h1, h2⟩⟩
theorem inP_filter (l : List Pr) (n : Int) : inP (l.filter okP) n = inP l n := by
  unfold inP
  rw [Bool.eq_iff_iff]
  simp only [List.any_eq_true, List.mem_filter]
  refine ⟨fun ⟨x, h1, h2⟩ => ⟨x, h1.1, h2⟩, fun ⟨x, h1, h2⟩ => ⟨x, ⟨h1, ?_⟩, h2⟩⟩
  simp only [Bool.and_eq_true, decide_eq_true_eq] at h2
  simp only [okP, decide_eq_true_eq]
  omega
theorem inP_mem {l : List Pr} {p : Pr} (h : p ∈ l) {n : Int} (h1 : p.lo ≤ n) (h2 : n ≤ p.hi) : inP l n = true :=
  List.any_eq_true.2 ⟨p, h, by simp [h1, h2]⟩
theorem foldl_ok : ∀ (l s : List Pr), (∀ p ∈ l, p.ok) → (∀ p ∈ s, p.ok) → ∀ p ∈ l.foldl mergeR s, p.ok
  | [], s, _, h => h
  | r :: l, s, hl, h => by
    rw [List.foldl_cons]
    exact foldl_ok l _ (fun p hp => hl p (by simp [hp])) (mergeR_ok s r h (hl r (by simp)))
theorem mergeR_len (s : List Pr) (r : Pr) : (mergeR s r).length ≤ s.length + 1 := by
  cases s with
  | nil => simp [mergeR]
  | cons k t => simp only [mergeR]; split <;> simp
theorem foldl_len : ∀ (l s : List Pr), (l.foldl mergeR s).length ≤ s.length + l.length
  | [], s => by simp
  | r :: l, s => by
    rw [List.foldl_cons]
    have := foldl_len l (mergeR s r)
    have := mergeR_len s r
    simp; omega
theorem apr_mem : ∀ (s : List Pr), APr s → ∀ p ∈ s, p.lo ≤ p.hi
  | [], _, p, h => by simp at h
  | k :: t, ⟨h1, _, h3⟩, p, h => by
    rcases List.mem_cons.1 h with rfl | h
    · exact h1
    · exact apr_mem t h3 p h
theorem Merges_run (l : List Pr) (hl : l.length < 4611686018427387904) (hok : ∀ p ∈ l, p.ok) (n : Int) : ∃ h', Run T f_law34_ResendMerges [.ps 2 (Pr.vs l), .int .u64 n] [] (.bool true) h' := by
  by_cases c : l.length ≤ 30
  · obtain ⟨l', h', hp, hs, r⟩ := Merge_run l c hok
    have ok' : ∀ p ∈ l', p.ok := fun p hq => hok p (List.mem_filter.1 (hp.mem_iff.1 hq)).1
    have lo' : ∀ p ∈ l', p.lo ≤ p.hi := fun p hq => by
      have := (List.mem_filter.1 (hp.mem_iff.1 hq)).2
      simpa [okP] using this
    obtain ⟨m1, m2⟩ := merge_all l' [] hs lo' trivial (by simp)
    have inm : ∀ n, inP (mrg l') n = inP l n := fun n => by
      have e : inP (mrg l') n = inP (l'.foldl mergeR []) n := inP_perm (List.reverse_perm _) n
      rw [e, m2, inP_perm hp, inP_filter]
      rfl
    have mok : ∀ p ∈ mrg l', p.ok := fun p hq => foldl_ok l' [] ok' (by simp) p (List.mem_reverse.1 hq)
    have ml : (mrg l').length ≤ 30 := by
      have h1 := foldl_len l' []
      have h2 := hp.length_eq
      have h3 := List.length_filter_le okP l
      simp [mrg] at h1 ⊢
      omega
    have mlo : ∀ p ∈ mrg l', p.lo ≤ p.hi := fun p hq => apr_mem _ m1 p (List.mem_reverse.1 hq)
    have mat : ∀ i, i < (mrg l').length → aptC (mrg l') i := fun i hi => apr_at _ m1 i (by simpa [mrg] using hi)
    have rA := Apart_run (mrg l') (by omega) mok mat
    have ip := fun {ks ops K e h Q d lent} (m : List Pr) (hm : m.length ≤ 30) n => In_p (ks := ks) (ops := ops) (K := K) (e := e) (h := h) (Q := Q) (d := d) (lent := lent) m n (by omega)
    refine Run.startE t_law34_ResendMerges ?_
    unfold k_law34_ResendMerges
    have c' : ¬ (30 : Int) < l.length := by omega
    simp (disch := omega) [vs_len, c, c']
    rw [Xp_run r (by simp [vs_hf]) (by simp [vs_hf]) (by simp)]
    simp (disch := omega)
    refine law_l0 l (mrg l') _ c ml hok (fun p hq h => ?_) [] l.length 0 (by omega) _ _ fun z => ?_
    · rw [inm, inm]
      exact ⟨inP_mem hq (Int.le_refl _) h, inP_mem hq h (Int.le_refl _)⟩
    simp (disch := omega)
    refine law_l1 l (mrg l') _ c ml (fun p hq => ?_) [] (mrg l').length 0 (by omega) _ _ fun z => ?_
    · rw [← inm, ← inm]
      exact ⟨inP_mem hq (Int.le_refl _) (mlo p hq), inP_mem hq (mlo p hq) (Int.le_refl _)⟩
    simp (disch := omega) [awake34_p]
    rw [Xp_run (rA []) (by simp [vs_hf]) rfl (by simp [scalar])]
    simp (disch := omega) [ip _ ml, ip _ c, inm]
  · refine Run.startE t_law34_ResendMerges ?_
    unfold k_law34_ResendMerges
    have c' : (30 : Int) < l.length := by omega
    simp (disch := omega) [vs_len, c, c', awake34_p]
theorem Ty.pairs {b : Nat} {x : V} (h : Ty (.sl true b [.i .u64, .i .u64]) x) (hb : 0 < b) : ∃ l : List Pr, x = .ps 2 (Pr.vs l) ∧ l.length ≤ 140737488351232 ∧ ∀ p ∈ l, p.ok := by
  cases h with
  | sl ag b es xs hn hs ha ho k =>
    have one : ∀ i (hi : i < xs.length), ∃ p : Pr, xs[i] = p.v ∧ p.ok := fun i hi => by
      obtain ⟨vs, hv⟩ := ha xs[i] (List.getElem_mem _) rfl
      have hl := hs xs[i] (List.getElem_mem _)
      rw [hv] at hl
      have k0 := k i hi 0 (by simp) (by rw [hv]; simpa [V.cells] using (by simpa [V.cells] using hl : vs.length = 2) ▸ (by omega : 0 < 2))
      have k1 := k i hi 1 (by simp) (by rw [hv]; simpa [V.cells] using (by simpa [V.cells] using hl : vs.length = 2) ▸ (by omega : 1 < 2))
      simp only [hv] at k0 k1
      match vs, hl, hv, k0, k1 with
      | [a, c], _, hv, k0, k1 =>
        simp only [V.cells, List.getElem_cons_zero, List.getElem_cons_succ] at k0 k1
        obtain ⟨m, rfl, m0, m1⟩ := k0.int
        obtain ⟨n, rfl, n0, n1⟩ := k1.int
        have e0 : IntKind.u64.min = 0 := by decide
        have e1 : IntKind.u64.max = 18446744073709551615 := by decide
        rw [e0] at m0 n0
        rw [e1] at m1 n1
        exact ⟨⟨m, n⟩, hv, ⟨m0, by show m < _; omega, n0, by show n < _; omega⟩⟩
    have all : ∀ k, k ≤ xs.length → ∃ l : List Pr, Pr.vs l = xs.take k ∧ ∀ p ∈ l, p.ok := by
      intro k
      induction k with
      | zero => exact fun _ => ⟨[], by simp [Pr.vs], by simp⟩
      | succ k ih =>
        intro hk
        obtain ⟨l, h1, h2⟩ := ih (by omega)
        obtain ⟨p, h3, h4⟩ := one k (by omega)
        refine ⟨l ++ [p], ?_, fun q hq => ?_⟩
        · rw [List.take_succ, List.getElem?_eq_getElem (by omega), ← h1, h3]; simp [Pr.vs]
        · rcases List.mem_append.1 hq with hq | hq
          · exact h2 q hq
          · rw [List.mem_singleton.1 hq]; exact h4
    obtain ⟨l, h1, h2⟩ := all xs.length (Nat.le_refl _)
    rw [List.take_length] at h1
    refine ⟨l, by rw [h1]; rfl, ?_, h2⟩
    have e : l.length = xs.length := by rw [← h1]; simp [Pr.vs]
    rw [e]
    exact Nat.le_trans (Nat.le_mul_of_pos_right _ hb) hn
theorem law_ResendMerges (x y : V) (hx : Ty (.sl true 16 [.i .u64, .i .u64]) x) (hy : Ty (.i .u64) y) : ∃ h', Run T f_law34_ResendMerges [x, y] [] (.bool true) h' := by
  obtain ⟨l, rfl, hl, hok⟩ := hx.pairs (by omega)
  obtain ⟨n, rfl, _⟩ := hy.int
  exact Merges_run l (by omega) hok n
end Ev
