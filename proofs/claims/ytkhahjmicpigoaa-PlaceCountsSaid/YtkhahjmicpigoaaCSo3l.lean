/- Whole numbers that stand beside equal ones left out: slices.Compact. slices.Compact of whole numbers, a slice that stays. Whole numbers taken out of a slice of the heap: slices.DeleteFunc. slices.DeleteFunc of whole numbers, a slice that stays. Wear: which block is worn least, which most. Wear: the reference's answers, gaps, what may be written. Places: which blocks they use. Places: what the reference says of them, and the counts. Places taken out of a slice of the heap (printed by gen/xpl3.py). place.Free and place.Stuck. The law PlaceCounts. Each theorem states its own conditions. -/
import Derived.Test.YtkhahjmicpigoaaCCode
import Derived.Test.YtkhahjmicpigoaaCSo
import Derived.Test.YtkhahjmicpigoaaCR01
set_option linter.all false
namespace Ev
open Go
set_option maxRecDepth 10000
attribute [-simp] getElem?_pos getElem?_neg
/-- A list without those that stand beside an equal one. -/
def ddF (p : Int) : List Int → List Int
  | [] => []
  | y :: r => if y = p then ddF p r else y :: ddF y r
def dd : List Int → List Int
  | [] => []
  | x :: r => x :: ddF x r
theorem ddF_app (l : List Int) : ∀ (p y : Int), ddF p (l ++ [y]) = ddF p l ++ (if y = (p :: l).getLast (by simp) then [] else [y]) := by
  induction l with
  | nil => intro p y; by_cases c : y = p <;> simp [ddF, c]
  | cons x r ih =>
    intro p y
    rw [List.cons_append, ddF, ddF]
    by_cases c : x = p
    · rw [if_pos c, if_pos c, ih]
      subst c
      by_cases c2 : y = (x :: r).getLast (by simp) <;> simp [c2]
    · rw [if_neg c, if_neg c, ih]
      by_cases c2 : y = (x :: r).getLast (by simp) <;> simp [c2]
theorem dd_take (l : List Int) (i : Nat) (h1 : 1 ≤ i) (h : i < l.length) : dd (l.take (i + 1)) = dd (l.take i) ++ (if l[i] = l[i - 1] then [] else [l[i]]) := by
  match l, h with
  | x :: r, h =>
    obtain ⟨i, rfl⟩ : ∃ k, i = k + 1 := ⟨i - 1, by omega⟩
    have hi : i < r.length := by simpa using h
    have e : r.take (i + 1) = r.take i ++ [r[i]] := by rw [List.take_succ, List.getElem?_eq_getElem hi]; rfl
    simp only [List.take_succ_cons, dd]
    rw [e, ddF_app]
    have g : (x :: r.take i).getLast (by simp) = (x :: r)[i] := by
      rw [List.getLast_eq_getElem]
      cases i with
      | zero => simp
      | succ i => simp [Nat.min_eq_left (Nat.le_of_lt hi)]
    rw [g]
    simp
theorem dd_len (l : List Int) : (dd l).length ≤ l.length := by
  cases l with
  | nil => simp [dd]
  | cons x r =>
    have : ∀ (r : List Int) (p : Int), (ddF p r).length ≤ r.length := by
      intro r
      induction r with
      | nil => intro p; simp [ddF]
      | cons y r ih =>
        intro p
        rw [ddF]
        split
        · have := ih p; simp; omega
        · have := ih y; simp; omega
    have := this r x
    simp [dd, this]
theorem dd_pos (l : List Int) (h : l ≠ []) : 1 ≤ (dd l).length := by
  cases l with
  | nil => exact absurd rfl h
  | cons x r => simp [dd]
section
variable {h : Heap} {b : Nat}
theorem cmp_in (l : List Int) (N K0 : Nat) (hN : l.length = N) (hb6 : N ≤ 1000000) (hK : 1 ≤ K0) (hK' : K0 < N) : ∀ (m k2 k : Nat) (cur : List Int) (h : Heap), 1 ≤ k2 → K0 + k2 + m = N → cur.length = N → h.row b = some (ints cur) → k ≤ K0 + k2 - 1 → (dd (l.take (K0 + k2))).length = k → cur.take k = dd (l.take (K0 + k2)) → cur.drop (K0 + k2 - 1) = l.drop (K0 + k2 - 1) → ∀ ks Q,
    (∀ h' cur' z, HK h h' b → cur'.length = N → Heap.row h' b = some (ints cur') → cur'.take (dd l).length = dd l → Xk T ks (.x 2) ((0, .hs 1 b 0 N) :: (3, .int .i64 (dd l).length) :: z) h' Q) →
    Xc T l_slices_Compact_int_int_0 ks [(0, .hs 1 b 0 N), (3, .int .i64 k), (4, .hs 1 b K0 (N - K0)), (5, .int .i64 k2)] h Q := by
  intro m
  induction m with
  | zero =>
    intro k2 k cur h h1 h2 hc hr hk hd ht hdr ks Q hx
    rw [L_slices_Compact_int_int_0]; unfold bl_slices_Compact_int_int_0
    have c1 : ¬ (k2 : Int) < ((N - K0 : Nat) : Int) := by omega
    have e1 : l.take (K0 + k2) = l := List.take_of_length_le (by omega)
    rw [e1] at hd ht
    rw [← hd] at ht
    simp (disch := omega) [c1]
    rw [← hd] at *
    exact hx h cur _ (HK.refl _ _) hc hr ht
  | succ m ih =>
    intro k2 k cur h h1 h2 hc hr hk hd ht hdr ks Q hx
    rw [L_slices_Compact_int_int_0]; unfold bl_slices_Compact_int_int_0
    have c1 : (k2 : Int) < ((N - K0 : Nat) : Int) := by omega
    have jl := hlt hr
    have il : (ints cur).length = N := by rw [ints_len, hc]
    have hq : ∀ (p : Nat) (hp : p < l.length), K0 + k2 - 1 ≤ p → (ints cur)[p]? = some (.int .i64 l[p]) := fun p hp h4 => by
      rw [ints_get]
      have := congrArg (fun z => z[p - (K0 + k2 - 1)]?) hdr
      simp only [List.getElem?_drop] at this
      rw [show K0 + k2 - 1 + (p - (K0 + k2 - 1)) = p by omega] at this
      rw [this, List.getElem?_eq_getElem hp]; rfl
    have g1 := hq (K0 + k2) (by omega) (by omega)
    have g2 := hq (K0 + (k2 - 1)) (by omega) (by omega)
    have e5 : ((k2 : Int) - 1).toNat = k2 - 1 := by omega
    have c2 : ((k2 : Int) - 1) < ((N - K0 : Nat) : Int) := by omega
    have dt := dd_take l (K0 + k2) (by omega) (by omega)
    have e6 : K0 + k2 - 1 = K0 + (k2 - 1) := by omega
    have ee : ((k2 : Int) + 1) = ((k2 + 1 : Nat) : Int) := by omega
    simp only [e6] at dt
    have tk : (l.take (K0 + k2 + 1)).length = K0 + k2 + 1 := by rw [List.length_take]; omega
    simp (disch := omega) [c1, hr, g1, g2, e5, il]
    by_cases c3 : l[K0 + k2]'(by omega) = l[K0 + (k2 - 1)]'(by omega)
    · rw [if_pos c3, List.append_nil] at dt
      have := ih (k2 + 1) k cur h (by omega) (by omega) hc hr (by omega) (by rw [← Nat.add_assoc, dt]; exact hd) (by rw [← Nat.add_assoc, dt]; exact ht) (by
        rw [show K0 + (k2 + 1) - 1 = (K0 + k2 - 1) + 1 by omega, ← List.drop_drop, ← List.drop_drop, hdr]) ks Q hx
      simp (disch := omega) [c3]
      simpa using this
    · rw [if_neg c3] at dt
      have kN : k < N := by omega
      have := ih (k2 + 1) (k + 1) (cur.set k (l[K0 + k2]'(by omega))) (h.set b (some (ints (cur.set k (l[K0 + k2]'(by omega)))))) (by omega) (by omega) (by simp [hc]) (by rw [row_set jl]) (by omega) (by rw [← Nat.add_assoc, dt]; simp [hd]) (by
          rw [← Nat.add_assoc, dt, ← ht, List.take_succ, List.take_set_of_le (Nat.le_refl _), List.getElem?_set_self (by omega)]; rfl) (by
          rw [List.drop_set_of_lt (by omega), show K0 + (k2 + 1) - 1 = (K0 + k2 - 1) + 1 by omega, ← List.drop_drop, ← List.drop_drop, hdr]) ks Q (fun h' cur' z a b' => hx h' cur' z ((HK.set _ _ _).trans a) b')
      have si : ints (cur.set k (l[K0 + k2]'(by omega))) = (ints cur).set k (.int .i64 (l[K0 + k2]'(by omega))) := by simp [ints, List.map_set]
      rw [si] at this
      simp (disch := omega) [c3, hr, g1, il, kN]
      simpa using this
theorem cmp_out (l : List Int) (N : Nat) (hN : l.length = N) (hb6 : N ≤ 1000000) : ∀ (m k : Nat) (h : Heap), 1 ≤ k → k + m = N → h.row b = some (ints l) → dd (l.take k) = l.take k → ∀ ks Q,
    (dd l = l → ∀ z, Xk T ks (.x 0) ((0, .hs 1 b 0 N) :: z) h Q) →
    (∀ h' R, HK h h' b → Heap.row h' b = some R → (dd l).length ≤ R.length → R.take (dd l).length = ints (dd l) → Xk T ks .r [(2, .hs 1 b 0 (dd l).length)] h' Q) →
    Xc T l_slices_Compact_int_int_1 ks [(0, .hs 1 b 0 N), (3, .int .i64 k)] h Q := by
  intro m
  induction m with
  | zero =>
    intro k h h1 h2 hr hd ks Q hx hy
    rw [L_slices_Compact_int_int_1]; unfold bl_slices_Compact_int_int_1
    have c1 : ¬ (k : Int) < N := by omega
    rw [List.take_of_length_le (by omega)] at hd
    simp (disch := omega) [c1]
    exact hx hd _
  | succ m ih =>
    intro k h h1 h2 hr hd ks Q hx hy
    rw [L_slices_Compact_int_int_1]; unfold bl_slices_Compact_int_int_1
    have c1 : (k : Int) < N := by omega
    have kN : k < N := by omega
    have il : (ints l).length = N := by rw [ints_len, hN]
    have g1 : (ints l)[k]? = some (.int .i64 (l[k]'(by omega))) := by rw [ints_get, List.getElem?_eq_getElem (by omega)]; rfl
    have g2 : (ints l)[k - 1]? = some (.int .i64 (l[k - 1]'(by omega))) := by rw [ints_get, List.getElem?_eq_getElem (by omega)]; rfl
    have e5 : ((k : Int) - 1).toNat = k - 1 := by omega
    have dt := dd_take l k (by omega) (by omega)
    simp (disch := omega) [c1, hr, g1, g2, e5, il, kN]
    by_cases c3 : l[k]'(by omega) = l[k - 1]'(by omega)
    · rw [if_pos c3, List.append_nil] at dt
      have tk : (l.take k).length = k := by rw [List.length_take]; omega
      have sv1 := slN_lo 1 b N k kN
      have cI := cmp_in (b := b) l N k hN hb6 h1 kN m 1 k l h (by omega) (by omega) hN hr (by omega) (by rw [dt, hd, tk]) (by rw [dt, hd]) rfl
      have dp := dd_pos l (by intro e; rw [e] at hN; simp at hN; omega)
      have dl : (dd l).length < N := by
        have : ∀ (m i : Nat), k + 1 + i + m = N → (dd (l.take (k + 1 + i))).length ≤ k + i → (dd l).length ≤ N - 1 := by
          intro m
          induction m with
          | zero => intro i h3 h4; rw [List.take_of_length_le (by omega)] at h4; omega
          | succ m ih =>
            intro i h3 h4
            refine ih (i + 1) (by omega) ?_
            have := dd_take l (k + 1 + i) (by omega) (by omega)
            rw [← Nat.add_assoc, this, List.length_append]
            split <;> simp <;> omega
        have := this m 0 (by omega) (by rw [Nat.add_zero, dt, hd, tk]; omega)
        omega
      generalize hM : (dd l).length = M at *
      simp (disch := omega) [c3, sv1]
      refine cI _ _ fun h' cur z q1 q2 q3 q4 => ?_
      have sv2 := slN_lo 1 b N M dl
      have sv3 := slN_hi 1 b N M (by omega)
      have il2 : (ints cur).length = N := by rw [ints_len, q2]
      have cv := clrN h' 1 b (M * 1) (N - M) [.int .i64 0] (ints cur) rfl q3 (by rw [il2]; omega)
      have M0 : M ≠ 0 := by omega
      have rl : (repZ (N - M) [V.int .i64 0]).length = N - M := by simp [repZ]
      rw [if_neg M0] at sv3
      simp only [Nat.mul_one] at sv2 cv
      simp (disch := omega) [sv2, sv3, cv]
      refine hy _ _ (q1.trans (HK.set _ _ _)) (row_set (hlt q3)) ?_ ?_
      · simp only [spliceL, List.length_append, List.length_take, rl, il2]; omega
      · unfold spliceL
        rw [List.append_assoc, List.take_left' (by rw [List.length_take]; omega)]
        rw [← q4]; simp [ints, List.map_take]
    · rw [if_neg c3, hd] at dt
      have := ih (k + 1) h (by omega) (by omega) hr (by rw [dt, List.take_succ, List.getElem?_eq_getElem (by omega)]; rfl) ks Q hx hy
      simp (disch := omega) [c3]
      simpa using this
end
theorem CompactP_run (l : List Int) (hb6 : l.length ≤ 1000000) (hl : l ≠ []) (b : Nat) (h : Heap) (hr : h.row b = some (ints l)) :
    ∃ h', Run T f_slices_Compact_int_int [.hs 1 b 0 l.length] h (.ps 1 (ints (dd l))) h' ∧ HK h h' b := by
  have ln : l.length ≠ 0 := fun e => hl (List.eq_nil_of_length_eq_zero e)
  have lp := cmp_out (b := b) l l.length rfl hb6 (l.length - 1) 1 h (by omega) (by omega) hr (by
    cases l with
    | nil => exact absurd rfl hl
    | cons x r => simp [dd, ddF])
  have fz : ∀ (g : Heap) (R : List V) (F : List Int), Heap.row g b = some R → F.length ≤ R.length → R.take F.length = ints F → freeze1 false (.hs 1 b 0 F.length) g = some (.ps 1 (ints F), g.set b none) := fun g R F h9 h11 h10 => by
    have hc : hsCells g 1 b 0 F.length = some (ints F) := by simp [hsCells, h9, h10, h11]
    have ck : chunkOk 1 false (ints F) = true := by simp [chunkOk, ints]
    simp only [freeze1, hc, Option.bind_some]
    rw [if_pos ck, chunk1 _ _ (ints_len F)]
  obtain ⟨v, h', ⟨ev, q1⟩, r⟩ := Run.startP (P := fun v h' => v = .ps 1 (ints (dd l)) ∧ HK h h' b) (vs := [.hs 1 b 0 l.length]) (h := h) t_slices_Compact_int_int (by
    unfold k_slices_Compact_int_int
    by_cases c : l.length < 2
    · have e : dd l = l := by
        match l, c with
        | [], _ => rfl
        | [x], _ => rfl
        | x :: y :: r, c => simp at c; omega
      have c' : (l.length : Int) < 2 := by omega
      have f := fz h (ints l) l hr (by rw [ints_len]; omega) (List.take_of_length_le (by rw [ints_len]; omega))
      simp (disch := omega) [c, c', e]
      rw [f]
      simp only [Option.bind_some, epiP_some]
      exact ⟨rfl, HK.set _ _ _⟩
    · have c' : ¬ (l.length : Int) < 2 := by omega
      simp (disch := omega) [c, c']
      refine lp _ _ (fun e z => ?_) (fun h' R q1 q2 q3 q4 => ?_)
      · have f := fz h (ints l) l hr (by rw [ints_len]; omega) (List.take_of_length_le (by rw [ints_len]; omega))
        simp (disch := omega) [e]
        rw [f]
        simp only [Option.bind_some, epiP_some]
        exact ⟨rfl, HK.set _ _ _⟩
      · have f := fz h' R (dd l) q2 q3 q4
        simp (disch := omega)
        rw [f]
        simp only [Option.bind_some, epiP_some]
        exact ⟨rfl, q1.trans (HK.set _ _ _)⟩)
  subst ev
  exact ⟨h', r, q1⟩
theorem CompactP_hn (h : Heap) : Run T f_slices_Compact_int_int [.hn 1] h (.ps 1 []) h := by
  refine Run.start t_slices_Compact_int_int ?_
  unfold k_slices_Compact_int_int
  simp (disch := omega)
/-- A test that turns nothing. -/
structure Pd (g0 : Heap) (b f : Nat) (cap : List V) (p : Int → Bool) : Prop where
  free : T.free f = true
  run : ∀ g, HK g0 g b → ∀ y : Int, Run T f (.int .i64 y :: cap) g (.bool (p y)) g
/-- Where the first is that passes. -/
def fIx (p : Int → Bool) : List Int → Nat → Int
  | [], _ => -1
  | y :: r, i => if p y then (i : Int) else fIx p r (i + 1)
theorem fIx_neg (p : Int → Bool) : ∀ (l : List Int) (i : Nat), fIx p l i = -1 → l.filter (fun y => !p y) = l
  | [], _, _ => rfl
  | y :: r, i, h => by
    by_cases c : p y = true
    · simp only [fIx, if_pos c] at h; omega
    · simp only [fIx, if_neg c] at h
      have := fIx_neg p r (i + 1) h
      simp [c, this]
theorem fIx_at (p : Int → Bool) : ∀ (l : List Int) (i : Nat), fIx p l i ≠ -1 → ∃ k : Nat, fIx p l i = ((i + k : Nat) : Int) ∧ k < l.length ∧ l.filter (fun y => !p y) = l.take k ++ (l.drop (k + 1)).filter (fun y => !p y)
  | [], _, h => absurd rfl h
  | y :: r, i, h => by
    by_cases c : p y = true
    · exact ⟨0, by simp [fIx, c], by simp, by simp [c]⟩
    · simp only [fIx, if_neg c] at h ⊢
      obtain ⟨k, e1, e2, e3⟩ := fIx_at p r (i + 1) h
      refine ⟨k + 1, by rw [e1]; congr 1; omega, by simpa using e2, ?_⟩
      simp [c, e3]
theorem tk_get {R : List V} {n : Nat} {l : List Int} (h : R.take n = ints l) (i : Nat) (hi : i < n) (hl : i < l.length) : R[i]? = some (.int .i64 l[i]) := by
  have := congrArg (fun z => z[i]?) h
  simp only [List.getElem?_take, if_pos hi, ints_get, List.getElem?_eq_getElem hl] at this
  rw [this]; rfl
theorem tk_set {R : List V} {n : Nat} {l : List Int} (h : R.take n = ints l) (i : Nat) (x : Int) : (R.set i (.int .i64 x)).take n = ints (l.set i x) := by
  rw [List.take_set, h]; simp [ints, List.map_set]
section
variable {g0 g : Heap} {b f : Nat} {cap : List V} {p : Int → Bool}
theorem ixf_loop (hp : Pd g0 b f cap p) (l : List Int) (n : Nat) (hn : n ≤ 1000000) (hl : l.length = n) (R : List V) (hR : R.take n = ints l) (hRl : n ≤ R.length) (hk : HK g0 g b) (hr : g.row b = some R) : ∀ (m i : Nat), i + m = n → ∀ ks Q,
    (fIx p (l.drop i) i = -1 → ∀ e, Xk T ks (.x 0) e g Q) →
    (fIx p (l.drop i) i ≠ -1 → Xk T ks .r [(4, .int .i64 (fIx p (l.drop i) i))] g Q) →
    Xc T l_slices_IndexFunc_int_int_0 ks [(0, .hs 1 b 0 n), (1, .fn f cap), (7, .int .i64 n), (8, .int .i64 i)] g Q := by
  have hf := hp.free
  intro m
  induction m with
  | zero =>
    intro i hi ks Q h1 h2
    have e : l.drop i = [] := List.drop_eq_nil_of_le (by omega)
    rw [e] at h1
    have e2 : ¬ (i : Int) < n := by omega
    rw [L_slices_IndexFunc_int_int_0]; unfold bl_slices_IndexFunc_int_int_0
    simp (disch := omega) [e2]
    exact h1 rfl _
  | succ m ih =>
    intro i hi ks Q h1 h2
    have hil : i < l.length := by omega
    have e := List.drop_eq_getElem_cons hil
    rw [e] at h1 h2
    have e1 : (i : Int) < n := by omega
    have g1 := tk_get hR i (by omega) hil
    have ih := ih (i + 1) (by omega) ks Q
    rw [show ((i + 1 : Nat) : Int) = (i : Int) + 1 from rfl] at ih
    rw [L_slices_IndexFunc_int_int_0]; unfold bl_slices_IndexFunc_int_int_0
    simp (disch := omega) [e1, hr, g1, hf]
    rw [Xf_run (hp.run g hk _)]
    simp only [fIx] at h1 h2
    by_cases c : p l[i] = true
    · rw [if_pos c] at h1 h2
      simp (disch := omega) [c]
      exact h2 (by omega)
    · rw [if_neg c] at h1 h2
      simp (disch := omega) [c]
      exact ih h1 h2
theorem ixf_run (hp : Pd g0 b f cap p) (l : List Int) (hn : l.length ≤ 1000000) (R : List V) (hR : R.take l.length = ints l) (hRl : l.length ≤ R.length) (hk : HK g0 g b) (hr : g.row b = some R) : Run T f_slices_IndexFunc_int_int [.hs 1 b 0 l.length, .fn f cap] g (.int .i64 (fIx p l 0)) g := by
  refine Run.start t_slices_IndexFunc_int_int ?_
  unfold k_slices_IndexFunc_int_int
  simp (disch := omega)
  have := ixf_loop hp l l.length hn rfl R hR hRl hk hr l.length 0 (by omega)
  refine this _ _ (fun h e => ?_) (fun h => ?_)
  · have h : fIx p l 0 = -1 := h
    simp [h]
  · have h : ¬ fIx p l 0 = -1 := h
    simp [h]
theorem dlf_loop (hp : Pd g0 b f cap p) (N : Nat) (hN : N ≤ 1000000) : ∀ (m k : Nat), k + m = N → ∀ (i : Nat) (cur : List Int) (R : List V) (g : Heap), cur.length = N → i ≤ k → R.take N = ints cur → N ≤ R.length → HK g0 g b → g.row b = some R → ∀ ks Q,
    (∀ z g' cur' R', HK g g' b → cur'.length = N → R'.take N = ints cur' → N ≤ R'.length → Heap.row g' b = some R' → i + ((cur.drop k).filter (fun y => !p y)).length ≤ N → cur'.take (i + ((cur.drop k).filter (fun y => !p y)).length) = cur.take i ++ (cur.drop k).filter (fun y => !p y) →
      Xk T ks (.x 0) ((0, .hs 1 b 0 N) :: (1, .fn f cap) :: (5, .int .i64 ((i + ((cur.drop k).filter (fun y => !p y)).length : Nat) : Int)) :: z) g' Q) →
    Xc T l_slices_DeleteFunc_int_int_0 ks [(0, .hs 1 b 0 N), (1, .fn f cap), (5, .int .i64 i), (6, .int .i64 k)] g Q := by
  have hf := hp.free
  intro m
  induction m with
  | zero =>
    intro k hk i cur R g hc hi hR hRl hg hr ks Q hx
    have e : cur.drop k = [] := List.drop_eq_nil_of_le (by omega)
    have e2 : ¬ (k : Int) < N := by omega
    rw [L_slices_DeleteFunc_int_int_0]; unfold bl_slices_DeleteFunc_int_int_0
    simp (disch := omega) [e2]
    have := hx [(6, .int .i64 k), (19, .bool false)] g cur R (HK.refl _ _) hc hR hRl hr (by rw [e]; simp; omega) (by rw [e]; simp)
    rw [e] at this
    simpa using this
  | succ m ih =>
    intro k hk i cur R g hc hi hR hRl hg hr ks Q hx
    have hl : k < cur.length := by omega
    have e := List.drop_eq_getElem_cons hl
    have e1 : (k : Int) < N := by omega
    have g1 := tk_get hR k (by omega) hl
    have ih := ih (k + 1) (by omega)
    rw [show ((k + 1 : Nat) : Int) = (k : Int) + 1 from rfl] at ih
    rw [e] at hx
    have jl := hlt hr
    rw [L_slices_DeleteFunc_int_int_0]; unfold bl_slices_DeleteFunc_int_int_0
    simp (disch := omega) [e1, hr, g1, hf]
    rw [Xf_run (hp.run g hg _)]
    by_cases c : p cur[k] = true
    · rw [List.filter_cons_of_neg (by simp [c])] at hx
      simp (disch := omega) [c]
      exact ih i cur R g hc (by omega) hR hRl hg hr ks Q hx
    · rw [List.filter_cons_of_pos (by simp [c])] at hx
      have iR : i < R.length := by omega
      have iN : i < N := by omega
      simp (disch := omega) [c, hr, iR, iN]
      have d1 : (cur.set i cur[k]).drop (k + 1) = cur.drop (k + 1) := List.drop_set_of_lt (by omega)
      have t1 : (cur.set i cur[k]).take (i + 1) = cur.take i ++ [cur[k]] := by
        rw [List.take_succ, List.take_set_of_le (Nat.le_refl _), List.getElem?_set_self (by omega)]; rfl
      have := ih (i + 1) (cur.set i cur[k]) (R.set i (.int .i64 cur[k])) (g.set b (some (R.set i (.int .i64 cur[k])))) (by simp [hc]) (by omega) (tk_set hR i _) (by simpa using hRl) (hg.trans (HK.set _ _ _)) (row_set jl) ks Q (fun z g' cur' R' a1 a2 a3 a4 a5 a6 a7 => by
        rw [d1] at a6 a7 ⊢
        rw [t1] at a7
        simp only [List.length_cons] at hx
        have e1 : i + 1 + ((cur.drop (k + 1)).filter (fun y => !p y)).length = i + (((cur.drop (k + 1)).filter (fun y => !p y)).length + 1) := by omega
        rw [e1] at a6 a7 ⊢
        exact hx z g' cur' R' ((HK.set _ _ _).trans a1) a2 a3 a4 a5 a6 (by rw [a7]; simp))
      simpa using this
end
section
variable {g0 g : Heap} {b f : Nat} {cap : List V} {p : Int → Bool}
theorem fzI (g : Heap) (b : Nat) (R : List V) (F : List Int) (h9 : Heap.row g b = some R) (h11 : F.length ≤ R.length) (h10 : R.take F.length = ints F) : freeze1 false (.hs 1 b 0 F.length) g = some (.ps 1 (ints F), g.set b none) := by
  have hc : hsCells g 1 b 0 F.length = some (ints F) := by simp [hsCells, h9, h10, h11]
  have ck : chunkOk 1 false (ints F) = true := by simp [chunkOk, ints]
  simp only [freeze1, hc, Option.bind_some]
  rw [if_pos ck, chunk1 _ _ (ints_len F)]
theorem dlfP_run (hp : Pd g0 b f cap p) (l : List Int) (hn : l.length ≤ 1000000) (hne : l ≠ []) (R : List V) (hR : R.take l.length = ints l) (hRl : l.length ≤ R.length) (hk : HK g0 g b) (hr : g.row b = some R) :
    ∃ g', Run T f_slices_DeleteFunc_int_int [.hs 1 b 0 l.length, .fn f cap] g (.ps 1 (ints (l.filter fun y => !p y))) g' ∧ HK g g' b := by
  obtain ⟨v, h', ⟨ev, hk'⟩, r⟩ := Run.startP (P := fun v g' => v = .ps 1 (ints (l.filter fun y => !p y)) ∧ HK g g' b) (vs := [.hs 1 b 0 l.length, .fn f cap]) (h := g) t_slices_DeleteFunc_int_int (by
    unfold k_slices_DeleteFunc_int_int
    simp (disch := omega)
    rw [Xf_run (ixf_run hp l hn R hR hRl hk hr)]
    by_cases c : fIx p l 0 = -1
    · have e := fIx_neg p l 0 c
      have f := fzI g b R l hr hRl hR
      simp (disch := omega) [c]
      rw [f, e]
      simp only [Option.bind_some, epiP_some]
      exact ⟨rfl, HK.set _ _ _⟩
    · obtain ⟨k, e1, e2, e3⟩ := fIx_at p l 0 c
      rw [Nat.zero_add] at e1
      have c' : ¬ ((k : Int) = -1) := by omega
      have lp := dlf_loop hp l.length hn (l.length - (k + 1)) (k + 1) (by omega) k l R g rfl (by omega) hR hRl hk hr
      rw [show ((k + 1 : Nat) : Int) = (k : Int) + 1 from rfl] at lp
      rw [e1]
      simp (disch := omega) [c']
      refine lp _ _ (fun z g' cur' R' h0 h1 h2 h3 h4 h5 h6 => ?_)
      have hk : (l.filter fun y => !p y) = cur'.take (k + ((l.drop (k + 1)).filter fun y => !p y).length) := by rw [h6, e3]
      have kf : ((l.drop (k + 1)).filter fun y => !p y).length ≤ l.length - (k + 1) := by have := List.length_filter_le (fun y => !p y) (l.drop (k + 1)); rwa [List.length_drop] at this
      generalize hM : k + ((l.drop (k + 1)).filter fun y => !p y).length = M at *
      have hMl : M < l.length := by omega
      have fl : (l.filter fun y => !p y).length = M := by rw [hk, List.length_take]; omega
      have sv1 := slN_lo 1 b l.length M hMl
      have sv2 := slN_hi 1 b l.length M (by omega)
      have cv := clrN g' 1 b (M * 1) (l.length - M) [.int .i64 0] R' rfl h4 (by omega)
      simp only [Nat.mul_one] at sv1 cv
      have rl : (repZ (l.length - M) [V.int .i64 0]).length = l.length - M := by simp [repZ]
      by_cases z0 : M = 0
      · have en : (l.filter fun y => !p y) = [] := List.eq_nil_of_length_eq_zero (by rw [fl, z0])
        rw [if_pos z0] at sv2
        simp (disch := omega) [sv1, sv2, cv, en]
        exact ⟨rfl, h0.trans (HK.set _ _ _)⟩
      · have f := fzI (g'.set b (some (spliceL R' M (repZ (l.length - M) [.int .i64 0])))) b _ (l.filter fun y => !p y) (row_set (hlt h4)) (by rw [fl]; simp only [spliceL, List.length_append, List.length_take, rl]; omega) (by
          rw [fl]
          unfold spliceL
          rw [List.append_assoc, List.take_left' (by rw [List.length_take]; omega), hk]
          have := congrArg (List.take M) h2
          rw [List.take_take, Nat.min_eq_left (by omega)] at this
          rw [this]; simp [ints, List.map_take])
        rw [fl] at f
        rw [if_neg z0] at sv2
        simp (disch := omega) [sv1, sv2, cv]
        rw [f]
        simp only [Option.bind_some, epiP_some]
        exact ⟨rfl, (h0.trans (HK.set _ _ _)).trans (HK.set _ _ _)⟩)
  subst ev
  exact ⟨h', r, hk'⟩
end
section
variable {ks : List Kt} {ops : List AOpr} {K : Kp} {e : Env} {h : Heap} {Q : Ex → Env → Heap → Prop} {d : Nat} {lent : Bool}
theorem Ints_p (a b : List Int) (ha : a.length < 4611686018427387904) : Xp T f_ref01_Ints (some ([.ps 1 (ints a), .ps 1 (ints b)], lent)) h (some d) ops K ks e Q = Xo T ops K ks ((d, .bool (decide (a = b))) :: e) h Q :=
  Xp_run (Ints_run a b [] ha) (by simp [ints_hfs]) rfl (by simp [scalar])
theorem Has_p (l : List Int) (x : Int) (hl : l.length < 4611686018427387904) : Xp T f_ref13_Has (some ([.ps 1 (ints l), .int .i64 x], lent)) h (some d) ops K ks e Q = Xo T ops K ks ((d, .bool (decide (x ∈ l))) :: e) h Q :=
  Xp_run (Has_run l x [] hl) (by simp [ints_hfs]) rfl (by simp [scalar])
end
section
variable {ks : List Kt} {ops : List AOpr} {K : Kp} {e : Env} {h : Heap} {Q : Ex → Env → Heap → Prop} {d : Nat} {lent : Bool}
end
section
variable {ks : List Kt} {ops : List AOpr} {K : Kp} {e : Env} {h : Heap} {Q : Ex → Env → Heap → Prop} {d : Nat} {lent : Bool}
end
theorem Index_loop (h : Heap) (l : List Int) (x : Int) (hb : l.length < 4611686018427387904) : ∀ (k i : Nat), i + k = l.length → ∀ ks Q,
    (x ∉ l.drop i → Xk T ks (.x 0) [(0, .ps 1 (ints l)), (1, .int .i64 x), (7, .int .i64 l.length), (8, .int .i64 l.length), (9, .bool false)] h Q) →
    (x ∈ l.drop i → ∀ j : Nat, Xk T ks .r [(4, .int .i64 j)] h Q) →
    Xc T l_slices_Index_int_int_0 ks [(0, .ps 1 (ints l)), (1, .int .i64 x), (7, .int .i64 l.length), (8, .int .i64 i)] h Q := by
  intro k
  induction k with
  | zero =>
    intro i hk ks Q h1 h2
    rw [L_slices_Index_int_int_0]; unfold bl_slices_Index_int_int_0
    have e0 : i = l.length := by omega
    subst e0
    simp (disch := omega)
    exact h1 (by simp)
  | succ k ih =>
    intro i hk ks Q h1 h2
    rw [L_slices_Index_int_int_0]; unfold bl_slices_Index_int_int_0
    have e1 : i < l.length := by omega
    have e3 : (i : Int) < l.length := by omega
    have da : l.drop i = l[i] :: l.drop (i + 1) := List.drop_eq_getElem_cons e1
    simp (disch := omega) [ints_get, e3, List.getElem?_eq_getElem e1]
    apply Xb_dec
    · intro he
      simp (disch := omega)
      exact h2 (by rw [da, ← he]; simp) i
    · intro hne
      simp (disch := omega)
      have := ih (i + 1) (by omega) ks Q (fun hh => h1 (by rw [da, List.mem_cons]; exact fun q => q.elim hne hh)) (fun hh => h2 (by rw [da, List.mem_cons]; exact .inr hh))
      simpa using this
theorem Index_run (l : List Int) (x : Int) (h : Heap) (hb : l.length < 4611686018427387904) : ∃ j : Int, (0 ≤ j ↔ x ∈ l) ∧ Run T f_slices_Index_int_int [.ps 1 (ints l), .int .i64 x] h (.int .i64 j) h := by
  obtain ⟨v, h', ⟨k, rfl, rfl, hk⟩, hr⟩ := Run.startP (P := fun v h' => ∃ k : Int, v = .int .i64 k ∧ h' = h ∧ (0 ≤ k ↔ x ∈ l)) t_slices_Index_int_int (vs := [.ps 1 (ints l), .int .i64 x]) (h := h) (by
    unfold k_slices_Index_int_int
    simp (disch := omega) [ints_len]
    have := Index_loop h l x hb l.length 0 (by omega)
    simp at this
    refine this _ _ (fun hx => ?_) (fun hx j => ?_)
    · simp (disch := omega) [hx]
    · simp (disch := omega) [hx])
  exact ⟨k, hk, hr⟩
theorem Contains_run (l : List Int) (x : Int) (h : Heap) (hb : l.length < 4611686018427387904) : Run T f_slices_Contains_int_int [.ps 1 (ints l), .int .i64 x] h (.bool (decide (x ∈ l))) h := by
  refine Run.start t_slices_Contains_int_int ?_
  unfold k_slices_Contains_int_int
  obtain ⟨j, hj, hr⟩ := Index_run l x [] hb
  simp (disch := omega)
  rw [Xp_run hr (by simp [ints_hfs]) rfl (by simp [scalar])]
  simp (disch := omega) [hj]
section
variable {ks : List Kt} {ops : List AOpr} {K : Kp} {e : Env} {h : Heap} {Q : Ex → Env → Heap → Prop} {d : Nat} {lent : Bool}
theorem Contains_p (l : List Int) (x : Int) (hl : l.length < 4611686018427387904) : Xp T f_slices_Contains_int_int (some ([.ps 1 (ints l), .int .i64 x], lent)) h (some d) ops K ks e Q = Xo T ops K ks ((d, .bool (decide (x ∈ l))) :: e) h Q :=
  Xp_run (Contains_run l x [] hl) (by simp [ints_hfs]) rfl (by simp [scalar])
end
section
variable {ks : List Kt} {ops : List AOpr} {K : Kp} {e : Env} {h : Heap} {Q : Ex → Env → Heap → Prop} {d : Nat} {lent : Bool}
end
structure Pt where
  b : Int
  k : Int
  deriving Inhabited, DecidableEq
def Pt.cs (p : Pt) : List V := [.int .i64 p.b, .int .i64 p.k]
def Pt.v (p : Pt) : V := .agg p.cs
def Pt.vs (l : List Pt) : List V := l.map Pt.v
theorem pt_len (l : List Pt) : (Pt.vs l).length = l.length := by simp [Pt.vs]
theorem pt_get (l : List Pt) (i : Nat) : (Pt.vs l)[i]? = (l[i]?).map Pt.v := by simp [Pt.vs]
theorem pt_at (l : List Pt) (i : Nat) (h : i < l.length) : (Pt.vs l)[i]? = some l[i].v := by rw [pt_get, List.getElem?_eq_getElem h]; rfl
theorem pt_cells (p : Pt) : p.v.cells = [.int .i64 p.b, .int .i64 p.k] := rfl
theorem pt_hf (l : List Pt) : V.hfs (Pt.vs l) = true := by
  induction l with
  | nil => rfl
  | cons x l ih => show (V.hf x.v && V.hfs (Pt.vs l)) = true; rw [ih]; rfl
def blkOf (l : List Pt) : List Int := l.map (·.b)
/-- All rows stay. -/
def HA (g g' : Heap) : Prop := g.length ≤ g'.length ∧ ∀ i, i < g.length → Heap.row g' i = Heap.row g i
theorem HA.refl (g : Heap) : HA g g := ⟨Nat.le_refl _, fun _ _ => rfl⟩
theorem HA.app (g w : Heap) : HA g (g ++ w) := ⟨by simp, fun i h => row_app h⟩
theorem HA.trans {g h k : Heap} (a : HA g h) (b : HA h k) : HA g k := ⟨Nat.le_trans a.1 b.1, fun i hi => (b.2 i (Nat.lt_of_lt_of_le hi a.1)).trans (a.2 i hi)⟩
theorem HA.upd {g h : Heap} {b : Nat} (k : HA g h) (hb : g.length ≤ b) (v : Option (List V)) : HA g (h.set b v) := by
  refine ⟨by have := k.1; simp; omega, fun i hi => ?_⟩
  rw [row_ne (by omega)]
  exact k.2 i hi
theorem HA.hk {g h h' : Heap} {b : Nat} (k : HA g h) (hb : g.length ≤ b) (q : HK h h' b) : HA g h' := ⟨Nat.le_trans k.1 q.1, fun i hi => (q.2 i (by omega) (Nat.lt_of_lt_of_le hi k.1)).trans (k.2 i hi)⟩
theorem setrow {h : Heap} {b : Nat} {cs : List V} (hr : h.row b = some cs) : h.set b (some cs) = h := by
  have hb := hlt hr
  refine List.ext_getElem (by simp) fun i h1 h2 => ?_
  rw [List.getElem_set]
  split
  · rename_i e
    subst e
    unfold Heap.row at hr
    rw [List.getElem?_eq_getElem hb] at hr
    simpa using hr.symm
  · rfl
/-- A slice of whole numbers that grows. -/
def GrV (s : List Int) (v : V) (lo : Nat) (g : Heap) : Prop :=
  (s = [] ∧ v = .hn 1) ∨ (s ≠ [] ∧ ∃ o, v = .hs 1 o 0 s.length ∧ lo ≤ o ∧ Heap.row g o = some (ints s))
theorem used_loop (l : List Pt) (hl : l.length ≤ 60) (g0 : Heap) : ∀ (m i : Nat) (ov : V) (g : Heap), i + m = l.length → HA g0 g → GrV (blkOf (l.take i)) ov g0.length g → ∀ ks Q,
    (∀ z g' ov', HA g0 g' → GrV (blkOf l) ov' g0.length g' → Xk T ks (.x 0) ((3, ov') :: z) g' Q) →
    Xc T l_place_Used_0 ks [(3, ov), (6, .ps 2 (Pt.vs l)), (7, .int .i64 l.length), (8, .int .i64 i)] g Q := by
  intro m
  induction m with
  | zero =>
    intro i ov g hi ha ho ks Q hx
    rw [L_place_Used_0]; unfold bl_place_Used_0
    have c1 : ¬ (i : Int) < l.length := by omega
    have e : i = l.length := by omega
    subst e
    rw [List.take_length] at ho
    simp (disch := omega)
    exact hx _ g ov ha ho
  | succ m ih =>
    intro i ov g hi ha ho ks Q hx
    rw [L_place_Used_0]; unfold bl_place_Used_0
    have hil : i < l.length := by omega
    have c1 : (i : Int) < l.length := by omega
    have g1 := pt_at l i hil
    have bt : blkOf (l.take (i + 1)) = blkOf (l.take i) ++ [l[i].b] := by
      unfold blkOf
      rw [List.take_succ, List.getElem?_eq_getElem hil, List.map_append]; rfl
    have bl : (blkOf (l.take i)).length = i := by simp [blkOf]; omega
    have bl2 : (blkOf (l.take (i + 1))).length = i + 1 := by simp [blkOf]; omega
    have pc := pt_cells l[i]
    obtain ⟨p, hp⟩ : ∃ p, p = l[i] := ⟨_, rfl⟩
    rw [← hp] at g1 bt pc
    have sp : spliceL [V.int .i64 0, V.int .i64 0] 0 [V.int .i64 p.b, V.int .i64 p.k] = [V.int .i64 p.b, V.int .i64 p.k] := rfl
    have ih := ih (i + 1)
    rw [show ((i + 1 : Nat) : Int) = (i : Int) + 1 from rfl] at ih
    have il : ∀ s : List Int, (ints s).length = s.length := ints_len
    rcases ho with ⟨h1, rfl⟩ | ⟨h1, o, rfl, h2, h3⟩
    · rw [h1] at bt
      simp (disch := omega) [c1, hil, g1, pc, sp]
      refine ih _ _ (by omega) (ha.trans (HA.app _ _)) (.inr ⟨by rw [bt]; simp, g.length + 1, by rw [bt]; rfl, by have := ha.1; omega, ?_⟩) ks Q hx
      have e2 : g ++ [some [V.int .i64 p.b, V.int .i64 p.k], some [V.int .i64 p.b]] = (g ++ [some [V.int .i64 p.b, V.int .i64 p.k]]) ++ [some [V.int .i64 p.b]] := by simp
      have e3 : g.length + 1 = (g ++ [some [V.int .i64 p.b, V.int .i64 p.k]]).length := by simp
      rw [e2, e3, row_new, bt]
      rfl
    · have ol := hlt h3
      have h3A : ∀ w, Heap.row (g ++ w) o = some (ints (blkOf (l.take i))) := fun w => by rw [row_app ol]; exact h3
      simp (disch := omega) [c1, hil, g1, pc, sp, h3A, bl, il]
      have e2 : g.set o none ++ [some [V.int .i64 p.b, V.int .i64 p.k], some (ints (blkOf (l.take i)) ++ [V.int .i64 p.b])] = (g.set o none ++ [some [V.int .i64 p.b, V.int .i64 p.k]]) ++ [some (ints (blkOf (l.take (i + 1))))] := by
        rw [bt]; simp [ints]
      have e3 : g.length + 1 = (g.set o none ++ [some [V.int .i64 p.b, V.int .i64 p.k]]).length := by simp
      refine ih _ _ (by omega) ((ha.upd h2 _).trans (HA.app _ _)) (.inr ⟨by intro e; rw [e] at bl2; simp at bl2, g.length + 1, by rw [bl2], by have := ha.1; omega, ?_⟩) ks Q hx
      rw [e2, e3, row_new]
theorem ddF_memP : ∀ (r : List Int) (p x : Int), x ∈ p :: ddF p r ↔ x ∈ p :: r
  | [], p, x => by simp [ddF]
  | y :: r, p, x => by
    rw [ddF]
    split
    · rename_i c
      subst c
      rw [ddF_memP r y x]
      simp
    · have := ddF_memP r y x
      rw [List.mem_cons, this]
      simp [List.mem_cons]
theorem dd_memP (l : List Int) (x : Int) : x ∈ dd l ↔ x ∈ l := by
  cases l with
  | nil => simp [dd]
  | cons y r => exact ddF_memP r y x
theorem ddF_ltP : ∀ (r : List Int) (p : Int), (p :: r).Pairwise (· ≤ ·) → (p :: ddF p r).Pairwise (· < ·)
  | [], p, _ => by simp [ddF]
  | y :: r, p, h => by
    have h1 := (List.pairwise_cons.1 h).1
    have h2 := (List.pairwise_cons.1 h).2
    have hy : p ≤ y := h1 y (by simp)
    rw [ddF]
    split
    · rename_i c
      subst c
      exact ddF_ltP r y h2
    · rename_i c
      have i2 := ddF_ltP r y h2
      refine List.pairwise_cons.2 ⟨fun x hx => ?_, i2⟩
      rcases List.mem_cons.1 hx with rfl | hx
      · omega
      · have := (List.pairwise_cons.1 i2).1 x hx; omega
theorem dd_ltP (l : List Int) (h : l.Pairwise (· ≤ ·)) : (dd l).Pairwise (· < ·) := by
  cases l with
  | nil => exact List.Pairwise.nil
  | cons x r => exact ddF_ltP r x h
theorem rising_eq : ∀ (a b : List Int), a.Pairwise (· < ·) → b.Pairwise (· < ·) → (∀ x, x ∈ a ↔ x ∈ b) → a = b
  | [], [], _, _, _ => rfl
  | [], y :: b, _, _, h => by have := (h y).2 (by simp); simp at this
  | x :: a, [], _, _, h => by have := (h x).1 (by simp); simp at this
  | x :: a, y :: b, ha, hb, h => by
    obtain ⟨a1, a2⟩ := List.pairwise_cons.1 ha
    obtain ⟨b1, b2⟩ := List.pairwise_cons.1 hb
    have hx := (h x).1 (by simp)
    have hy := (h y).2 (by simp)
    have e : x = y := by
      rcases List.mem_cons.1 hx with e | hx
      · exact e
      · rcases List.mem_cons.1 hy with e | hy
        · exact e.symm
        · have := b1 x hx; have := a1 y hy; omega
    subst e
    rw [rising_eq a b a2 b2 fun z => ?_]
    have := h z
    simp only [List.mem_cons] at this
    constructor
    · intro hz
      rcases this.1 (.inr hz) with e | e
      · have := a1 z hz; omega
      · exact e
    · intro hz
      rcases this.2 (.inr hz) with e | e
      · have := b1 z hz; omega
      · exact e
theorem Sort_hn (h : Heap) : Run T f_slices_Sort_int_int [.hn 1] h (.tup []) h := by
  have r1 : Run T f_slices_insertionSortOrdered_int [.hn 1, .int .i64 0, .int .i64 0] h (.tup []) h := by
    refine Run.start t_slices_insertionSortOrdered_int ?_
    unfold k_slices_insertionSortOrdered_int
    simp (disch := omega)
    rw [L_slices_insertionSortOrdered_int_1]; unfold bl_slices_insertionSortOrdered_int_1
    simp (disch := omega)
  have r2 : ∀ lim, Run T f_slices_pdqsortOrdered_int [.hn 1, .int .i64 0, .int .i64 0, .int .i64 lim] h (.tup []) h := fun lim => by
    refine Run.start t_slices_pdqsortOrdered_int ?_
    unfold k_slices_pdqsortOrdered_int
    simp (disch := omega)
    rw [L_slices_pdqsortOrdered_int_0]; unfold bl_slices_pdqsortOrdered_int_0
    simp (disch := omega)
    rw [Xf_run r1]
    simp (disch := omega)
  refine Run.start t_slices_Sort_int_int ?_
  unfold k_slices_Sort_int_int
  have := len_run [] 0 (by omega)
  simp at this
  simp (disch := omega)
  rw [Xp_run this (by simp) (by simp) (by simp)]
  simp (disch := omega)
  rw [Xf_run (r2 _)]
  simp (disch := omega)
theorem Used_run (l : List Pt) (hl : l.length ≤ 60) (g0 : Heap) : ∃ U g', U.Pairwise (· < ·) ∧ (∀ x, x ∈ U ↔ x ∈ blkOf l) ∧ HA g0 g' ∧ U.length ≤ l.length ∧ Run T f_place_Used [.ps 2 (Pt.vs l)] g0 (.ps 1 (ints U)) g' := by
  have lp := used_loop l hl g0 l.length 0 (.hn 1) g0 (by omega) (HA.refl _) (.inl ⟨rfl, rfl⟩)
  obtain ⟨v, g', ⟨U, ev, q1, q2, q3, q4⟩, r⟩ := Run.startP (P := fun v g' => ∃ U, v = .ps 1 (ints U) ∧ U.Pairwise (· < ·) ∧ (∀ x, x ∈ U ↔ x ∈ blkOf l) ∧ HA g0 g' ∧ U.length ≤ l.length) (vs := [.ps 2 (Pt.vs l)]) (h := g0) t_place_Used (by
    unfold k_place_Used
    simp (disch := omega) [pt_len]
    refine lp _ _ fun z g1 ov ha ho => ?_
    rcases ho with ⟨h1, rfl⟩ | ⟨h1, o, rfl, h2, h3⟩
    · simp (disch := omega)
      rw [Xf_run (Sort_hn _)]
      simp (disch := omega)
      rw [Xf_run (CompactP_hn _)]
      simp (disch := omega)
      exact ⟨[], rfl, .nil, fun x => by rw [h1], ha, by simp⟩
    · have bl : (blkOf l).length = l.length := by simp [blkOf]
      obtain ⟨g2, d', a1, a2, a3, rs⟩ := sortf_run (h0 := g1) (h := g1) (b := o) (hlt h3) Agree.refl (blkOf l).toArray (by simp [bl]; omega)
      have sd : SD g1 o (blkOf l).toArray = g1 := by
        unfold SD
        exact setrow (by simpa using h3)
      have fsz : (blkOf l).toArray.size = (blkOf l).length := by simp
      rw [sd, fsz] at rs
      have dsz : d'.size = (blkOf l).length := by rw [a2.1, fsz]
      have perm : d'.toList.Perm (blkOf l) := by
        have := a2.2.2
        simp at this
        rwa [List.take_of_length_le (by simp [dsz])] at this
      have srt : d'.toList.Pairwise (· ≤ ·) := by
        rw [List.pairwise_iff_getElem]
        intro i j hi hj hij
        simp at hi hj
        have := a3 i j (Nat.zero_le _) hij (by rw [fsz, ← dsz]; exact hj)
        simp only [Sort.ltInt, decide_eq_false_iff_not] at this
        simp only [getElem!_pos d' i hi, getElem!_pos d' j hj] at this
        simp
        omega
      have b2 : o < g2.length := Nat.lt_of_lt_of_le (hlt h3) a1.1
      have dl : d'.toList.length = (blkOf l).length := by simp [dsz]
      obtain ⟨g3, rc, hk⟩ := CompactP_run d'.toList (by rw [dl, bl]; omega) (by intro e; rw [e] at dl; exact h1 (List.eq_nil_of_length_eq_zero dl.symm)) o (SD g2 o d') (SD_row b2 d')
      rw [dl] at rc
      simp (disch := omega)
      rw [Xf_run rs]
      simp (disch := omega)
      rw [Xf_run rc]
      simp (disch := omega)
      refine ⟨dd d'.toList, rfl, dd_ltP _ srt, fun x => (dd_memP _ x).trans perm.mem_iff, ?_⟩
      have ha2 : HA g0 (SD g2 o d') := by
        refine ⟨by rw [SD_len]; exact Nat.le_trans ha.1 a1.1, fun i hi => ?_⟩
        unfold SD
        rw [row_ne (by omega), a1.2 i (Nat.lt_of_lt_of_le hi ha.1) (by omega)]
        exact ha.2 i hi
      exact ⟨ha2.hk h2 hk, by have := dd_len d'.toList; omega⟩)
  subst ev
  exact ⟨U, g', q1, q2, q3, q4, r⟩
theorem pt_v (p : Pt) : p.v = .agg [.int .i64 p.b, .int .i64 p.k] := rfl
theorem rising_ins {s : List Int} (hs : s.Pairwise (· < ·)) {k : Nat} {x : Int} (h1 : ∀ y ∈ s.take k, y < x) (h2 : ∀ y, s[k]? = some y → x < y) : (s.take k ++ [x] ++ s.drop k).Pairwise (· < ·) := by
  have hd : ∀ y ∈ s.drop k, x < y := fun y hy => by
    by_cases hk : k < s.length
    · have e := List.drop_eq_getElem_cons hk
      have h0 := h2 _ (List.getElem?_eq_getElem hk)
      rw [e] at hy
      rcases List.mem_cons.1 hy with rfl | hy
      · exact h0
      · have := hs.sublist (List.drop_sublist k s)
        rw [e] at this
        have := (List.pairwise_cons.1 this).1 y hy
        omega
    · rw [List.drop_eq_nil_of_le (by omega)] at hy; simp at hy
  refine List.pairwise_append.2 ⟨List.pairwise_append.2 ⟨hs.sublist (List.take_sublist _ _), List.pairwise_singleton _ _, fun a ha b hb => ?_⟩, hs.sublist (List.drop_sublist _ _), fun a ha b hb => ?_⟩
  · rw [List.mem_singleton] at hb; subst hb; exact h1 a ha
  · have hb := hd b hb
    rcases List.mem_append.1 ha with ha | ha
    · have := h1 a ha; omega
    · rw [List.mem_singleton] at ha; subst ha; exact hb
theorem ins_mem (s : List Int) (k : Nat) (y x : Int) : x ∈ s.take k ++ [y] ++ s.drop k ↔ x ∈ s ∨ x = y := by
  have e : x ∈ s ↔ x ∈ s.take k ∨ x ∈ s.drop k := by rw [← List.mem_append, List.take_append_drop]
  rw [e]
  simp only [List.mem_append, List.mem_singleton]
  constructor <;> rintro ((h | h) | h) <;> simp [h]
theorem Blk_in (l : List Pt) (s : List Int) (i : Nat) (hi : i < l.length) (hl : l.length ≤ 1000) (hs : s.length ≤ 1000) (h : Heap) : ∀ (m k : Nat), k + m = s.length → (∀ y ∈ s.take k, y < l[i].b) → ∀ ks Q,
    (∀ k' z, k' ≤ s.length → (∀ y ∈ s.take k', y < l[i].b) → (∀ y, s[k']? = some y → l[i].b ≤ y) → Xk T ks (.x 2) ((0, .ps 2 (Pt.vs l)) :: (3, .ps 1 (ints s)) :: (4, .int .i64 i) :: (5, .int .i64 k') :: z) h Q) →
    Xc T l_ref20_Blocks_0 ks [(0, .ps 2 (Pt.vs l)), (3, .ps 1 (ints s)), (4, .int .i64 i), (5, .int .i64 k)] h Q := by
  intro m
  induction m with
  | zero =>
    intro k hk hlt ks Q hx
    rw [L_ref20_Blocks_0]; unfold bl_ref20_Blocks_0
    have c1 : ¬ (k : Int) < s.length := by omega
    simp (disch := omega) [c1, ints_len]
    exact hx k _ (by omega) hlt (fun y hy => by rw [List.getElem?_eq_none (by omega)] at hy; cases hy)
  | succ m ih =>
    intro k hk hlt ks Q hx
    rw [L_ref20_Blocks_0]; unfold bl_ref20_Blocks_0
    have hks : k < s.length := by omega
    have c1 : (k : Int) < s.length := by omega
    have g1 := pt_at l i hi
    have pc := pt_cells l[i]
    have g2 : (ints s)[k]? = some (.int .i64 s[k]) := by rw [ints_get, List.getElem?_eq_getElem hks]; rfl
    by_cases c2 : s[k] < l[i].b
    · simp (disch := omega) [c1, ints_len, g1, g2, pc, c2]
      have := ih (k + 1) (by omega) (fun y hy => by
        rw [List.take_succ, List.getElem?_eq_getElem hks] at hy
        rcases List.mem_append.1 hy with hy | hy
        · exact hlt y hy
        · simp at hy; subst hy; exact c2) ks Q hx
      simpa using this
    · simp (disch := omega) [c1, ints_len, g1, g2, pc, c2]
      exact hx k _ (by omega) hlt (fun y hy => by rw [List.getElem?_eq_getElem hks] at hy; cases hy; omega)
theorem Blk_out (l : List Pt) (hl : l.length ≤ 1000) (h : Heap) : ∀ (m i : Nat) (s : List Int), i + m = l.length → s.length ≤ i → s.Pairwise (· < ·) → (∀ x, x ∈ s ↔ x ∈ blkOf (l.take i)) → ∀ ks Q,
    (∀ s' z, s'.Pairwise (· < ·) → (∀ x, x ∈ s' ↔ x ∈ blkOf l) → Xk T ks (.x 0) ((0, .ps 2 (Pt.vs l)) :: (3, .ps 1 (ints s')) :: z) h Q) →
    Xc T l_ref20_Blocks_1 ks [(0, .ps 2 (Pt.vs l)), (3, .ps 1 (ints s)), (4, .int .i64 i)] h Q := by
  intro m
  induction m with
  | zero =>
    intro i s hi hsl hs hm ks Q hx
    rw [L_ref20_Blocks_1]; unfold bl_ref20_Blocks_1
    have c1 : ¬ (i : Int) < l.length := by omega
    have e : i = l.length := by omega
    subst e
    rw [List.take_length] at hm
    simp (disch := omega) [c1, pt_len]
    exact hx s _ hs hm
  | succ m ih =>
    intro i s hi hsl hs hm ks Q hx
    rw [L_ref20_Blocks_1]; unfold bl_ref20_Blocks_1
    have hil : i < l.length := by omega
    have c1 : (i : Int) < l.length := by omega
    have g1 := pt_at l i hil
    have pc := pt_cells l[i]
    have bt : blkOf (l.take (i + 1)) = blkOf (l.take i) ++ [l[i].b] := by
      unfold blkOf
      rw [List.take_succ, List.getElem?_eq_getElem hil, List.map_append]; rfl
    simp (disch := omega) [c1, pt_len]
    refine Blk_in l s i hil hl (by omega) h s.length 0 (by omega) (by simp) _ _ fun k z hk h1 h2 => ?_
    by_cases hks : k < s.length
    · have c2 : (k : Int) < s.length := by omega
      have g2 : (ints s)[k]? = some (.int .i64 s[k]) := by rw [ints_get, List.getElem?_eq_getElem hks]; rfl
      by_cases c3 : s[k] = l[i].b
      · simp (disch := omega) [c2, ints_len, g1, g2, pc, c3]
        have := ih (i + 1) s (by omega) (by omega) hs (fun x => by
          rw [bt, List.mem_append, hm x, List.mem_singleton]
          refine ⟨.inl, fun q => q.elim id fun e => ?_⟩
          rw [← hm x, e, ← c3]
          exact List.getElem_mem hks) ks Q hx
        simpa using this
      · simp (disch := omega) [c2, ints_len, g1, g2, pc, c3]
        have := ih (i + 1) (s.take k ++ [l[i].b] ++ s.drop k) (by omega) (by simp; omega) (rising_ins hs h1 (fun y hy => by
          have := h2 y hy
          rw [List.getElem?_eq_getElem hks] at hy
          cases hy
          omega)) (fun x => by
          rw [ins_mem, bt, List.mem_append, ← hm x, List.mem_singleton]) ks Q hx
        simpa [ints, List.map_take, List.map_drop] using this
    · have c2 : ¬ (k : Int) < s.length := by omega
      have ek : k = s.length := by omega
      subst ek
      have e8 : (ints s).take s.length = ints s := List.take_of_length_le (by simp [ints])
      have e9 : (ints s).drop s.length = [] := List.drop_eq_nil_of_le (by simp [ints])
      simp (disch := omega) [c2, ints_len, g1, pc, e8, e9]
      have := ih (i + 1) (s.take s.length ++ [l[i].b] ++ s.drop s.length) (by omega) (by simp; omega) (rising_ins hs h1 (fun y hy => by
          rw [List.getElem?_eq_none (by omega)] at hy
          cases hy)) (fun x => by
          rw [ins_mem, bt, List.mem_append, ← hm x, List.mem_singleton]) ks Q hx
      simpa [ints] using this
theorem Blocks_run (l : List Pt) (hl : l.length ≤ 1000) (h : Heap) : ∃ s, s.Pairwise (· < ·) ∧ (∀ x, x ∈ s ↔ x ∈ blkOf l) ∧ Run T f_ref20_Blocks [.ps 2 (Pt.vs l)] h (.ps 1 (ints s)) h := by
  obtain ⟨v, h', ⟨s, ev, eh, q1, q2⟩, r⟩ := Run.startP (P := fun v h' => ∃ s, v = .ps 1 (ints s) ∧ h' = h ∧ s.Pairwise (· < ·) ∧ ∀ x, x ∈ s ↔ x ∈ blkOf l) (vs := [.ps 2 (Pt.vs l)]) (h := h) t_ref20_Blocks (by
    unfold k_ref20_Blocks
    simp (disch := omega)
    refine Blk_out l hl h l.length 0 [] (by omega) (by simp) .nil (fun x => by simp [blkOf]) _ _ fun s z q1 q2 => ?_
    simp (disch := omega)
    exact ⟨s, rfl, q1, q2⟩)
  subst ev eh
  exact ⟨s, q1, q2, r⟩
theorem RIn_loop (l : List Pt) (n : Int) (hb : l.length ≤ 1000) (h : Heap) : ∀ (m i : Nat), i + m = l.length → ∀ ks Q,
    (n ∉ blkOf (l.drop i) → ∀ z, Xk T ks (.x 0) z h Q) → (n ∈ blkOf (l.drop i) → Xk T ks .r [(4, .bool true)] h Q) →
    Xc T l_ref20_In_0 ks [(0, .ps 2 (Pt.vs l)), (1, .int .i64 n), (5, .int .i64 i)] h Q := by
  intro m
  induction m with
  | zero =>
    intro i hi ks Q h1 h2
    have e : l.drop i = [] := List.drop_eq_nil_of_le (by omega)
    rw [e] at h1
    have c1 : ¬ (i : Int) < l.length := by omega
    rw [L_ref20_In_0]; unfold bl_ref20_In_0
    simp (disch := omega) [c1, pt_len]
    exact h1 (by simp [blkOf]) _
  | succ m ih =>
    intro i hi ks Q h1 h2
    have hil : i < l.length := by omega
    have e := List.drop_eq_getElem_cons hil
    have c1 : (i : Int) < l.length := by omega
    have g1 := pt_at l i hil
    have pc := pt_cells l[i]
    have be : blkOf (l.drop i) = l[i].b :: blkOf (l.drop (i + 1)) := by rw [e]; rfl
    rw [be, List.mem_cons] at h1 h2
    have ih := ih (i + 1) (by omega) ks Q
    rw [show ((i + 1 : Nat) : Int) = (i : Int) + 1 from rfl] at ih
    rw [L_ref20_In_0]; unfold bl_ref20_In_0
    by_cases c2 : l[i].b = n
    · simp (disch := omega) [c1, pt_len, g1, pc, c2]
      exact h2 (.inl c2.symm)
    · simp (disch := omega) [c1, pt_len, g1, pc, c2]
      exact ih (fun q => h1 fun k => k.elim (fun k => c2 k.symm) q) (fun q => h2 (.inr q))
theorem RIn_run (l : List Pt) (n : Int) (hb : l.length ≤ 1000) (h : Heap) : Run T f_ref20_In [.ps 2 (Pt.vs l), .int .i64 n] h (.bool (decide (n ∈ blkOf l))) h := by
  refine Run.start t_ref20_In ?_
  unfold k_ref20_In
  simp (disch := omega)
  have := RIn_loop l n hb h l.length 0 (by omega)
  refine this _ _ (fun h z => ?_) (fun h => ?_)
  · rw [List.drop_zero] at h; simp [h]
  · rw [List.drop_zero] at h; simp [h]
theorem RPl_loop (h : Heap) (a b : List Pt) (hl : a.length = b.length) (hb : a.length < 4611686018427387904) : ∀ (k i : Nat), i + k = a.length → ∀ ks Q,
    (a.drop i = b.drop i → ∀ z, Xk T ks (.x 0) z h Q) → (a.drop i ≠ b.drop i → Xk T ks .r [(4, .bool false)] h Q) →
    Xc T l_ref20_Places_0 ks [(0, .ps 2 (Pt.vs a)), (1, .ps 2 (Pt.vs b)), (5, .int .i64 i)] h Q := by
  intro k
  induction k with
  | zero =>
    intro i hk ks Q h1 h2
    rw [L_ref20_Places_0]; unfold bl_ref20_Places_0
    have c1 : ¬ (i : Int) < a.length := by omega
    have c2 : ¬ (i : Int) < b.length := by omega
    simp (disch := omega) [c1, c2, pt_len]
    exact h1 (by rw [List.drop_eq_nil_of_le (by omega), List.drop_eq_nil_of_le (by omega)]) _
  | succ k ih =>
    intro i hk ks Q h1 h2
    rw [L_ref20_Places_0]; unfold bl_ref20_Places_0
    have ha : i < a.length := by omega
    have hb' : i < b.length := by omega
    have c1 : (i : Int) < a.length := by omega
    have g1 := pt_at a i ha
    have g2 := pt_at b i hb'
    have e1 := List.drop_eq_getElem_cons ha
    have e2 := List.drop_eq_getElem_cons hb'
    have ih := ih (i + 1) (by omega) ks Q
    rw [show ((i + 1 : Nat) : Int) = (i : Int) + 1 from rfl] at ih
    by_cases c : a[i] = b[i]
    · rw [← c] at g2
      obtain ⟨x, hx⟩ : ∃ x, x = a[i] := ⟨_, rfl⟩
      rw [← hx] at g1 g2
      simp (disch := omega) [c1, pt_len, g1, g2, pt_v]
      exact ih (fun q => h1 (by rw [e1, e2, c, q])) (fun q => h2 fun k => q (by rw [e1, e2] at k; exact (List.cons.inj k).2))
    · have c' : ¬ (a[i].b = b[i].b ∧ a[i].k = b[i].k) := fun q => c (by
        have e := q.1; have f := q.2
        revert e f
        generalize a[i] = x
        generalize b[i] = y
        intro e f
        cases x; cases y; exact Pt.mk.injEq .. ▸ ⟨e, f⟩)
      by_cases d : a[i].b = b[i].b
      · have d' : ¬ a[i].k = b[i].k := fun q => c' ⟨d, q⟩
        simp (disch := omega) [c1, pt_len, g1, g2, pt_v, d, d']
        exact h2 fun k => c (by rw [e1, e2] at k; exact (List.cons.inj k).1)
      · simp (disch := omega) [c1, pt_len, g1, g2, pt_v, d]
        exact h2 fun k => c (by rw [e1, e2] at k; exact (List.cons.inj k).1)
theorem RPl_run (a b : List Pt) (h : Heap) (ha : a.length < 4611686018427387904) (hb : b.length < 4611686018427387904) : Run T f_ref20_Places [.ps 2 (Pt.vs a), .ps 2 (Pt.vs b)] h (.bool (decide (a = b))) h := by
  refine Run.start t_ref20_Places ?_
  unfold k_ref20_Places
  simp (disch := omega) [pt_len]
  by_cases c : (a.length : Int) = b.length
  · simp (disch := omega) [c]
    have := RPl_loop h a b (by omega) ha a.length 0 (by omega)
    refine this _ _ (fun q z => ?_) (fun q => ?_)
    · rw [List.drop_zero, List.drop_zero] at q; simp [q]
    · rw [List.drop_zero, List.drop_zero] at q; simp [q]
  · simp (disch := omega) [c]
    intro e; subst e; exact c rfl
theorem Cnt_loop (l : List Pt) (n : Int) (hb : l.length ≤ 1000) : ∀ (m i : Nat) (g : Heap), i + m = l.length → ∀ ks Q,
    (∀ z g', HA g g' → Xk T ks (.x 0) ((1, .int .i64 n) :: (5, .int .i64 (((blkOf l).countP (· == n) : Nat) : Int)) :: z) g' Q) →
    Xc T l_place_Count_0 ks [(1, .int .i64 n), (5, .int .i64 (((blkOf (l.take i)).countP (· == n) : Nat) : Int)), (8, .ps 2 (Pt.vs l)), (9, .int .i64 l.length), (10, .int .i64 i)] g Q := by
  intro m
  induction m with
  | zero =>
    intro i g hi ks Q hx
    rw [L_place_Count_0]; unfold bl_place_Count_0
    have c1 : ¬ (i : Int) < l.length := by omega
    have e : i = l.length := by omega
    subst e
    rw [List.take_length]
    simp (disch := omega)
    exact hx _ g (HA.refl _)
  | succ m ih =>
    intro i g hi ks Q hx
    rw [L_place_Count_0]; unfold bl_place_Count_0
    have hil : i < l.length := by omega
    have c1 : (i : Int) < l.length := by omega
    have g1 := pt_at l i hil
    have pc := pt_cells l[i]
    have bt : blkOf (l.take (i + 1)) = blkOf (l.take i) ++ [l[i].b] := by
      unfold blkOf
      rw [List.take_succ, List.getElem?_eq_getElem hil, List.map_append]; rfl
    have cl : (blkOf (l.take i)).countP (· == n) ≤ i := Nat.le_trans List.countP_le_length (by simp [blkOf]; omega)
    have sp : spliceL [V.int .i64 0, V.int .i64 0] 0 [V.int .i64 l[i].b, V.int .i64 l[i].k] = [V.int .i64 l[i].b, V.int .i64 l[i].k] := rfl
    have ih := ih (i + 1) (g ++ [some [V.int .i64 l[i].b, V.int .i64 l[i].k]]) (by omega) ks Q (fun z g' q => hx z g' ((HA.app _ _).trans q))
    rw [show ((i + 1 : Nat) : Int) = (i : Int) + 1 from rfl, bt, List.countP_append] at ih
    generalize (blkOf (l.take i)).countP (· == n) = C at *
    by_cases c : l[i].b = n
    · simp (disch := omega) [c1, g1, pc, sp, c]
      simp [c] at ih
      exact ih
    · simp (disch := omega) [c1, g1, pc, sp, c]
      simp [c] at ih
      exact ih
theorem Count_run (l : List Pt) (n : Int) (hb : l.length ≤ 1000) (g : Heap) : ∃ g', HA g g' ∧ Run T f_place_Count [.ps 2 (Pt.vs l), .int .i64 n] g (.int .i64 (((blkOf l).countP (· == n) : Nat) : Int)) g' := by
  obtain ⟨v, g', ⟨ev, q⟩, r⟩ := Run.startP (P := fun v g' => v = .int .i64 (((blkOf l).countP (· == n) : Nat) : Int) ∧ HA g g') (vs := [.ps 2 (Pt.vs l), .int .i64 n]) (h := g) t_place_Count (by
    unfold k_place_Count
    simp (disch := omega) [pt_len]
    have := Cnt_loop l n hb l.length 0 g (by omega)
    simp [blkOf] at this
    refine this _ _ fun z g' q => ?_
    simp (disch := omega)
    exact ⟨by simp [blkOf], q⟩)
  subst ev
  exact ⟨g', q, r⟩
section
variable {ks : List Kt} {ops : List AOpr} {K : Kp} {e : Env} {h : Heap} {Q : Ex → Env → Heap → Prop} {d : Nat} {lent : Bool}
theorem RIn_p (l : List Pt) (n : Int) (hb : l.length ≤ 1000) : Xp T f_ref20_In (some ([.ps 2 (Pt.vs l), .int .i64 n], lent)) h (some d) ops K ks e Q = Xo T ops K ks ((d, .bool (decide (n ∈ blkOf l))) :: e) h Q :=
  Xp_run (RIn_run l n hb []) (by simp [pt_hf]) rfl (by simp [scalar])
theorem RPl_p (a b : List Pt) (ha : a.length < 4611686018427387904) (hb : b.length < 4611686018427387904) : Xp T f_ref20_Places (some ([.ps 2 (Pt.vs a), .ps 2 (Pt.vs b)], lent)) h (some d) ops K ks e Q = Xo T ops K ks ((d, .bool (decide (a = b))) :: e) h Q :=
  Xp_run (RPl_run a b [] ha hb) (by simp [pt_hf]) rfl (by simp [scalar])
theorem Count_p (l : List Pt) (n : Int) (hb : l.length ≤ 1000) : Xp T f_place_Count (some ([.ps 2 (Pt.vs l), .int .i64 n], lent)) h (some d) ops K ks e Q = Xo T ops K ks ((d, .int .i64 (((blkOf l).countP (· == n) : Nat) : Int)) :: e) h Q := by
  obtain ⟨g', _, r⟩ := Count_run l n hb []
  exact Xp_run r (by simp [pt_hf]) rfl (by simp [scalar])
end
def pts (l : List Pt) : List V := l.flatMap Pt.cs
theorem pts_len : ∀ (l : List Pt), (pts l).length = l.length * 2
  | [] => rfl
  | x :: r => by
    have := pts_len r
    show (x.cs ++ pts r).length = _
    rw [List.length_append, this]; simp [Pt.cs]; omega
theorem pts_drop : ∀ (l : List Pt) (i : Nat), (pts l).drop (i * 2) = pts (l.drop i)
  | [], i => by simp [pts]
  | x :: r, 0 => by simp
  | x :: r, i + 1 => by
    have h := pts_drop r i
    rw [List.drop_succ_cons]
    show (x.cs ++ pts r).drop ((i + 1) * 2) = pts (r.drop i)
    rw [List.drop_append, List.drop_eq_nil_of_le (by simp [Pt.cs]; omega), List.nil_append, ← h]
    congr 1
    simp [Pt.cs]; omega
theorem pts_take : ∀ (l : List Pt) (i : Nat), (pts l).take (i * 2) = pts (l.take i)
  | [], i => by simp [pts]
  | x :: r, 0 => by simp [pts]
  | x :: r, i + 1 => by
    have h := pts_take r i
    rw [List.take_succ_cons]
    show (x.cs ++ pts r).take ((i + 1) * 2) = x.cs ++ pts (r.take i)
    rw [List.take_append, List.take_of_length_le (by simp [Pt.cs]; omega), ← h]
    congr 2
    simp [Pt.cs]; omega
theorem pts_app (a b : List Pt) : pts (a ++ b) = pts a ++ pts b := by simp [pts]
theorem pts_part (l : List Pt) (i : Nat) (h : i < l.length) : ((pts l).drop (i * 2)).take 2 = l[i].cs := by
  rw [pts_drop, List.drop_eq_getElem_cons h]
  show (l[i].cs ++ pts _).take 2 = _
  exact List.take_left' rfl
theorem pts_set (l : List Pt) (i : Nat) (x : Pt) (h : i < l.length) : spliceL (pts l) (i * 2) x.cs = pts (l.set i x) := by
  unfold spliceL
  have xl : x.cs.length = 2 := rfl
  rw [xl, show i * 2 + 2 = (i + 1) * 2 by omega, pts_take, pts_drop, List.set_eq_take_append_cons_drop, if_pos h, pts_app, List.append_assoc]
  rfl
@[simp] theorem cs_lent (x : Pt) : x.cs.length = 2 := rfl
@[simp] theorem cs_onet (x : Pt) : x.cs.all V.one = true := rfl
theorem flat_vst (l : List Pt) : flat (Pt.vs l) = pts l := by
  simp [flat, Pt.vs, pts, List.flatMap_map, Pt.v, V.cells]
theorem vs_lent (l : List Pt) : (Pt.vs l).length = l.length := by simp [Pt.vs]
@[simp] theorem spl0t (a b : V) (x : Pt) : spliceL [a, b] 0 x.cs = x.cs := by simp [spliceL, Pt.cs]
@[simp] theorem cs_taket (x : Pt) : x.cs.take 2 = x.cs := rfl
/-- A test that turns nothing. -/
structure Pd2t (g0 : Heap) (b f : Nat) (cap : List V) (p : Pt → Bool) : Prop where
  free : T.free f = true
  run : ∀ g, HK g0 g b → ∀ y : Pt, Run T f (.agg y.cs :: cap) g (.bool (p y)) g
/-- Where the first is that passes. -/
def fIx2t (p : Pt → Bool) : List Pt → Nat → Int
  | [], _ => -1
  | y :: r, i => if p y then (i : Int) else fIx2t p r (i + 1)
theorem fIx2_negt (p : Pt → Bool) : ∀ (l : List Pt) (i : Nat), fIx2t p l i = -1 → l.filter (fun y => !p y) = l
  | [], _, _ => rfl
  | y :: r, i, h => by
    by_cases c : p y = true
    · simp only [fIx2t, if_pos c] at h; omega
    · simp only [fIx2t, if_neg c] at h
      have := fIx2_negt p r (i + 1) h
      simp [c, this]
theorem fIx2_att (p : Pt → Bool) : ∀ (l : List Pt) (i : Nat), fIx2t p l i ≠ -1 → ∃ k : Nat, fIx2t p l i = ((i + k : Nat) : Int) ∧ k < l.length ∧ l.filter (fun y => !p y) = l.take k ++ (l.drop (k + 1)).filter (fun y => !p y)
  | [], _, h => absurd rfl h
  | y :: r, i, h => by
    by_cases c : p y = true
    · exact ⟨0, by simp [fIx2t, c], by simp, by simp [c]⟩
    · simp only [fIx2t, if_neg c] at h ⊢
      obtain ⟨k, e1, e2, e3⟩ := fIx2_att p r (i + 1) h
      refine ⟨k + 1, by rw [e1]; congr 1; omega, by simpa using e2, ?_⟩
      simp [c, e3]
theorem tk2_gett {R : List V} {n : Nat} {l : List Pt} (h : R.take (n * 2) = pts l) (i : Nat) (hi : i < n) (hl : i < l.length) : (R.drop (i * 2)).take 2 = l[i].cs := by
  have := pts_part l i hl
  rw [← h, List.drop_take, List.take_take, Nat.min_eq_left (by omega)] at this
  exact this
theorem tk2_sett {R : List V} {n : Nat} {l : List Pt} (h : R.take (n * 2) = pts l) (hl : l.length = n) (hR : n * 2 ≤ R.length) (i : Nat) (hi : i < n) (x : Pt) : (spliceL R (i * 2) x.cs).take (n * 2) = pts (l.set i x) := by
  rw [← pts_set l i x (by omega), ← h]
  unfold spliceL
  simp only [cs_lent]
  rw [List.append_assoc, List.append_assoc, List.take_append, List.length_take, Nat.min_eq_left (by omega), List.take_take, Nat.min_eq_right (by omega), List.take_take, Nat.min_eq_left (by omega), List.take_append, cs_lent, List.take_of_length_le (show x.cs.length ≤ n * 2 - i * 2 by simp; omega), List.drop_take]
  congr 3
section
variable {g0 g : Heap} {b f : Nat} {cap : List V} {p : Pt → Bool}
theorem ixf2_loopt (hp : Pd2t g0 b f cap p) (l : List Pt) (n : Nat) (hn : n ≤ 1000000) (hl : l.length = n) (R : List V) (hR : R.take (n * 2) = pts l) (hRl : n * 2 ≤ R.length) (hk : HK g0 g b) (hr : g.row b = some R) : ∀ (m i : Nat), i + m = n → ∀ ks Q,
    (fIx2t p (l.drop i) i = -1 → ∀ e, Xk T ks (.x 0) e g Q) →
    (fIx2t p (l.drop i) i ≠ -1 → Xk T ks .r [(4, .int .i64 (fIx2t p (l.drop i) i))] g Q) →
    Xc T l_slices_IndexFunc_api_Place_api_Place_0 ks [(0, .hs 2 b 0 n), (1, .fn f cap), (7, .int .i64 n), (8, .int .i64 i)] g Q := by
  have hf := hp.free
  intro m
  induction m with
  | zero =>
    intro i hi ks Q h1 h2
    have e : l.drop i = [] := List.drop_eq_nil_of_le (by omega)
    rw [e] at h1
    have e2 : ¬ (i : Int) < n := by omega
    rw [L_slices_IndexFunc_api_Place_api_Place_0]; unfold bl_slices_IndexFunc_api_Place_api_Place_0
    simp (disch := omega) [e2]
    exact h1 rfl _
  | succ m ih =>
    intro i hi ks Q h1 h2
    have hil : i < l.length := by omega
    have e := List.drop_eq_getElem_cons hil
    rw [e] at h1 h2
    have e1 : (i : Int) < n := by omega
    have g1 := tk2_gett hR i (by omega) hil
    have c2 : i * 2 + 2 ≤ R.length := by omega
    have ih := ih (i + 1) (by omega) ks Q
    rw [show ((i + 1 : Nat) : Int) = (i : Int) + 1 from rfl] at ih
    rw [L_slices_IndexFunc_api_Place_api_Place_0]; unfold bl_slices_IndexFunc_api_Place_api_Place_0
    simp (disch := omega) [e1, hr, g1, hf, c2]
    rw [Xf_run (hp.run g hk _)]
    simp only [fIx2t] at h1 h2
    by_cases c : p l[i] = true
    · rw [if_pos c] at h1 h2
      simp (disch := omega) [c]
      exact h2 (by omega)
    · rw [if_neg c] at h1 h2
      simp (disch := omega) [c]
      exact ih h1 h2
theorem ixf2_runt (hp : Pd2t g0 b f cap p) (l : List Pt) (hn : l.length ≤ 1000000) (R : List V) (hR : R.take (l.length * 2) = pts l) (hRl : l.length * 2 ≤ R.length) (hk : HK g0 g b) (hr : g.row b = some R) : Run T f_slices_IndexFunc_api_Place_api_Place [.hs 2 b 0 l.length, .fn f cap] g (.int .i64 (fIx2t p l 0)) g := by
  refine Run.start t_slices_IndexFunc_api_Place_api_Place ?_
  unfold k_slices_IndexFunc_api_Place_api_Place
  simp (disch := omega)
  have := ixf2_loopt hp l l.length hn rfl R hR hRl hk hr l.length 0 (by omega)
  refine this _ _ (fun h e => ?_) (fun h => ?_)
  · have h : fIx2t p l 0 = -1 := h
    simp [h]
  · have h : ¬ fIx2t p l 0 = -1 := h
    simp [h]
theorem dlf2_loopt (hp : Pd2t g0 b f cap p) (N : Nat) (hN : N ≤ 1000000) : ∀ (m k : Nat), k + m = N → ∀ (i : Nat) (cur : List Pt) (R : List V) (g : Heap), cur.length = N → i ≤ k → R.take (N * 2) = pts cur → N * 2 ≤ R.length → HK g0 g b → g.row b = some R → ∀ ks Q,
    (∀ z g' cur' R', HK g g' b → cur'.length = N → R'.take (N * 2) = pts cur' → N * 2 ≤ R'.length → Heap.row g' b = some R' → i + ((cur.drop k).filter (fun y => !p y)).length ≤ N → cur'.take (i + ((cur.drop k).filter (fun y => !p y)).length) = cur.take i ++ (cur.drop k).filter (fun y => !p y) →
      Xk T ks (.x 0) ((0, .hs 2 b 0 N) :: (1, .fn f cap) :: (5, .int .i64 ((i + ((cur.drop k).filter (fun y => !p y)).length : Nat) : Int)) :: z) g' Q) →
    Xc T l_slices_DeleteFunc_api_Place_api_Place_0 ks [(0, .hs 2 b 0 N), (1, .fn f cap), (5, .int .i64 i), (6, .int .i64 k)] g Q := by
  have hf := hp.free
  intro m
  induction m with
  | zero =>
    intro k hk i cur R g hc hi hR hRl hg hr ks Q hx
    have e : cur.drop k = [] := List.drop_eq_nil_of_le (by omega)
    have e2 : ¬ (k : Int) < N := by omega
    rw [L_slices_DeleteFunc_api_Place_api_Place_0]; unfold bl_slices_DeleteFunc_api_Place_api_Place_0
    simp (disch := omega) [e2]
    have := hx [(6, .int .i64 k), (19, .bool false)] g cur R (HK.refl _ _) hc hR hRl hr (by rw [e]; simp; omega) (by rw [e]; simp)
    rw [e] at this
    simpa using this
  | succ m ih =>
    intro k hk i cur R g hc hi hR hRl hg hr ks Q hx
    have hl : k < cur.length := by omega
    have e := List.drop_eq_getElem_cons hl
    have e1 : (k : Int) < N := by omega
    have g1 := tk2_gett hR k (by omega) hl
    have c2 : k * 2 + 2 ≤ R.length := by omega
    have ih := ih (k + 1) (by omega)
    rw [show ((k + 1 : Nat) : Int) = (k : Int) + 1 from rfl] at ih
    rw [e] at hx
    have jl := hlt hr
    rw [L_slices_DeleteFunc_api_Place_api_Place_0]; unfold bl_slices_DeleteFunc_api_Place_api_Place_0
    have hrA : ∀ x, Heap.row (g ++ [some x]) b = some R := fun x => by rw [row_app jl]; exact hr
    have cx : cur[k].cs = [.int .i64 cur[k].b, .int .i64 cur[k].k] := rfl
    simp (disch := omega) [e1, hr, g1, hf, c2]
    rw [Xf_run (hp.run (g ++ [some cur[k].cs]) (hg.trans (HK.app _ _ _)) _)]
    by_cases c : p cur[k] = true
    · rw [List.filter_cons_of_neg (by simp [c])] at hx
      simp (disch := omega) [c]
      exact ih i cur R _ hc (by omega) hR hRl (hg.trans (HK.app _ _ _)) (hrA _) ks Q (fun z g' cur' R' a1 => hx z g' cur' R' ((HK.app _ _ _).trans a1))
    · rw [List.filter_cons_of_pos (by simp [c])] at hx
      have iR : i * 2 + 2 ≤ R.length := by omega
      have iN : i < N := by omega
      simp (disch := omega) [c, hr, hrA, iR, iN]
      have d1 : (cur.set i cur[k]).drop (k + 1) = cur.drop (k + 1) := List.drop_set_of_lt (by omega)
      have t1 : (cur.set i cur[k]).take (i + 1) = cur.take i ++ [cur[k]] := by
        rw [List.take_succ, List.take_set_of_le (Nat.le_refl _), List.getElem?_set_self (by omega)]; rfl
      have jl2 : b < (g ++ [some cur[k].cs]).length := by simp; omega
      have := ih (i + 1) (cur.set i cur[k]) (spliceL R (i * 2) cur[k].cs) ((g ++ [some cur[k].cs]).set b (some (spliceL R (i * 2) cur[k].cs))) (by simp [hc]) (by omega) (tk2_sett hR hc hRl i iN _) (by simp [spliceL]; omega) ((hg.trans (HK.app _ _ _)).trans (HK.set _ _ _)) (row_set jl2) ks Q (fun z g' cur' R' a1 a2 a3 a4 a5 a6 a7 => by
        rw [d1] at a6 a7 ⊢
        rw [t1] at a7
        simp only [List.length_cons] at hx
        have e1 : i + 1 + ((cur.drop (k + 1)).filter (fun y => !p y)).length = i + (((cur.drop (k + 1)).filter (fun y => !p y)).length + 1) := by omega
        rw [e1] at a6 a7 ⊢
        exact hx z g' cur' R' (((HK.app _ _ _).trans (HK.set _ _ _)).trans a1) a2 a3 a4 a5 a6 (by rw [a7]; simp))
      rw [List.set_append, if_pos jl] at this
      simpa using this
theorem chunkPrt : ∀ l : List Pt, chunk 2 true l.length (pts l) = Pt.vs l
  | [] => rfl
  | x :: l => by
    have ih := chunkPrt l
    show V.agg ((pts (x :: l)).take 2) :: chunk 2 true l.length ((pts (x :: l)).drop 2) = x.v :: Pt.vs l
    have e : pts (x :: l) = x.cs ++ pts l := rfl
    have hl : x.cs.length = 2 := rfl
    rw [e, List.take_left' hl, List.drop_left' hl, ih]
    rfl
theorem fzP (g : Heap) (b : Nat) (R : List V) (F : List Pt) (h9 : Heap.row g b = some R) (h11 : F.length * 2 ≤ R.length) (h10 : R.take (F.length * 2) = pts F) : freeze1 true (.hs 2 b 0 F.length) g = some (.ps 2 (Pt.vs F), g.set b none) := by
  have hc : hsCells g 2 b 0 F.length = some (pts F) := by simp [hsCells, h9, h10, h11]
  have ck : chunkOk 2 true (pts F) = true := by simp [chunkOk]
  simp only [freeze1, hc, Option.bind_some]
  rw [if_pos ck]
  have := chunkPrt F
  rw [this]
theorem dlf2_runt (hp : Pd2t g0 b f cap p) (l : List Pt) (hn : l.length ≤ 1000000) (hne : l ≠ []) (R : List V) (hR : R.take (l.length * 2) = pts l) (hRl : l.length * 2 ≤ R.length) (hk : HK g0 g b) (hr : g.row b = some R) :
    ∃ g', Run T f_slices_DeleteFunc_api_Place_api_Place [.hs 2 b 0 l.length, .fn f cap] g (.ps 2 (Pt.vs (l.filter fun y => !p y))) g' ∧ HK g g' b := by
  obtain ⟨v, h', ⟨ev, hk'⟩, r⟩ := Run.startP (P := fun v g' => v = .ps 2 (Pt.vs (l.filter fun y => !p y)) ∧ HK g g' b) (vs := [.hs 2 b 0 l.length, .fn f cap]) (h := g) t_slices_DeleteFunc_api_Place_api_Place (by
    unfold k_slices_DeleteFunc_api_Place_api_Place
    simp (disch := omega)
    rw [Xf_run (ixf2_runt hp l hn R hR hRl hk hr)]
    by_cases c : fIx2t p l 0 = -1
    · have e := fIx2_negt p l 0 c
      have f := fzP g b R l hr hRl hR
      simp (disch := omega) [c]
      rw [f, e]
      simp only [Option.bind_some, epiP_some]
      exact ⟨rfl, HK.set _ _ _⟩
    · obtain ⟨k, e1, e2, e3⟩ := fIx2_att p l 0 c
      rw [Nat.zero_add] at e1
      have c' : ¬ ((k : Int) = -1) := by omega
      have lp := dlf2_loopt hp l.length hn (l.length - (k + 1)) (k + 1) (by omega) k l R g rfl (by omega) hR hRl hk hr
      rw [show ((k + 1 : Nat) : Int) = (k : Int) + 1 from rfl] at lp
      rw [e1]
      simp (disch := omega) [c']
      refine lp _ _ (fun z g' cur' R' h0 h1 h2 h3 h4 h5 h6 => ?_)
      have hk : (l.filter fun y => !p y) = cur'.take (k + ((l.drop (k + 1)).filter fun y => !p y).length) := by rw [h6, e3]
      have kf : ((l.drop (k + 1)).filter fun y => !p y).length ≤ l.length - (k + 1) := by have := List.length_filter_le (fun y => !p y) (l.drop (k + 1)); rwa [List.length_drop] at this
      generalize hM : k + ((l.drop (k + 1)).filter fun y => !p y).length = M at *
      have hMl : M < l.length := by omega
      have fl : (l.filter fun y => !p y).length = M := by rw [hk, List.length_take]; omega
      have sv1 := slN_lo 2 b l.length M hMl
      have sv2 := slN_hi 2 b l.length M (by omega)
      have cv := clrN g' 2 b (M * 2) (l.length - M) [.int .i64 0, .int .i64 0] R' rfl h4 (by omega)
      have rl : (repZ (l.length - M) [V.int .i64 0, .int .i64 0]).length = (l.length - M) * 2 := by simp [repZ]
      by_cases z0 : M = 0
      · have en : (l.filter fun y => !p y) = [] := List.eq_nil_of_length_eq_zero (by rw [fl, z0])
        rw [if_pos z0] at sv2
        simp (disch := omega) [sv1, sv2, cv, en]
        exact ⟨rfl, h0.trans (HK.set _ _ _)⟩
      · have f := fzP (g'.set b (some (spliceL R' (M * 2) (repZ (l.length - M) [.int .i64 0, .int .i64 0])))) b _ (l.filter fun y => !p y) (row_set (hlt h4)) (by rw [fl]; simp only [spliceL, List.length_append, List.length_take, rl]; omega) (by
          rw [fl]
          unfold spliceL
          rw [List.append_assoc, List.take_left' (by rw [List.length_take]; omega), hk]
          have := congrArg (List.take (M * 2)) h2
          rw [List.take_take, Nat.min_eq_left (by omega)] at this
          rw [this, pts_take])
        rw [fl] at f
        rw [if_neg z0] at sv2
        simp (disch := omega) [sv1, sv2, cv]
        rw [f]
        simp only [Option.bind_some, epiP_some]
        exact ⟨rfl, (h0.trans (HK.set _ _ _)).trans (HK.set _ _ _)⟩)
  subst ev
  exact ⟨h', r, hk'⟩
end
theorem ClonePrt (l : List Pt) (hn : l.length ≤ 1000000) (hl : l ≠ []) (h : Heap) : Run T f_slices_Clone_api_Place_api_Place [.ps 2 (Pt.vs l)] h (.hs 2 h.length 0 l.length) (h ++ [some (pts l)]) := by
  have nc : ∀ h : Heap, newCells h 2 (.ps 2 (Pt.vs l)) = some (pts l) := fun h => by
    simp [newCells, flat_vst]
  have pl := pts_len l
  have vl := vs_lent l
  refine Run.start t_slices_Clone_api_Place_api_Place ?_
  unfold k_slices_Clone_api_Place_api_Place
  simp (disch := omega)
  refine Xc_nilc (fun C => rfl) rfl (v := .ps 2 (Pt.vs l)) (by cases l with | nil => exact absurd rfl hl | cons _ _ => rfl) ?_
  have ne : ¬ pts l = [] := fun e => by
    have := congrArg List.length e
    rw [pl] at this
    have h0 : l.length ≠ 0 := fun z => hl (List.eq_nil_of_length_eq_zero z)
    simp at this; omega
  have dv : (pts l).length / 2 = l.length := by rw [pl]; omega
  simp (disch := omega) [nc, ne, dv]
theorem ClonePr0t (h : Heap) : Run T f_slices_Clone_api_Place_api_Place [.ps 2 (Pt.vs [])] h (.hn 2) h := by
  refine Run.start t_slices_Clone_api_Place_api_Place ?_
  unfold k_slices_Clone_api_Place_api_Place
  simp (disch := omega)
  refine Xc_may (fun C => rfl) rfl rfl .r [(2, .hn 2)] h ?_ ?_ ?_
  · simp (disch := omega)
  · simp (disch := omega) [Pt.vs]
  · simp (disch := omega)
theorem Free1_run (g : Heap) (A B : Nat) (bad U : List Int) (hA : g.row A = some [.ps 1 (ints bad)]) (hB : g.row B = some [.ps 1 (ints U)]) (h1 : bad.length ≤ 1000) (h2 : U.length ≤ 1000) (y : Int) :
    Run T f_place_Free_1 [.int .i64 y, .ptr A 0, .ptr B 0] g (.bool (decide (y ∈ bad) || decide (y ∈ U))) g := by
  refine Run.start t_place_Free_1 ?_
  unfold k_place_Free_1
  simp (disch := omega) [hA]
  rw [Contains_p bad y (by omega)]
  by_cases c : y ∈ bad
  · simp (disch := omega) [c]
  · simp (disch := omega) [c, hB]
    rw [Contains_p U y (by omega)]
    simp (disch := omega) [c]
theorem Stuck1_run (g : Heap) (A : Nat) (bad : List Int) (hA : g.row A = some [.ps 1 (ints bad)]) (h1 : bad.length ≤ 1000) (y : Pt) :
    Run T f_place_Stuck_1 [.agg y.cs, .ptr A 0] g (.bool (!decide (y.b ∈ bad))) g := by
  have yc : y.cs = [.int .i64 y.b, .int .i64 y.k] := rfl
  refine Run.start t_place_Stuck_1 ?_
  unfold k_place_Stuck_1
  simp (disch := omega) [hA, yc]
  rw [Contains_p bad y.b (by omega)]
  simp (disch := omega)
theorem DelI0 (f : Nat) (cap : List V) (h : Heap) : Run T f_slices_DeleteFunc_int_int [.hn 1, .fn f cap] h (.ps 1 []) h := by
  have ix : Run T f_slices_IndexFunc_int_int [.hn 1, .fn f cap] h (.int .i64 (-1)) h := by
    refine Run.start t_slices_IndexFunc_int_int ?_
    unfold k_slices_IndexFunc_int_int
    simp (disch := omega)
    rw [L_slices_IndexFunc_int_int_0]; unfold bl_slices_IndexFunc_int_int_0
    simp (disch := omega)
  refine Run.start t_slices_DeleteFunc_int_int ?_
  unfold k_slices_DeleteFunc_int_int
  simp (disch := omega)
  rw [Xf_run ix]
  simp (disch := omega)
theorem DelP0 (f : Nat) (cap : List V) (h : Heap) : Run T f_slices_DeleteFunc_api_Place_api_Place [.hn 2, .fn f cap] h (.ps 2 []) h := by
  have ix : Run T f_slices_IndexFunc_api_Place_api_Place [.hn 2, .fn f cap] h (.int .i64 (-1)) h := by
    refine Run.start t_slices_IndexFunc_api_Place_api_Place ?_
    unfold k_slices_IndexFunc_api_Place_api_Place
    simp (disch := omega)
    rw [L_slices_IndexFunc_api_Place_api_Place_0]; unfold bl_slices_IndexFunc_api_Place_api_Place_0
    simp (disch := omega)
  refine Run.start t_slices_DeleteFunc_api_Place_api_Place ?_
  unfold k_slices_DeleteFunc_api_Place_api_Place
  simp (disch := omega)
  rw [Xf_run ix]
  simp (disch := omega)
theorem row_at (g w : Heap) (x : Option (List V)) (i : Nat) (hi : i = g.length) : Heap.row (g ++ x :: w) i = x := by
  subst hi
  unfold Heap.row
  rw [List.getElem?_append_right (Nat.le_refl _), Nat.sub_self]; rfl
theorem Stuck_run (g0 : Heap) (l : List Pt) (bad : List Int) (hl : l.length ≤ 1000) (hb : bad.length ≤ 1000) : ∃ g', HA g0 g' ∧ Run T f_place_Stuck [.ps 2 (Pt.vs l), .ps 1 (ints bad)] g0 (.ps 2 (Pt.vs (l.filter fun y => decide (y.b ∈ bad)))) g' := by
  by_cases c : l = []
  · subst c
    refine ⟨g0 ++ [some [.ps 1 (ints bad)]], HA.app _ _, ?_⟩
    refine Run.start t_place_Stuck ?_
    unfold k_place_Stuck
    simp (disch := omega)
    rw [Xf_run (ClonePr0t _)]
    simp (disch := omega)
    rw [Xf_run (DelP0 _ _ _)]
    simp (disch := omega) [Pt.vs]
  · have hr : Heap.row (g0 ++ [some [V.ps 1 (ints bad)]] ++ [some (pts l)]) (g0 ++ [some [V.ps 1 (ints bad)]]).length = some (pts l) := row_new
    have hp : Pd2t (g0 ++ [some [V.ps 1 (ints bad)]] ++ [some (pts l)]) (g0 ++ [some [V.ps 1 (ints bad)]]).length f_place_Stuck_1 [V.ptr g0.length 0] (fun y => !decide (y.b ∈ bad)) := by
      refine ⟨rfl, fun g hg y => ?_⟩
      have hA : g.row g0.length = some [.ps 1 (ints bad)] := by
        rw [hg.2 g0.length (by simp) (by simp)]
        rw [List.append_assoc]
        exact row_at _ _ _ _ rfl
      exact Stuck1_run g g0.length bad hA hb y
    have pl := pts_len l
    obtain ⟨g', r, hk⟩ := dlf2_runt hp l (by omega) c (pts l) (List.take_of_length_le (by omega)) (by omega) (HK.refl _ _) hr
    refine ⟨g', (((HA.app _ _).trans (HA.app _ _))).hk (by simp) hk, ?_⟩
    refine Run.start t_place_Stuck ?_
    unfold k_place_Stuck
    simp (disch := omega)
    rw [Xf_run (ClonePrt l (by omega) c _)]
    simp (disch := omega)
    simp at r
    rw [Xf_run r]
    simp (disch := omega)
theorem Free_run (g0 : Heap) (all bad : List Int) (l : List Pt) (hl : l.length ≤ 60) (ha : all.length ≤ 1000) (hb : bad.length ≤ 1000) : ∃ g', HA g0 g' ∧ Run T f_place_Free [.ps 1 (ints all), .ps 1 (ints bad), .ps 2 (Pt.vs l)] g0 (.ps 1 (ints (all.filter fun y => !(decide (y ∈ bad) || decide (y ∈ blkOf l))))) g' := by
  obtain ⟨U, g1, u1, u2, u3, u4, ru⟩ := Used_run l hl (g0 ++ [some [.ps 1 (ints bad)]])
  have ue : ∀ y : Int, decide (y ∈ blkOf l) = decide (y ∈ U) := fun y => decide_eq_decide.2 (u2 y).symm
  have ul : U.length ≤ 1000 := by omega
  simp only [ue]
  have rA : g1.row g0.length = some [.ps 1 (ints bad)] := by
    rw [u3.2 g0.length (by simp)]
    exact row_at _ _ _ _ rfl
  have h1 := u3.1
  simp at h1
  obtain ⟨g2, hg2⟩ : ∃ g2, g2 = g1 ++ [some [.ps 1 (ints U)]] := ⟨_, rfl⟩
  have rB : g2.row g1.length = some [.ps 1 (ints U)] := by rw [hg2]; exact row_at _ _ _ _ rfl
  have rA2 : g2.row g0.length = some [.ps 1 (ints bad)] := by rw [hg2, row_app (by omega)]; exact rA
  have l2 : g2.length = g1.length + 1 := by rw [hg2]; simp
  have e2 : List.set (g1 ++ [some [V.ps 1 []]]) g1.length (some [V.ps 1 (ints U)]) = g2 := by
    rw [hg2, List.set_append, if_neg (by omega), Nat.sub_self]; rfl
  have h02 : HA g0 g2 := ((HA.app _ _).trans u3).trans (by rw [hg2]; exact HA.app _ _)
  by_cases c : all = []
  · subst c
    refine ⟨g2, h02, ?_⟩
    refine Run.start t_place_Free ?_
    unfold k_place_Free
    simp (disch := omega)
    rw [Xf_run ru]
    simp (disch := omega) [spliceL]
    rw [← hg2, Xf_run (show Run T f_slices_Clone_int_int [.ps 1 (ints [])] g2 (.hn 1) g2 from Clone_nil _)]
    simp (disch := omega)
    rw [Xf_run (DelI0 _ _ _)]
    simp (disch := omega) [ints]
  · have hr : Heap.row (g2 ++ [some (ints all)]) g2.length = some (ints all) := row_new
    have hp : Pd (g2 ++ [some (ints all)]) g2.length f_place_Free_1 [V.ptr g0.length 0, V.ptr g1.length 0] (fun y => decide (y ∈ bad) || decide (y ∈ U)) := by
      refine ⟨rfl, fun g hg y => ?_⟩
      have hA : g.row g0.length = some [.ps 1 (ints bad)] := by
        rw [hg.2 g0.length (by omega) (by simp; omega), row_app (by omega)]
        exact rA2
      have hB : g.row g1.length = some [.ps 1 (ints U)] := by
        rw [hg.2 g1.length (by omega) (by simp; omega), row_app (by omega)]
        exact rB
      exact Free1_run g _ _ bad U hA hB hb ul y
    have il := ints_len all
    obtain ⟨g', r, hk⟩ := dlfP_run hp all (by omega) c (ints all) (List.take_of_length_le (by omega)) (by omega) (HK.refl _ _) hr
    refine ⟨g', (h02.trans (HA.app _ _)).hk (by omega) hk, ?_⟩
    refine Run.start t_place_Free ?_
    unfold k_place_Free
    simp (disch := omega)
    rw [Xf_run ru]
    simp (disch := omega) [spliceL]
    rw [← hg2, Xf_run (Clone_int all (by omega) c _)]
    simp (disch := omega)
    simp at r
    rw [Xf_run r]
    simp (disch := omega)
theorem awake20 : ∃ h', Run T f_law20_awake [] [] (.bool true) h' := Run.closed (n := 300) (by kernel_rfl)
section
variable {ks : List Kt} {ops : List AOpr} {K : Kp} {e : Env} {h : Heap} {Q : Ex → Env → Heap → Prop} {d : Nat} {lent : Bool}
theorem awake20_p : Xp T f_law20_awake (some ([], lent)) h (some d) ops K ks e Q = Xo T ops K ks ((d, .bool true) :: e) h Q := by
  obtain ⟨h', r⟩ := awake20
  exact Xp_run r rfl rfl (by simp [scalar])
end
theorem take_s {α : Type} (l : List α) (i : Nat) (h : i < l.length) : l.take (i + 1) = l.take i ++ [l[i]] := by
  rw [List.take_succ, List.getElem?_eq_getElem h]; rfl
def stk (l : List Pt) (bad : List Int) : List Pt := l.filter fun y => decide (y.b ∈ bad)
def fre (all bad : List Int) (l : List Pt) : List Int := all.filter fun y => !(decide (y ∈ bad) || decide (y ∈ blkOf l))
theorem law_p0 (l : List Pt) (all bad : List Int) (n : Int) (hl : l.length ≤ 60) (hb : bad.length ≤ 20) (h : Heap) : ∀ (m i : Nat), i + m = l.length → ∀ ks Q,
    (∀ z, Xk T ks (.x 0) ((3, .ps 2 (Pt.vs l)) :: (4, .ps 1 (ints all)) :: (5, .ps 1 (ints bad)) :: (6, .int .i64 n) :: (7, .int .i64 (((blkOf l).countP (· == n) : Nat) : Int)) :: (8, .ps 2 (Pt.vs (stk l bad))) :: z) h Q) →
    Xc T l_law20_PlaceCounts_0 ks [(3, .ps 2 (Pt.vs l)), (4, .ps 1 (ints all)), (5, .ps 1 (ints bad)), (6, .int .i64 n), (7, .int .i64 (((blkOf (l.take i)).countP (· == n) : Nat) : Int)), (8, .ps 2 (Pt.vs (stk (l.take i) bad))), (9, .int .i64 i)] h Q := by
  intro m
  induction m with
  | zero =>
    intro i hi ks Q hx
    have c1 : ¬ (i : Int) < l.length := by omega
    have e : i = l.length := by omega
    subst e
    rw [List.take_length, L_law20_PlaceCounts_0]; unfold bl_law20_PlaceCounts_0
    simp (disch := omega) [c1, pt_len]
    exact hx _
  | succ m ih =>
    intro i hi ks Q hx
    have hil : i < l.length := by omega
    have c1 : (i : Int) < l.length := by omega
    have g1 := pt_at l i hil
    have pc := pt_cells l[i]
    have ih := ih (i + 1) (by omega) ks Q hx
    have cl : (blkOf (l.take i)).countP (· == n) ≤ i := Nat.le_trans List.countP_le_length (by simp [blkOf]; omega)
    have bt : blkOf (l.take i ++ [l[i]]) = blkOf (l.take i) ++ [l[i].b] := List.map_append
    have st : stk (l.take i ++ [l[i]]) bad = stk (l.take i) bad ++ if l[i].b ∈ bad then [l[i]] else [] := by
      unfold stk
      rw [List.filter_append]
      congr 1
      by_cases c : l[i].b ∈ bad <;> simp [c]
    rw [show ((i + 1 : Nat) : Int) = (i : Int) + 1 from rfl, take_s l i hil, bt, st, List.countP_append] at ih
    have sl : (stk (l.take i) bad).length ≤ 60 := Nat.le_trans (List.length_filter_le _ _) (by rw [List.length_take]; omega)
    generalize (blkOf (l.take i)).countP (· == n) = C at *
    generalize stk (l.take i) bad = S at *
    have sb : (S.length + 1) * 16 ≤ 140737488355328 := by omega
    have va : ∀ s t : List Pt, Pt.vs (s ++ t) = Pt.vs s ++ Pt.vs t := fun s t => by simp [Pt.vs]
    have pv : Pt.vs [l[i]] = [.agg [.int .i64 l[i].b, .int .i64 l[i].k]] := rfl
    have pa : l[i].v = .agg [.int .i64 l[i].b, .int .i64 l[i].k] := rfl
    rw [L_law20_PlaceCounts_0]; unfold bl_law20_PlaceCounts_0
    have hp := fun {ks ops K e h Q d lent} x => Has_p (ks := ks) (ops := ops) (K := K) (e := e) (h := h) (Q := Q) (d := d) (lent := lent) bad x (by omega)
    by_cases c2 : l[i].b = n
    · by_cases c3 : l[i].b ∈ bad
      · have c4 : n ∈ bad := c2 ▸ c3
        simp [va, pv, c2, c4] at ih
        simp (disch := omega) [c1, pt_len, g1, pc, c2, hp, c4, sb]
        exact ih
      · have c4 : ¬ n ∈ bad := c2 ▸ c3
        simp [c2, c4] at ih
        simp (disch := omega) [c1, pt_len, g1, pc, c2, hp, c4, sb]
        exact ih
    · by_cases c3 : l[i].b ∈ bad
      · simp [c2, c3, va, pv] at ih
        simp (disch := omega) [c1, pt_len, g1, pc, c2, hp, c3, sb]
        exact ih
      · simp [c2, c3] at ih
        simp (disch := omega) [c1, pt_len, g1, pc, c2, hp, c3, sb]
        exact ih
theorem law_p1 (l : List Pt) (all bad : List Int) (n c : Int) (s : List Pt) (hl : l.length ≤ 60) (ha : all.length ≤ 60) (hb : bad.length ≤ 20) (h : Heap) : ∀ (m i : Nat), i + m = all.length → ∀ ks Q,
    (∀ z, Xk T ks (.x 2) ((3, .ps 2 (Pt.vs l)) :: (4, .ps 1 (ints all)) :: (5, .ps 1 (ints bad)) :: (6, .int .i64 n) :: (7, .int .i64 c) :: (8, .ps 2 (Pt.vs s)) :: (10, .ps 1 (ints (fre all bad l))) :: z) h Q) →
    Xc T l_law20_PlaceCounts_1 ks [(3, .ps 2 (Pt.vs l)), (4, .ps 1 (ints all)), (5, .ps 1 (ints bad)), (6, .int .i64 n), (7, .int .i64 c), (8, .ps 2 (Pt.vs s)), (10, .ps 1 (ints (fre (all.take i) bad l))), (11, .int .i64 i)] h Q := by
  intro m
  induction m with
  | zero =>
    intro i hi ks Q hx
    have c1 : ¬ (i : Int) < all.length := by omega
    have e : i = all.length := by omega
    subst e
    rw [List.take_length, L_law20_PlaceCounts_1]; unfold bl_law20_PlaceCounts_1
    simp (disch := omega) [c1, ints_len]
    exact hx _
  | succ m ih =>
    intro i hi ks Q hx
    have hil : i < all.length := by omega
    have c1 : (i : Int) < all.length := by omega
    have g1 : (ints all)[i]? = some (.int .i64 all[i]) := by rw [ints_get, List.getElem?_eq_getElem hil]; rfl
    have ih := ih (i + 1) (by omega) ks Q hx
    have st : fre (all.take i ++ [all[i]]) bad l = fre (all.take i) bad l ++ if all[i] ∈ bad ∨ all[i] ∈ blkOf l then [] else [all[i]] := by
      unfold fre
      rw [List.filter_append]
      congr 1
      by_cases c : all[i] ∈ bad <;> by_cases d : all[i] ∈ blkOf l <;> simp [c, d]
    rw [show ((i + 1 : Nat) : Int) = (i : Int) + 1 from rfl, take_s all i hil, st] at ih
    have sl : (fre (all.take i) bad l).length ≤ 60 := Nat.le_trans (List.length_filter_le _ _) (by rw [List.length_take]; omega)
    generalize fre (all.take i) bad l = S at *
    have sb : (S.length + 1) * 8 ≤ 140737488355328 := by omega
    generalize all[i] = x at *
    have va : ints (S ++ [x]) = ints S ++ [.int .i64 x] := by simp [ints]
    rw [L_law20_PlaceCounts_1]; unfold bl_law20_PlaceCounts_1
    have hp := fun {ks ops K e h Q d lent} x => Has_p (ks := ks) (ops := ops) (K := K) (e := e) (h := h) (Q := Q) (d := d) (lent := lent) bad x (by omega)
    have ip := fun {ks ops K e h Q d lent} x => RIn_p (ks := ks) (ops := ops) (K := K) (e := e) (h := h) (Q := Q) (d := d) (lent := lent) l x (by omega)
    by_cases c2 : x ∈ bad
    · simp [c2] at ih
      simp (disch := omega) [c1, ints_len, g1, hp, c2]
      exact ih
    · by_cases c3 : x ∈ blkOf l
      · simp [c2, c3] at ih
        simp (disch := omega) [c1, ints_len, g1, hp, ip, c2, c3, sb]
        exact ih
      · simp [c2, c3, va] at ih
        simp (disch := omega) [c1, ints_len, g1, hp, ip, c2, c3, sb]
        exact ih
theorem stk_len (l : List Pt) (bad : List Int) : (stk l bad).length ≤ l.length := List.length_filter_le _ _
theorem fre_len (all bad : List Int) (l : List Pt) : (fre all bad l).length ≤ all.length := List.length_filter_le _ _
theorem PlaceCounts_run (l : List Pt) (all bad : List Int) (n : Int) (hl : l.length < 4611686018427387904) (ha : all.length < 4611686018427387904) (hb : bad.length < 4611686018427387904) :
    ∃ h', Run T f_law20_PlaceCounts [.agg [.ps 2 (Pt.vs l), .ps 1 (ints all), .ps 1 (ints bad), .int .i64 n]] [] (.bool true) h' := by
  by_cases c : l.length ≤ 60 ∧ all.length ≤ 60 ∧ bad.length ≤ 20
  · obtain ⟨c1, c2, c3⟩ := c
    have d1 : ¬ (60 : Int) < l.length := by omega
    have d2 : ¬ (60 : Int) < all.length := by omega
    have d3 : ¬ (20 : Int) < bad.length := by omega
    obtain ⟨B, b1, b2, rb⟩ := Blocks_run l (by omega) []
    refine Run.startE t_law20_PlaceCounts ?_
    unfold k_law20_PlaceCounts
    simp (disch := omega) [pt_len, ints_len, d1, d2, d3, c1, c2, c3]
    refine law_p0 l all bad n c1 c3 _ l.length 0 (by omega) _ _ fun z => ?_
    simp (disch := omega)
    refine law_p1 l all bad n _ _ c1 c2 c3 _ all.length 0 (by omega) _ _ fun z => ?_
    simp (disch := omega) [awake20_p]
    obtain ⟨U, g1, u1, u2, _, u4, ru⟩ := Used_run l c1 [some [V.ps 2 (Pt.vs l), V.ps 1 (ints all), V.ps 1 (ints bad), V.int IntKind.i64 n]]
    have ub : U = B := rising_eq U B u1 b1 fun x => (u2 x).trans (b2 x).symm
    subst ub
    rw [Xf_run ru]
    simp (disch := omega)
    rw [Xp_run rb (by simp [pt_hf]) (by simp [ints_hfs]) (by simp)]
    simp (disch := omega)
    rw [Ints_p U U (by omega)]
    simp (disch := omega)
    rw [Count_p l n (by omega)]
    simp (disch := omega)
    obtain ⟨g2, _, rf⟩ := Free_run g1 all bad l c1 (by omega) (by omega)
    rw [Xf_run rf]
    simp (disch := omega)
    have fl := fre_len all bad l
    rw [show all.filter (fun y => !decide (y ∈ bad) && !decide (y ∈ blkOf l)) = fre all bad l from by simp [fre]]
    rw [Ints_p _ _ (by omega)]
    simp (disch := omega)
    obtain ⟨g3, _, rs⟩ := Stuck_run g2 l bad (by omega) (by omega)
    rw [Xf_run rs]
    simp (disch := omega)
    have sl := stk_len l bad
    rw [show l.filter (fun y => decide (y.b ∈ bad)) = stk l bad from rfl]
    rw [RPl_p _ _ (by omega) (by omega)]
    simp (disch := omega)
  · refine Run.startE t_law20_PlaceCounts ?_
    unfold k_law20_PlaceCounts
    by_cases d1 : (60 : Int) < l.length
    · simp (disch := omega) [pt_len, ints_len, d1, awake20_p]
    · by_cases d2 : (60 : Int) < all.length
      · simp (disch := omega) [pt_len, ints_len, d1, d2, awake20_p]
      · have d3 : (20 : Int) < bad.length := by omega
        simp (disch := omega) [pt_len, ints_len, d1, d2, d3, awake20_p]
theorem Ty.pts {b : Nat} {x : V} (h : Ty (.sl true b [.i .i64, .i .i64]) x) (hb : 0 < b) : ∃ l : List Pt, x = .ps 2 (Pt.vs l) ∧ l.length ≤ 140737488351232 := by
  cases h with
  | sl ag b es xs hn hs ha ho k =>
    have one : ∀ i (hi : i < xs.length), ∃ p : Pt, xs[i] = p.v := fun i hi => by
      obtain ⟨vs, hv⟩ := ha xs[i] (List.getElem_mem _) rfl
      have hl := hs xs[i] (List.getElem_mem _)
      rw [hv] at hl
      have k0 := k i hi 0 (by simp) (by rw [hv]; simpa [V.cells] using (by simpa [V.cells] using hl : vs.length = 2) ▸ (by omega : 0 < 2))
      have k1 := k i hi 1 (by simp) (by rw [hv]; simpa [V.cells] using (by simpa [V.cells] using hl : vs.length = 2) ▸ (by omega : 1 < 2))
      simp only [hv] at k0 k1
      match vs, hl, hv, k0, k1 with
      | [a, c], _, hv, k0, k1 =>
        simp only [V.cells, List.getElem_cons_zero, List.getElem_cons_succ] at k0 k1
        obtain ⟨m, rfl, _⟩ := k0.int
        obtain ⟨n, rfl, _⟩ := k1.int
        exact ⟨⟨m, n⟩, hv⟩
    have all : ∀ k, k ≤ xs.length → ∃ l : List Pt, Pt.vs l = xs.take k := by
      intro k
      induction k with
      | zero => exact fun _ => ⟨[], by simp [Pt.vs]⟩
      | succ k ih =>
        intro hk
        obtain ⟨l, h1⟩ := ih (by omega)
        obtain ⟨p, h3⟩ := one k (by omega)
        refine ⟨l ++ [p], ?_⟩
        rw [List.take_succ, List.getElem?_eq_getElem (by omega), ← h1, h3]; simp [Pt.vs]
    obtain ⟨l, h1⟩ := all xs.length (Nat.le_refl _)
    rw [List.take_length] at h1
    refine ⟨l, by rw [h1]; rfl, ?_⟩
    have e : l.length = xs.length := by rw [← h1]; simp [Pt.vs]
    rw [e]
    exact Nat.le_trans (Nat.le_mul_of_pos_right _ hb) hn
theorem law_PlaceCounts (x0 : V) (h0 : ∃ vs, x0 = .agg vs ∧ Row [.sl true 16 [.i .i64, .i .i64], .sl false 8 [.i .i64], .sl false 8 [.i .i64], .i .i64] vs) : ∃ h', Run T f_law20_PlaceCounts [x0] [] (.bool true) h' := by
  obtain ⟨vs, rfl, hr⟩ := h0
  obtain ⟨v1, r1, rfl, t1, hr⟩ := hr.cons
  obtain ⟨v2, r2, rfl, t2, hr⟩ := hr.cons
  obtain ⟨v3, r3, rfl, t3, hr⟩ := hr.cons
  obtain ⟨v4, r4, rfl, t4, hr⟩ := hr.cons
  rw [hr.none]
  obtain ⟨l, rfl, hl⟩ := t1.pts (by omega)
  obtain ⟨a, rfl, ha, _⟩ := t2.ints
  obtain ⟨b, rfl, hb, _⟩ := t3.ints
  obtain ⟨n, rfl, _⟩ := t4.int
  exact PlaceCounts_run l a b n (by omega) (by omega) (by omega)
end Ev
