/- Small functions of the reference: equal lists, membership. Each theorem states its own conditions. -/
import Derived.Test.YtkhahjmicpigoaaCCode
set_option linter.all false
namespace Ev
open Go
set_option maxRecDepth 10000
def isTrue : Option (V × Heap) → Bool
  | some (.bool true, _) => true
  | _ => false
theorem Run.closed {T : Table} {f n : Nat} (h : isTrue (run T n f [] []) = true) : ∃ h', Run T f [] [] (.bool true) h' := by
  cases hr : run T n f [] [] with
  | none => rw [hr] at h; cases h
  | some r =>
    obtain ⟨v, h'⟩ := r
    rw [hr] at h
    cases v with
    | bool b => cases b with
      | true => exact ⟨h', n, hr⟩
      | false => cases h
    | _ => cases h
theorem Ints_loop (h : Heap) (a b : List Int) (hl : a.length = b.length) (hb : a.length < 4611686018427387904) : ∀ (k i : Nat), i + k = a.length → ∀ ks Q,
    (a.drop i = b.drop i → Xk T ks (.x 0) [(0, .ps 1 (ints a)), (1, .ps 1 (ints b)), (5, .int .i64 a.length), (14, .bool false)] h Q) →
    (a.drop i ≠ b.drop i → Xk T ks .r [(4, .bool false)] h Q) →
    Xc T l_ref01_Ints_0 ks [(0, .ps 1 (ints a)), (1, .ps 1 (ints b)), (5, .int .i64 i)] h Q := by
  intro k
  induction k with
  | zero =>
    intro i hk ks Q h1 h2
    rw [L_ref01_Ints_0]; unfold bl_ref01_Ints_0
    have e0 : i = a.length := by omega
    subst e0
    simp (disch := omega) [ints_len]
    exact h1 (by simp [hl])
  | succ k ih =>
    intro i hk ks Q h1 h2
    rw [L_ref01_Ints_0]; unfold bl_ref01_Ints_0
    have e1 : i < a.length := by omega
    have e2 : i < b.length := by omega
    have e3 : (i : Int) < a.length := by omega
    have da : a.drop i = a[i] :: a.drop (i + 1) := List.drop_eq_getElem_cons e1
    have db : b.drop i = b[i] :: b.drop (i + 1) := List.drop_eq_getElem_cons e2
    simp (disch := omega) [ints_len, ints_get, e3, List.getElem?_eq_getElem e1, List.getElem?_eq_getElem e2]
    apply Xb_decn
    · intro hne
      simp (disch := omega)
      exact h2 (by rw [da, db]; intro hh; exact hne (List.cons.inj hh).1)
    · intro he
      simp (disch := omega)
      have := ih (i + 1) (by omega) ks Q (fun hh => h1 (by rw [da, db, he, hh])) (fun hh => h2 (by rw [da, db]; intro q; exact hh (List.cons.inj q).2))
      simpa using this
theorem Ints_run (a b : List Int) (h : Heap) (ha : a.length < 4611686018427387904) : Run T f_ref01_Ints [.ps 1 (ints a), .ps 1 (ints b)] h (.bool (decide (a = b))) h := by
  refine Run.start t_ref01_Ints ?_
  unfold k_ref01_Ints
  simp (disch := omega) [ints_len]
  apply Xb_decn
  · intro hne
    have : a ≠ b := fun hh => hne (by rw [hh])
    simp (disch := omega) [this]
  · intro he
    simp (disch := omega)
    have := Ints_loop h a b (by omega) ha a.length 0 (by omega)
    simp at this
    refine this _ _ (fun hh => ?_) (fun hh => ?_)
    · simp (disch := omega) [hh]
    · simp (disch := omega) [hh]
theorem Has_loop (h : Heap) (l : List Int) (x : Int) (hb : l.length < 4611686018427387904) : ∀ (k i : Nat), i + k = l.length → ∀ ks Q,
    (x ∉ l.drop i → Xk T ks (.x 0) [(0, .ps 1 (ints l)), (1, .int .i64 x), (5, .int .i64 l.length), (9, .bool false)] h Q) →
    (x ∈ l.drop i → Xk T ks .r [(4, .bool true)] h Q) →
    Xc T l_ref13_Has_0 ks [(0, .ps 1 (ints l)), (1, .int .i64 x), (5, .int .i64 i)] h Q := by
  intro k
  induction k with
  | zero =>
    intro i hk ks Q h1 h2
    rw [L_ref13_Has_0]; unfold bl_ref13_Has_0
    have e0 : i = l.length := by omega
    subst e0
    simp (disch := omega) [ints_len]
    exact h1 (by simp)
  | succ k ih =>
    intro i hk ks Q h1 h2
    rw [L_ref13_Has_0]; unfold bl_ref13_Has_0
    have e1 : i < l.length := by omega
    have e3 : (i : Int) < l.length := by omega
    have da : l.drop i = l[i] :: l.drop (i + 1) := List.drop_eq_getElem_cons e1
    simp (disch := omega) [ints_len, ints_get, e3, List.getElem?_eq_getElem e1]
    apply Xb_dec
    · intro he
      simp (disch := omega)
      exact h2 (by rw [da, he]; simp)
    · intro hne
      simp (disch := omega)
      have := ih (i + 1) (by omega) ks Q (fun hh => h1 (by rw [da, List.mem_cons]; exact fun q => q.elim (fun q => hne q.symm) hh)) (fun hh => h2 (by rw [da, List.mem_cons]; exact .inr hh))
      simpa using this
theorem Has_run (l : List Int) (x : Int) (h : Heap) (hb : l.length < 4611686018427387904) : Run T f_ref13_Has [.ps 1 (ints l), .int .i64 x] h (.bool (decide (x ∈ l))) h := by
  refine Run.start t_ref13_Has ?_
  unfold k_ref13_Has
  simp (disch := omega)
  have := Has_loop h l x hb l.length 0 (by omega)
  simp at this
  refine this _ _ (fun hh => ?_) (fun hh => ?_)
  · simp (disch := omega) [hh]
  · simp (disch := omega) [hh]
end Ev
