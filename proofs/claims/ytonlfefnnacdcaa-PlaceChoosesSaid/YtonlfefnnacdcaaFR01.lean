/- Small functions of the reference: equal lists, membership. Each theorem states its own conditions. -/
import Derived.Test.YtonlfefnnacdcaaFCode
set_option linter.all false
namespace Ev
open Go
set_option maxRecDepth 10000
def isTrue : Option (V × Heap) → Bool
  | some (.bool true, _) => true
  | _ => false
theorem Run.closed {T : Table} {f n : Nat} (h : isTrue (run T n f [] []) = true) : ∃ h', Run T f [] [] (.bool true) h' := by
  cases hr : run T n f [] [] with
  | none => rw [hr] at h; cases h
  | some r =>
    obtain ⟨v, h'⟩ := r
    rw [hr] at h
    cases v with
    | bool b => cases b with
      | true => exact ⟨h', n, hr⟩
      | false => cases h
    | _ => cases h
theorem Has_loop (h : Heap) (l : List Int) (x : Int) (hb : l.length < 4611686018427387904) : ∀ (k i : Nat), i + k = l.length → ∀ ks Q,
    (x ∉ l.drop i → Xk T ks (.x 0) [(0, .ps 1 (ints l)), (1, .int .i64 x), (5, .int .i64 l.length), (9, .bool false)] h Q) →
    (x ∈ l.drop i → Xk T ks .r [(4, .bool true)] h Q) →
    Xc T l_ref13_Has_0 ks [(0, .ps 1 (ints l)), (1, .int .i64 x), (5, .int .i64 i)] h Q := by
  intro k
  induction k with
  | zero =>
    intro i hk ks Q h1 h2
    rw [L_ref13_Has_0]; unfold bl_ref13_Has_0
    have e0 : i = l.length := by omega
    subst e0
    simp (disch := omega) [ints_len]
    exact h1 (by simp)
  | succ k ih =>
    intro i hk ks Q h1 h2
    rw [L_ref13_Has_0]; unfold bl_ref13_Has_0
    have e1 : i < l.length := by omega
    have e3 : (i : Int) < l.length := by omega
    have da : l.drop i = l[i] :: l.drop (i + 1) := List.drop_eq_getElem_cons e1
    simp (disch := omega) [ints_len, ints_get, e3, List.getElem?_eq_getElem e1]
    apply Xb_dec
    · intro he
      simp (disch := omega)
      exact h2 (by rw [da, he]; simp)
    · intro hne
      simp (disch := omega)
      have := ih (i + 1) (by omega) ks Q (fun hh => h1 (by rw [da, List.mem_cons]; exact fun q => q.elim (fun q => hne q.symm) hh)) (fun hh => h2 (by rw [da, List.mem_cons]; exact .inr hh))
      simpa using this
theorem Has_run (l : List Int) (x : Int) (h : Heap) (hb : l.length < 4611686018427387904) : Run T f_ref13_Has [.ps 1 (ints l), .int .i64 x] h (.bool (decide (x ∈ l))) h := by
  refine Run.start t_ref13_Has ?_
  unfold k_ref13_Has
  simp (disch := omega)
  have := Has_loop h l x hb l.length 0 (by omega)
  simp at this
  refine this _ _ (fun hh => ?_) (fun hh => ?_)
  · simp (disch := omega) [hh]
  · simp (disch := omega) [hh]
end Ev
