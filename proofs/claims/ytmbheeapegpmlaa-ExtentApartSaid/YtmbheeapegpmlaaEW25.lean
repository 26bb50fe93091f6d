/- The laws of the extent, of all arguments of their shapes. Each theorem states its own conditions. -/
import Derived.Test.YtmbheeapegpmlaaEL25
set_option linter.all false
namespace Ev
open Go
theorem Act.ofTy {b c : Nat} {x : V} (h : Ty (.sl true b [.i .i64, .i .i64, .sl false 8 [.i .i64]]) x) (hb : 0 < b) : ∃ acts : List Act, x = .ps 3 (acts.map Act.v) ∧ acts.length < 4611686018427387904 ∧ ∀ a ∈ acts, a.l.length < 4611686018427387904 := by
  obtain ⟨xs, rfl, h1, h2⟩ := h.elems_agg
  obtain ⟨l, rfl, hl⟩ := exists_map Act.v (fun a => a.l.length < 4611686018427387904) xs fun y hy => by
    obtain ⟨vs, rfl, hr⟩ := h2 y hy
    obtain ⟨v1, r1, rfl, t1, hr⟩ := hr.cons
    obtain ⟨v2, r2, rfl, t2, hr⟩ := hr.cons
    obtain ⟨v3, r3, rfl, t3, hr⟩ := hr.cons
    rw [hr.none]
    obtain ⟨k, rfl, _⟩ := t1.int
    obtain ⟨n, rfl, _⟩ := t2.int
    obtain ⟨l, rfl, hl, _⟩ := t3.ints
    exact ⟨⟨k, n, l⟩, rfl, by show l.length < _; omega⟩
  have := Nat.le_mul_of_pos_right (List.map Act.v l).length hb
  exact ⟨l, rfl, by simp at this h1; omega, hl⟩

theorem law_ExtentDoes (x0 x1 x2 : V) (h0 : Ty (.i .i64) x0) (h1 : Ty (.sl false 8 [.i .i64]) x1) (h2 : Ty (.sl true 40 [.i .i64, .i .i64, .sl false 8 [.i .i64]]) x2) : ∃ h', Run T f_law25_ExtentDoes [x0, x1, x2] [] (.bool true) h' := by
  obtain ⟨n, rfl, _⟩ := h0.int
  obtain ⟨l, rfl, hl, _⟩ := h1.ints
  obtain ⟨acts, rfl, ha, hb⟩ := Act.ofTy (c := 0) h2 (by omega)
  exact ExtentDoes_run n l acts (by omega) ha hb
theorem law_ExtentNone (x0 : V) (h0 : Ty (.i .i64) x0) : ∃ h', Run T f_law25_ExtentNone [x0] [] (.bool true) h' := by
  obtain ⟨n, rfl, _⟩ := h0.int
  exact ExtentNone_run n
end Ev
