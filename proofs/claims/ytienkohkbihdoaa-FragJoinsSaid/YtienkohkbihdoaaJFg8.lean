/- Fragments: place by place, the plain law. Each theorem states its own conditions. -/
import Derived.Test.YtienkohkbihdoaaJCode
import Derived.Test.YtienkohkbihdoaaJFg
set_option linter.all false
namespace Ev
open Go
set_option maxRecDepth 10000
/-- A place's byte, of all that have it; none: two differ. -/
def scanP (p : Nat) : List BB → Option UInt8 → Option (Option UInt8)
  | [], c => some c
  | b :: r, c => match val b p with
    | none => scanP p r c
    | some x => if c ≠ none ∧ c ≠ some x then none else scanP p r (some x)
theorem scanP_none (p : Nat) : ∀ (l : List BB) (c : Option UInt8), scanP p l c = none → (∃ x y, c = some x ∧ (∃ b ∈ l, val b p = some y) ∧ x ≠ y) ∨ ∃ b ∈ l, ∃ d ∈ l, ∃ x y, val b p = some x ∧ val d p = some y ∧ x ≠ y
  | [], c, h => by cases h
  | b :: r, c, h => by
    simp only [scanP] at h
    cases hv : val b p with
    | none =>
      rw [hv] at h
      rcases scanP_none p r c h with ⟨x, y, h1, ⟨d, hd, h2⟩, h3⟩ | ⟨d, hd, e, he, x, y, h1⟩
      · exact .inl ⟨x, y, h1, ⟨d, by simp [hd], h2⟩, h3⟩
      · exact .inr ⟨d, by simp [hd], e, by simp [he], x, y, h1⟩
    | some x =>
      rw [hv] at h
      simp only at h
      split at h
      · rename_i k
        obtain ⟨z, hz⟩ := Option.ne_none_iff_exists'.1 k.1
        exact .inl ⟨z, x, hz, ⟨b, by simp, hv⟩, fun q => k.2 (by rw [hz, q])⟩
      · rcases scanP_none p r (some x) h with ⟨x', y, h1, ⟨d, hd, h2⟩, h3⟩ | ⟨d, hd, e, he, x, y, h1⟩
        · cases h1
          exact .inr ⟨b, by simp, d, by simp [hd], x, y, hv, h2, h3⟩
        · exact .inr ⟨d, by simp [hd], e, by simp [he], x, y, h1⟩
theorem scanP_some (p : Nat) : ∀ (l : List BB) (c r : Option UInt8), scanP p l c = some r → (∀ x, c = some x → r = some x) ∧ (∀ b ∈ l, ∀ x, val b p = some x → r = some x) ∧ (r = none ↔ c = none ∧ ∀ b ∈ l, val b p = none)
  | [], c, r, h => by
    cases h
    exact ⟨fun x h => h, fun b hb => by simp at hb, by simp⟩
  | b :: l, c, r, h => by
    simp only [scanP] at h
    cases hv : val b p with
    | none =>
      rw [hv] at h
      obtain ⟨h1, h2, h3⟩ := scanP_some p l c r h
      refine ⟨h1, fun d hd x hx => ?_, ?_⟩
      · rcases List.mem_cons.1 hd with rfl | hd
        · rw [hv] at hx; cases hx
        · exact h2 d hd x hx
      · rw [h3]
        constructor
        · rintro ⟨q1, q2⟩
          refine ⟨q1, fun d hd => ?_⟩
          rcases List.mem_cons.1 hd with rfl | hd
          · exact hv
          · exact q2 d hd
        · rintro ⟨q1, q2⟩
          exact ⟨q1, fun d hd => q2 d (by simp [hd])⟩
    | some x =>
      rw [hv] at h
      simp only at h
      split at h
      · cases h
      · rename_i k
        obtain ⟨h1, h2, h3⟩ := scanP_some p l (some x) r h
        have hr := h1 x rfl
        refine ⟨fun y hy => ?_, fun d hd y hy => ?_, ?_⟩
        · have : c = some x := Decidable.byContradiction fun q => k ⟨by rw [hy]; simp, q⟩
          rw [hr, ← this, hy]
        · rcases List.mem_cons.1 hd with rfl | hd
          · rw [hv] at hy; rw [hr, hy]
          · exact h2 d hd y hy
        · constructor
          · intro q; rw [hr] at q; cases q
          · rintro ⟨_, q⟩
            have := q b (by simp)
            rw [hv] at this; cases this
/-- All places, from one on. -/
def refJ (l : List BB) : Nat → Nat → List UInt8 → Bool → List UInt8 × Int
  | 0, _, s, h => if h then ([], 8) else (s, 0)
  | m + 1, p, s, h => match scanP p l none with
    | none => ([], 6)
    | some none => refJ l m (p + 1) s true
    | some (some c) => refJ l m (p + 1) (s ++ [c]) h
theorem refJ_cfl (l : List BB) : ∀ (m p : Nat) (s : List UInt8) (h : Bool), (∃ q, p ≤ q ∧ q < p + m ∧ scanP q l none = none) → refJ l m p s h = ([], 6)
  | 0, p, s, h, ⟨q, h1, h2, _⟩ => by omega
  | m + 1, p, s, h, ⟨q, h1, h2, h3⟩ => by
    simp only [refJ]
    have k : ∀ s' h', scanP p l none ≠ none → refJ l m (p + 1) s' h' = ([], 6) := fun s' h' hn => refJ_cfl l m (p + 1) s' h' ⟨q, by
      rcases Nat.lt_or_ge p q with z | z
      · exact z
      · have : q = p := by omega
        subst this; exact absurd h3 hn, by omega, h3⟩
    cases e : scanP p l none with
    | none => rfl
    | some r =>
      cases r with
      | none => exact k _ _ (by rw [e]; simp)
      | some c => exact k _ _ (by rw [e]; simp)
open Classical in
theorem refJ_ok (l : List BB) (d : List UInt8) (N : Nat) (hd : d.length = N) (hda : ∀ b ∈ l, ∀ p x, val b p = some x → d[p]? = some x) : ∀ (m p : Nat) (s : List UInt8) (h : Bool), p + m = N → (∀ q, p ≤ q → q < N → scanP q l none ≠ none) →
    refJ l m p s h = if h = true ∨ ∃ q, p ≤ q ∧ q < N ∧ ∀ b ∈ l, val b q = none then ([], 8) else (s ++ d.drop p, 0)
  | 0, p, s, h, hp, _ => by
    simp only [refJ]
    rw [List.drop_eq_nil_of_le (by omega), List.append_nil]
    cases h with
    | true => simp
    | false =>
      rw [if_neg (by simp), if_neg]
      rintro (q | ⟨q, h1, h2, _⟩)
      · cases q
      · omega
  | m + 1, p, s, h, hp, hc => by
    have ih := fun s' h' => refJ_ok l d N hd hda m (p + 1) s' h' (by omega) (fun q h1 h2 => hc q (by omega) h2)
    simp only [refJ]
    cases e : scanP p l none with
    | none => exact absurd e (hc p (Nat.le_refl _) (by omega))
    | some r =>
      obtain ⟨_, k2, k3⟩ := scanP_some p l none r e
      cases r with
      | none =>
        have := (k3.1 rfl).2
        simp only
        rw [ih, if_pos (.inl rfl), if_pos (.inr ⟨p, Nat.le_refl _, by omega, this⟩)]
      | some c =>
        have k4 : ¬ ∀ b ∈ l, val b p = none := fun q => by have := k3.2 ⟨rfl, q⟩; cases this
        obtain ⟨b, hb, hv⟩ : ∃ b ∈ l, val b p ≠ none := Decidable.byContradiction fun q => k4 fun b hb => Decidable.byContradiction fun z => q ⟨b, hb, z⟩
        obtain ⟨x, hx⟩ := Option.ne_none_iff_exists'.1 hv
        have : c = x := Option.some.inj (k2 b hb x hx)
        subst this
        have dp := hda b hb p c hx
        simp only
        rw [ih]
        have ed : d.drop p = c :: d.drop (p + 1) := by
          obtain ⟨w1, w2⟩ := List.getElem?_eq_some_iff.1 dp
          rw [List.drop_eq_getElem_cons w1, w2]
        have eq : (h = true ∨ ∃ q, p ≤ q ∧ q < N ∧ ∀ b ∈ l, val b q = none) ↔ (h = true ∨ ∃ q, p + 1 ≤ q ∧ q < N ∧ ∀ b ∈ l, val b q = none) := by
          constructor
          · rintro (q | ⟨q, h1, h2, h3⟩)
            · exact .inl q
            · refine .inr ⟨q, ?_, h2, h3⟩
              rcases Nat.lt_or_ge p q with z | z
              · exact z
              · have : q = p := by omega
                subst this; exact absurd (h3 b hb) hv
          · rintro (q | ⟨q, h1, h2, h3⟩)
            · exact .inl q
            · exact .inr ⟨q, by omega, h2, h3⟩
        rw [ed]
        by_cases z : h = true ∨ ∃ q, p + 1 ≤ q ∧ q < N ∧ ∀ b ∈ l, val b q = none
        · rw [if_pos z, if_pos (eq.2 z)]
        · rw [if_neg z, if_neg fun w => z (eq.1 w), List.append_assoc]; rfl
theorem Cfl_scan {l : List BB} {N : Nat} (hf : ∀ b ∈ l, FOk N b) (h : Cfl l) : ∃ q, q < N ∧ scanP q l none = none := by
  obtain ⟨b, hb, c, hc, p, x, y, h1, h2, h3⟩ := h
  refine ⟨p, ?_, ?_⟩
  · have f := hf b hb
    have f0 := f.o0
    have f1 := f.o
    unfold val at h1
    split at h1
    · obtain ⟨w, _⟩ := List.getElem?_eq_some_iff.1 h1
      omega
    · cases h1
  · cases e : scanP p l none with
    | none => rfl
    | some r =>
      obtain ⟨_, k, _⟩ := scanP_some p l none r e
      have e1 := k b hb x h1
      have e2 := k c hc y h2
      rw [e1] at e2
      exact absurd (Option.some.inj e2) h3
theorem scan_Cfl {l : List BB} {q : Nat} (h : scanP q l none = none) : Cfl l := by
  rcases scanP_none q l none h with ⟨x, y, h1, _⟩ | ⟨b, hb, c, hc, x, y, h1⟩
  · cases h1
  · exact ⟨b, hb, c, hc, q, x, y, h1⟩
end Ev
