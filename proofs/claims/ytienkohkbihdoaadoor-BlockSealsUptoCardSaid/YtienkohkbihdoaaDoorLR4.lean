/- The reference's runes: how long one is, a text's runes, a rune's number. Each theorem states its own conditions. -/
import Derived.Test.YtienkohkbihdoaaDoorLUt2
set_option linter.all false
namespace Ev
open Go
set_option maxRecDepth 10000
attribute [-simp] getElem?_pos getElem?_neg List.drop_one

theorem ite_iff {b c : Prop} [Decidable b] [Decidable c] {α : Type} {x y : α} (h : b ↔ c) : (if b then x else y) = if c then x else y := by
  by_cases hb : b
  · rw [if_pos hb, if_pos (h.1 hb)]
  · rw [if_neg hb, if_neg fun k => hb (h.2 k)]
theorem convB (h : Heap) (c : UInt8) : convV h (.i .i64) (byteV c) = some (.int .i64 (c.toNat : Int)) := by
  have := u8_lt c
  rw [conv_byte, wrap_i64 (by omega) (by omega)]
/-- The bytes behind the first one, from i on, m of them. -/
def contS (s : List UInt8) : Nat → Nat → Nat → Option Nat
  | 0, _, v => some v
  | m + 1, i, v => if ct (byt s i) then contS s m (i + 1) (64 * v + (byt s i - 128)) else none
theorem contS_lt (s : List UInt8) : ∀ (m i v w : Nat), contS s m i v = some w → w < (v + 1) * 64 ^ m
  | 0, i, v, w, h => by cases h; omega
  | m + 1, i, v, w, h => by
    unfold contS at h
    split at h
    · rename_i c
      have := contS_lt s m (i + 1) _ w h
      have c2 := c.2
      have e : (64 * v + (byt s i - 128) + 1) ≤ (v + 1) * 64 := by omega
      have := Nat.mul_le_mul_right (64 ^ m) e
      rw [Nat.pow_succ, Nat.mul_comm (64 ^ m) 64, ← Nat.mul_assoc]
      omega
    · cases h
theorem Size_loop (s : List UInt8) (h : Heap) (n : Nat) (least : Int) (hn : n ≤ s.length) (h4 : n ≤ 4) : ∀ (m i v : Nat), i + m = n → 1 ≤ i → (v + 1) * 64 ^ m ≤ 4194304 * 64 → ∀ ks Q,
    (∀ w, contS s m i v = some w → Xk T ks (.x 0) [(0, .str s), (4, .int .i64 n), (5, .int .i64 least), (6, .int .i64 w), (7, .int .i64 n), (48, .bool false)] h Q) →
    (contS s m i v = none → Xk T ks .r [(2, .int .i64 0)] h Q) →
    Xc T l_ref04_Size_0 ks [(0, .str s), (4, .int .i64 n), (5, .int .i64 least), (6, .int .i64 v), (7, .int .i64 i)] h Q := by
  intro m
  induction m with
  | zero =>
    intro i v hi h1 hv ks Q hs hf
    rw [L_ref04_Size_0]; unfold bl_ref04_Size_0
    have e0 : i = n := by omega
    subst e0
    simp (disch := omega)
    exact hs v rfl
  | succ m ih =>
    intro i v hi h1 hv ks Q hs hf
    rw [L_ref04_Size_0]; unfold bl_ref04_Size_0
    have e1 : (i : Int) < n := by omega
    have g : s[i]? = some (s.getD i 0) := by rw [List.getD_eq_getElem?_getD, List.getElem?_eq_getElem (by omega)]; rfl
    have gb : byt s i = (s.getD i 0).toNat := rfl
    have p1 : 1 ≤ 64 ^ m := Nat.pow_pos (by omega)
    have hv2 : (v + 1) * 64 * 64 ^ m ≤ 4194304 * 64 := by rw [Nat.mul_assoc, Nat.mul_comm 64, ← Nat.pow_succ]; exact hv
    have hv3 : (v + 1) * 64 ≤ 4194304 * 64 := Nat.le_trans (Nat.le_mul_of_pos_right _ p1) hv2
    unfold contS at hs hf
    generalize s.getD i 0 = b at *
    have bl := u8_lt b
    simp (disch := omega) [e1, g, convB]
    refine Xg_decn (fun c1 => ?_) (fun c1 => ?_)
    · simp (disch := omega) [c1]
      refine Xb_dec (fun c2 => ?_) (fun c2 => ?_)
      · simp (disch := omega)
        exact hf (by rw [if_neg]; unfold ct; omega)
      · have cc : ct (byt s i) := by unfold ct; omega
        rw [if_pos cc] at hs hf
        simp (disch := omega)
        have e2 : (64 * (v : Int) + b.toNat - 128) = ((64 * v + (byt s i - 128) : Nat) : Int) := by have := cc.1; omega
        have e3 : 64 * v + (byt s i - 128) + 1 ≤ (v + 1) * 64 := by have := cc.2; omega
        rw [e2]
        exact ih (i + 1) _ (by omega) (by omega) (Nat.le_trans (Nat.mul_le_mul_right _ e3) hv2) ks Q hs hf
    · simp (disch := omega) [c1]
      exact hf (by rw [if_neg]; unfold ct; omega)
theorem Size_run (s : List UInt8) (h : Heap) (hs : s ≠ []) : Run T f_ref04_Size [.str s] h (.int .i64 (rsz s)) h := by
  refine Run.start t_ref04_Size ?_
  unfold k_ref04_Size
  have hl : 0 < s.length := List.length_pos_iff.2 hs
  have g : s[0]? = some (s.getD 0 0) := by rw [List.getD_eq_getElem?_getD, List.getElem?_eq_getElem (by omega)]; rfl
  have gb : byt s 0 = (s.getD 0 0).toNat := rfl
  have rs : rsz s = rsz s := rfl
  conv at rs => rhs; unfold rsz
  rw [if_neg hs] at rs
  generalize s.getD 0 0 = b at *
  have bl := u8_lt b
  have cl : byt s 0 < 128 ∨ (128 ≤ byt s 0 ∧ byt s 0 < 192) ∨ (192 ≤ byt s 0 ∧ byt s 0 < 224) ∨ (224 ≤ byt s 0 ∧ byt s 0 < 240) ∨ (240 ≤ byt s 0 ∧ byt s 0 < 248) ∨ 248 ≤ byt s 0 := by omega
  rcases cl with c | c | c | c | c | c
  · rw [if_pos c] at rs
    rw [rs]
    have q0 : ((b.toNat : Int) < 128) := by omega
    have q1 : ¬ ((192 : Int) ≤ b.toNat) := by omega
    have q2 : ((b.toNat : Int) < 224) := by omega
    have q3 : ¬ ((224 : Int) ≤ b.toNat) := by omega
    have q4 : ((b.toNat : Int) < 240) := by omega
    have q5 : ¬ ((240 : Int) ≤ b.toNat) := by omega
    have q6 : ((b.toNat : Int) < 248) := by omega
    simp (disch := omega) [g, convB, q0, q1, q2, q3, q4, q5, q6]
  · rw [if_neg (by omega), if_neg (by omega), if_neg (by omega), if_neg (by omega)] at rs
    rw [rs]
    have q0 : ¬ ((b.toNat : Int) < 128) := by omega
    have q1 : ¬ ((192 : Int) ≤ b.toNat) := by omega
    have q2 : ((b.toNat : Int) < 224) := by omega
    have q3 : ¬ ((224 : Int) ≤ b.toNat) := by omega
    have q4 : ((b.toNat : Int) < 240) := by omega
    have q5 : ¬ ((240 : Int) ≤ b.toNat) := by omega
    have q6 : ((b.toNat : Int) < 248) := by omega
    simp (disch := omega) [g, convB, q0, q1, q2, q3, q4, q5, q6]
  · rw [if_neg (by omega), if_pos c] at rs
    have q0 : ¬ ((b.toNat : Int) < 128) := by omega
    have q1 : ((192 : Int) ≤ b.toNat) := by omega
    have q2 : ((b.toNat : Int) < 224) := by omega
    have q3 : ¬ ((224 : Int) ≤ b.toNat) := by omega
    have q4 : ((b.toNat : Int) < 240) := by omega
    have q5 : ¬ ((240 : Int) ≤ b.toNat) := by omega
    have q6 : ((b.toNat : Int) < 248) := by omega
    simp (disch := omega) [g, convB, q0, q1, q2, q3, q4, q5, q6]
    refine Xb_dec (fun k1 => ?_) (fun k1 => ?_)
    · rw [if_neg (by omega)] at rs
      simp (disch := omega) [rs]
    · simp (disch := omega)
      have e1 : ((b.toNat : Int) - 192) = ((byt s 0 - 192 : Nat) : Int) := by omega
      rw [e1]
      refine Size_loop s h 2 128 (by omega) (by omega) 1 1 _ rfl (by omega) (by omega) _ _ (fun w hw => ?_) (fun hw => ?_)
      · have wl := contS_lt _ _ _ _ _ hw
        have rs2 : rsz s = if 128 ≤ w ∧ w ≤ 1114111 ∧ (w < 55296 ∨ 57344 ≤ w) then 2 else 0 := by
          rw [rs]
          simp only [contS, Nat.reduceAdd] at hw
          by_cases t1 : ct (byt s 1)
          case neg => rw [if_neg t1] at hw; cases hw
          rw [if_pos t1] at hw
          cases hw
          unfold r2
          have u1 := t1.1
          have z1 := t1.2
          refine ite_iff ?_
          unfold ct
          omega
        clear rs hw
        rw [rs2]
        clear rs2
        by_cases f1 : ((w : Int) < 128)
        · have f1' : ¬ 128 ≤ w := by omega
          simp (disch := omega) [f1, f1']
        · have f1' : 128 ≤ w := by omega
          by_cases f2 : ((1114111 : Int) < w)
          · have f2' : ¬ w ≤ 1114111 := by omega
            simp (disch := omega) [f1, f1', f2, f2']
          · have f2' : w ≤ 1114111 := by omega
            by_cases f3 : ((55296 : Int) ≤ w)
            · have f3' : ¬ w < 55296 := by omega
              by_cases f4 : ((w : Int) < 57344)
              · have f4' : ¬ 57344 ≤ w := by omega
                simp (disch := omega) [f1, f1', f2, f2', f3, f3', f4, f4']
              · have f4' : 57344 ≤ w := by omega
                simp (disch := omega) [f1, f1', f2, f2', f3, f3', f4, f4']
            · have f3' : w < 55296 := by omega
              simp (disch := omega) [f1, f1', f2, f2', f3, f3']
      · have rs2 : rsz s = 0 := by
          rw [rs]
          simp only [contS, Nat.reduceAdd] at hw
          rw [if_neg]
          intro t
          obtain ⟨_, t1, _⟩ := t
          rw [if_pos t1] at hw
          cases hw
        simp (disch := omega) [rs2]
  · rw [if_neg (by omega), if_neg (by omega), if_pos c] at rs
    have q0 : ¬ ((b.toNat : Int) < 128) := by omega
    have q1 : ((192 : Int) ≤ b.toNat) := by omega
    have q2 : ¬ ((b.toNat : Int) < 224) := by omega
    have q3 : ((224 : Int) ≤ b.toNat) := by omega
    have q4 : ((b.toNat : Int) < 240) := by omega
    have q5 : ¬ ((240 : Int) ≤ b.toNat) := by omega
    have q6 : ((b.toNat : Int) < 248) := by omega
    simp (disch := omega) [g, convB, q0, q1, q2, q3, q4, q5, q6]
    refine Xb_dec (fun k1 => ?_) (fun k1 => ?_)
    · rw [if_neg (by omega)] at rs
      simp (disch := omega) [rs]
    · simp (disch := omega)
      have e1 : ((b.toNat : Int) - 224) = ((byt s 0 - 224 : Nat) : Int) := by omega
      rw [e1]
      refine Size_loop s h 3 2048 (by omega) (by omega) 2 1 _ rfl (by omega) (by omega) _ _ (fun w hw => ?_) (fun hw => ?_)
      · have wl := contS_lt _ _ _ _ _ hw
        have rs2 : rsz s = if 2048 ≤ w ∧ w ≤ 1114111 ∧ (w < 55296 ∨ 57344 ≤ w) then 3 else 0 := by
          rw [rs]
          simp only [contS, Nat.reduceAdd] at hw
          by_cases t1 : ct (byt s 1)
          case neg => rw [if_neg t1] at hw; cases hw
          rw [if_pos t1] at hw
          by_cases t2 : ct (byt s 2)
          case neg => rw [if_neg t2] at hw; cases hw
          rw [if_pos t2] at hw
          cases hw
          unfold r3
          have u1 := t1.1
          have z1 := t1.2
          have u2 := t2.1
          have z2 := t2.2
          refine ite_iff ?_
          unfold ct
          omega
        clear rs hw
        rw [rs2]
        clear rs2
        by_cases f1 : ((w : Int) < 2048)
        · have f1' : ¬ 2048 ≤ w := by omega
          simp (disch := omega) [f1, f1']
        · have f1' : 2048 ≤ w := by omega
          by_cases f2 : ((1114111 : Int) < w)
          · have f2' : ¬ w ≤ 1114111 := by omega
            simp (disch := omega) [f1, f1', f2, f2']
          · have f2' : w ≤ 1114111 := by omega
            by_cases f3 : ((55296 : Int) ≤ w)
            · have f3' : ¬ w < 55296 := by omega
              by_cases f4 : ((w : Int) < 57344)
              · have f4' : ¬ 57344 ≤ w := by omega
                simp (disch := omega) [f1, f1', f2, f2', f3, f3', f4, f4']
              · have f4' : 57344 ≤ w := by omega
                simp (disch := omega) [f1, f1', f2, f2', f3, f3', f4, f4']
            · have f3' : w < 55296 := by omega
              simp (disch := omega) [f1, f1', f2, f2', f3, f3']
      · have rs2 : rsz s = 0 := by
          rw [rs]
          simp only [contS, Nat.reduceAdd] at hw
          rw [if_neg]
          intro t
          obtain ⟨_, t1, t2, _⟩ := t
          rw [if_pos t1, if_pos t2] at hw
          cases hw
        simp (disch := omega) [rs2]
  · rw [if_neg (by omega), if_neg (by omega), if_neg (by omega), if_pos c] at rs
    have q0 : ¬ ((b.toNat : Int) < 128) := by omega
    have q1 : ((192 : Int) ≤ b.toNat) := by omega
    have q2 : ¬ ((b.toNat : Int) < 224) := by omega
    have q3 : ((224 : Int) ≤ b.toNat) := by omega
    have q4 : ¬ ((b.toNat : Int) < 240) := by omega
    have q5 : ((240 : Int) ≤ b.toNat) := by omega
    have q6 : ((b.toNat : Int) < 248) := by omega
    simp (disch := omega) [g, convB, q0, q1, q2, q3, q4, q5, q6]
    refine Xb_dec (fun k1 => ?_) (fun k1 => ?_)
    · rw [if_neg (by omega)] at rs
      simp (disch := omega) [rs]
    · simp (disch := omega)
      have e1 : ((b.toNat : Int) - 240) = ((byt s 0 - 240 : Nat) : Int) := by omega
      rw [e1]
      refine Size_loop s h 4 65536 (by omega) (by omega) 3 1 _ rfl (by omega) (by omega) _ _ (fun w hw => ?_) (fun hw => ?_)
      · have wl := contS_lt _ _ _ _ _ hw
        have rs2 : rsz s = if 65536 ≤ w ∧ w ≤ 1114111 ∧ (w < 55296 ∨ 57344 ≤ w) then 4 else 0 := by
          rw [rs]
          simp only [contS, Nat.reduceAdd] at hw
          by_cases t1 : ct (byt s 1)
          case neg => rw [if_neg t1] at hw; cases hw
          rw [if_pos t1] at hw
          by_cases t2 : ct (byt s 2)
          case neg => rw [if_neg t2] at hw; cases hw
          rw [if_pos t2] at hw
          by_cases t3 : ct (byt s 3)
          case neg => rw [if_neg t3] at hw; cases hw
          rw [if_pos t3] at hw
          cases hw
          unfold r4
          have u1 := t1.1
          have z1 := t1.2
          have u2 := t2.1
          have z2 := t2.2
          have u3 := t3.1
          have z3 := t3.2
          refine ite_iff ?_
          unfold ct
          omega
        clear rs hw
        rw [rs2]
        clear rs2
        by_cases f1 : ((w : Int) < 65536)
        · have f1' : ¬ 65536 ≤ w := by omega
          simp (disch := omega) [f1, f1']
        · have f1' : 65536 ≤ w := by omega
          by_cases f2 : ((1114111 : Int) < w)
          · have f2' : ¬ w ≤ 1114111 := by omega
            simp (disch := omega) [f1, f1', f2, f2']
          · have f2' : w ≤ 1114111 := by omega
            by_cases f3 : ((55296 : Int) ≤ w)
            · have f3' : ¬ w < 55296 := by omega
              by_cases f4 : ((w : Int) < 57344)
              · have f4' : ¬ 57344 ≤ w := by omega
                simp (disch := omega) [f1, f1', f2, f2', f3, f3', f4, f4']
              · have f4' : 57344 ≤ w := by omega
                simp (disch := omega) [f1, f1', f2, f2', f3, f3', f4, f4']
            · have f3' : w < 55296 := by omega
              simp (disch := omega) [f1, f1', f2, f2', f3, f3']
      · have rs2 : rsz s = 0 := by
          rw [rs]
          simp only [contS, Nat.reduceAdd] at hw
          rw [if_neg]
          intro t
          obtain ⟨_, t1, t2, t3, _⟩ := t
          rw [if_pos t1, if_pos t2, if_pos t3] at hw
          cases hw
        simp (disch := omega) [rs2]
  · rw [if_neg (by omega), if_neg (by omega), if_neg (by omega), if_neg (by omega)] at rs
    rw [rs]
    have q0 : ¬ ((b.toNat : Int) < 128) := by omega
    have q1 : ((192 : Int) ≤ b.toNat) := by omega
    have q2 : ¬ ((b.toNat : Int) < 224) := by omega
    have q3 : ((224 : Int) ≤ b.toNat) := by omega
    have q4 : ¬ ((b.toNat : Int) < 240) := by omega
    have q5 : ((240 : Int) ≤ b.toNat) := by omega
    have q6 : ¬ ((b.toNat : Int) < 248) := by omega
    simp (disch := omega) [g, convB, q0, q1, q2, q3, q4, q5, q6]
end Ev
