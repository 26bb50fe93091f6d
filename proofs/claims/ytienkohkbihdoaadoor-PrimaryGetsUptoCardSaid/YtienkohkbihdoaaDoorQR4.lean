/- The reference's runes: how long one is, a text's runes, a rune's number. The reference's runes: a text's runes, a rune's number, which texts are right. Values as the reference has them: trees of kinds, numbers, letters and parts. Values as the document's types, and taken as types. The bytes of a value. The bytes of a value that may be too deep; values taken as types. Values taken as types, and their parts. Heads, read. Each theorem states its own conditions. -/
import Derived.Test.YtienkohkbihdoaaDoorQUt2
import Derived.Test.YtienkohkbihdoaaDoorQBy
import Derived.KernelRfl
set_option linter.all false
namespace Ev
open Go
set_option maxRecDepth 10000
attribute [-simp] getElem?_pos getElem?_neg List.drop_one
theorem ite_iff {b c : Prop} [Decidable b] [Decidable c] {α : Type} {x y : α} (h : b ↔ c) : (if b then x else y) = if c then x else y := by
  by_cases hb : b
  · rw [if_pos hb, if_pos (h.1 hb)]
  · rw [if_neg hb, if_neg fun k => hb (h.2 k)]
theorem convB (h : Heap) (c : UInt8) : convV h (.i .i64) (byteV c) = some (.int .i64 (c.toNat : Int)) := by
  have := u8_lt c
  rw [conv_byte, wrap_i64 (by omega) (by omega)]
/-- The bytes behind the first one, from i on, m of them. -/
def contS (s : List UInt8) : Nat → Nat → Nat → Option Nat
  | 0, _, v => some v
  | m + 1, i, v => if ct (byt s i) then contS s m (i + 1) (64 * v + (byt s i - 128)) else none
theorem contS_lt (s : List UInt8) : ∀ (m i v w : Nat), contS s m i v = some w → w < (v + 1) * 64 ^ m
  | 0, i, v, w, h => by cases h; omega
  | m + 1, i, v, w, h => by
    unfold contS at h
    split at h
    · rename_i c
      have := contS_lt s m (i + 1) _ w h
      have c2 := c.2
      have e : (64 * v + (byt s i - 128) + 1) ≤ (v + 1) * 64 := by omega
      have := Nat.mul_le_mul_right (64 ^ m) e
      rw [Nat.pow_succ, Nat.mul_comm (64 ^ m) 64, ← Nat.mul_assoc]
      omega
    · cases h
theorem Size_loop (s : List UInt8) (h : Heap) (n : Nat) (least : Int) (hn : n ≤ s.length) (h4 : n ≤ 4) : ∀ (m i v : Nat), i + m = n → 1 ≤ i → (v + 1) * 64 ^ m ≤ 4194304 * 64 → ∀ ks Q,
    (∀ w, contS s m i v = some w → Xk T ks (.x 0) [(0, .str s), (4, .int .i64 n), (5, .int .i64 least), (6, .int .i64 w), (7, .int .i64 n), (48, .bool false)] h Q) →
    (contS s m i v = none → Xk T ks .r [(2, .int .i64 0)] h Q) →
    Xc T l_ref04_Size_0 ks [(0, .str s), (4, .int .i64 n), (5, .int .i64 least), (6, .int .i64 v), (7, .int .i64 i)] h Q := by
  intro m
  induction m with
  | zero =>
    intro i v hi h1 hv ks Q hs hf
    rw [L_ref04_Size_0]; unfold bl_ref04_Size_0
    have e0 : i = n := by omega
    subst e0
    simp (disch := omega)
    exact hs v rfl
  | succ m ih =>
    intro i v hi h1 hv ks Q hs hf
    rw [L_ref04_Size_0]; unfold bl_ref04_Size_0
    have e1 : (i : Int) < n := by omega
    have g : s[i]? = some (s.getD i 0) := by rw [List.getD_eq_getElem?_getD, List.getElem?_eq_getElem (by omega)]; rfl
    have gb : byt s i = (s.getD i 0).toNat := rfl
    have p1 : 1 ≤ 64 ^ m := Nat.pow_pos (by omega)
    have hv2 : (v + 1) * 64 * 64 ^ m ≤ 4194304 * 64 := by rw [Nat.mul_assoc, Nat.mul_comm 64, ← Nat.pow_succ]; exact hv
    have hv3 : (v + 1) * 64 ≤ 4194304 * 64 := Nat.le_trans (Nat.le_mul_of_pos_right _ p1) hv2
    unfold contS at hs hf
    generalize s.getD i 0 = b at *
    have bl := u8_lt b
    simp (disch := omega) [e1, g, convB]
    refine Xg_decn (fun c1 => ?_) (fun c1 => ?_)
    · simp (disch := omega) [c1]
      refine Xb_dec (fun c2 => ?_) (fun c2 => ?_)
      · simp (disch := omega)
        exact hf (by rw [if_neg]; unfold ct; omega)
      · have cc : ct (byt s i) := by unfold ct; omega
        rw [if_pos cc] at hs hf
        simp (disch := omega)
        have e2 : (64 * (v : Int) + b.toNat - 128) = ((64 * v + (byt s i - 128) : Nat) : Int) := by have := cc.1; omega
        have e3 : 64 * v + (byt s i - 128) + 1 ≤ (v + 1) * 64 := by have := cc.2; omega
        rw [e2]
        exact ih (i + 1) _ (by omega) (by omega) (Nat.le_trans (Nat.mul_le_mul_right _ e3) hv2) ks Q hs hf
    · simp (disch := omega) [c1]
      exact hf (by rw [if_neg]; unfold ct; omega)
theorem Size_run (s : List UInt8) (h : Heap) (hs : s ≠ []) : Run T f_ref04_Size [.str s] h (.int .i64 (rsz s)) h := by
  refine Run.start t_ref04_Size ?_
  unfold k_ref04_Size
  have hl : 0 < s.length := List.length_pos_iff.2 hs
  have g : s[0]? = some (s.getD 0 0) := by rw [List.getD_eq_getElem?_getD, List.getElem?_eq_getElem (by omega)]; rfl
  have gb : byt s 0 = (s.getD 0 0).toNat := rfl
  have rs : rsz s = rsz s := rfl
  conv at rs => rhs; unfold rsz
  rw [if_neg hs] at rs
  generalize s.getD 0 0 = b at *
  have bl := u8_lt b
  have cl : byt s 0 < 128 ∨ (128 ≤ byt s 0 ∧ byt s 0 < 192) ∨ (192 ≤ byt s 0 ∧ byt s 0 < 224) ∨ (224 ≤ byt s 0 ∧ byt s 0 < 240) ∨ (240 ≤ byt s 0 ∧ byt s 0 < 248) ∨ 248 ≤ byt s 0 := by omega
  rcases cl with c | c | c | c | c | c
  · rw [if_pos c] at rs
    rw [rs]
    have q0 : ((b.toNat : Int) < 128) := by omega
    have q1 : ¬ ((192 : Int) ≤ b.toNat) := by omega
    have q2 : ((b.toNat : Int) < 224) := by omega
    have q3 : ¬ ((224 : Int) ≤ b.toNat) := by omega
    have q4 : ((b.toNat : Int) < 240) := by omega
    have q5 : ¬ ((240 : Int) ≤ b.toNat) := by omega
    have q6 : ((b.toNat : Int) < 248) := by omega
    simp (disch := omega) [g, convB, q0, q1, q2, q3, q4, q5, q6]
  · rw [if_neg (by omega), if_neg (by omega), if_neg (by omega), if_neg (by omega)] at rs
    rw [rs]
    have q0 : ¬ ((b.toNat : Int) < 128) := by omega
    have q1 : ¬ ((192 : Int) ≤ b.toNat) := by omega
    have q2 : ((b.toNat : Int) < 224) := by omega
    have q3 : ¬ ((224 : Int) ≤ b.toNat) := by omega
    have q4 : ((b.toNat : Int) < 240) := by omega
    have q5 : ¬ ((240 : Int) ≤ b.toNat) := by omega
    have q6 : ((b.toNat : Int) < 248) := by omega
    simp (disch := omega) [g, convB, q0, q1, q2, q3, q4, q5, q6]
  · rw [if_neg (by omega), if_pos c] at rs
    have q0 : ¬ ((b.toNat : Int) < 128) := by omega
    have q1 : ((192 : Int) ≤ b.toNat) := by omega
    have q2 : ((b.toNat : Int) < 224) := by omega
    have q3 : ¬ ((224 : Int) ≤ b.toNat) := by omega
    have q4 : ((b.toNat : Int) < 240) := by omega
    have q5 : ¬ ((240 : Int) ≤ b.toNat) := by omega
    have q6 : ((b.toNat : Int) < 248) := by omega
    simp (disch := omega) [g, convB, q0, q1, q2, q3, q4, q5, q6]
    refine Xb_dec (fun k1 => ?_) (fun k1 => ?_)
    · rw [if_neg (by omega)] at rs
      simp (disch := omega) [rs]
    · simp (disch := omega)
      have e1 : ((b.toNat : Int) - 192) = ((byt s 0 - 192 : Nat) : Int) := by omega
      rw [e1]
      refine Size_loop s h 2 128 (by omega) (by omega) 1 1 _ rfl (by omega) (by omega) _ _ (fun w hw => ?_) (fun hw => ?_)
      · have wl := contS_lt _ _ _ _ _ hw
        have rs2 : rsz s = if 128 ≤ w ∧ w ≤ 1114111 ∧ (w < 55296 ∨ 57344 ≤ w) then 2 else 0 := by
          rw [rs]
          simp only [contS, Nat.reduceAdd] at hw
          by_cases t1 : ct (byt s 1)
          case neg => rw [if_neg t1] at hw; cases hw
          rw [if_pos t1] at hw
          cases hw
          unfold r2
          have u1 := t1.1
          have z1 := t1.2
          refine ite_iff ?_
          unfold ct
          omega
        clear rs hw
        rw [rs2]
        clear rs2
        by_cases f1 : ((w : Int) < 128)
        · have f1' : ¬ 128 ≤ w := by omega
          simp (disch := omega) [f1, f1']
        · have f1' : 128 ≤ w := by omega
          by_cases f2 : ((1114111 : Int) < w)
          · have f2' : ¬ w ≤ 1114111 := by omega
            simp (disch := omega) [f1, f1', f2, f2']
          · have f2' : w ≤ 1114111 := by omega
            by_cases f3 : ((55296 : Int) ≤ w)
            · have f3' : ¬ w < 55296 := by omega
              by_cases f4 : ((w : Int) < 57344)
              · have f4' : ¬ 57344 ≤ w := by omega
                simp (disch := omega) [f1, f1', f2, f2', f3, f3', f4, f4']
              · have f4' : 57344 ≤ w := by omega
                simp (disch := omega) [f1, f1', f2, f2', f3, f3', f4, f4']
            · have f3' : w < 55296 := by omega
              simp (disch := omega) [f1, f1', f2, f2', f3, f3']
      · have rs2 : rsz s = 0 := by
          rw [rs]
          simp only [contS, Nat.reduceAdd] at hw
          rw [if_neg]
          intro t
          obtain ⟨_, t1, _⟩ := t
          rw [if_pos t1] at hw
          cases hw
        simp (disch := omega) [rs2]
  · rw [if_neg (by omega), if_neg (by omega), if_pos c] at rs
    have q0 : ¬ ((b.toNat : Int) < 128) := by omega
    have q1 : ((192 : Int) ≤ b.toNat) := by omega
    have q2 : ¬ ((b.toNat : Int) < 224) := by omega
    have q3 : ((224 : Int) ≤ b.toNat) := by omega
    have q4 : ((b.toNat : Int) < 240) := by omega
    have q5 : ¬ ((240 : Int) ≤ b.toNat) := by omega
    have q6 : ((b.toNat : Int) < 248) := by omega
    simp (disch := omega) [g, convB, q0, q1, q2, q3, q4, q5, q6]
    refine Xb_dec (fun k1 => ?_) (fun k1 => ?_)
    · rw [if_neg (by omega)] at rs
      simp (disch := omega) [rs]
    · simp (disch := omega)
      have e1 : ((b.toNat : Int) - 224) = ((byt s 0 - 224 : Nat) : Int) := by omega
      rw [e1]
      refine Size_loop s h 3 2048 (by omega) (by omega) 2 1 _ rfl (by omega) (by omega) _ _ (fun w hw => ?_) (fun hw => ?_)
      · have wl := contS_lt _ _ _ _ _ hw
        have rs2 : rsz s = if 2048 ≤ w ∧ w ≤ 1114111 ∧ (w < 55296 ∨ 57344 ≤ w) then 3 else 0 := by
          rw [rs]
          simp only [contS, Nat.reduceAdd] at hw
          by_cases t1 : ct (byt s 1)
          case neg => rw [if_neg t1] at hw; cases hw
          rw [if_pos t1] at hw
          by_cases t2 : ct (byt s 2)
          case neg => rw [if_neg t2] at hw; cases hw
          rw [if_pos t2] at hw
          cases hw
          unfold r3
          have u1 := t1.1
          have z1 := t1.2
          have u2 := t2.1
          have z2 := t2.2
          refine ite_iff ?_
          unfold ct
          omega
        clear rs hw
        rw [rs2]
        clear rs2
        by_cases f1 : ((w : Int) < 2048)
        · have f1' : ¬ 2048 ≤ w := by omega
          simp (disch := omega) [f1, f1']
        · have f1' : 2048 ≤ w := by omega
          by_cases f2 : ((1114111 : Int) < w)
          · have f2' : ¬ w ≤ 1114111 := by omega
            simp (disch := omega) [f1, f1', f2, f2']
          · have f2' : w ≤ 1114111 := by omega
            by_cases f3 : ((55296 : Int) ≤ w)
            · have f3' : ¬ w < 55296 := by omega
              by_cases f4 : ((w : Int) < 57344)
              · have f4' : ¬ 57344 ≤ w := by omega
                simp (disch := omega) [f1, f1', f2, f2', f3, f3', f4, f4']
              · have f4' : 57344 ≤ w := by omega
                simp (disch := omega) [f1, f1', f2, f2', f3, f3', f4, f4']
            · have f3' : w < 55296 := by omega
              simp (disch := omega) [f1, f1', f2, f2', f3, f3']
      · have rs2 : rsz s = 0 := by
          rw [rs]
          simp only [contS, Nat.reduceAdd] at hw
          rw [if_neg]
          intro t
          obtain ⟨_, t1, t2, _⟩ := t
          rw [if_pos t1, if_pos t2] at hw
          cases hw
        simp (disch := omega) [rs2]
  · rw [if_neg (by omega), if_neg (by omega), if_neg (by omega), if_pos c] at rs
    have q0 : ¬ ((b.toNat : Int) < 128) := by omega
    have q1 : ((192 : Int) ≤ b.toNat) := by omega
    have q2 : ¬ ((b.toNat : Int) < 224) := by omega
    have q3 : ((224 : Int) ≤ b.toNat) := by omega
    have q4 : ¬ ((b.toNat : Int) < 240) := by omega
    have q5 : ((240 : Int) ≤ b.toNat) := by omega
    have q6 : ((b.toNat : Int) < 248) := by omega
    simp (disch := omega) [g, convB, q0, q1, q2, q3, q4, q5, q6]
    refine Xb_dec (fun k1 => ?_) (fun k1 => ?_)
    · rw [if_neg (by omega)] at rs
      simp (disch := omega) [rs]
    · simp (disch := omega)
      have e1 : ((b.toNat : Int) - 240) = ((byt s 0 - 240 : Nat) : Int) := by omega
      rw [e1]
      refine Size_loop s h 4 65536 (by omega) (by omega) 3 1 _ rfl (by omega) (by omega) _ _ (fun w hw => ?_) (fun hw => ?_)
      · have wl := contS_lt _ _ _ _ _ hw
        have rs2 : rsz s = if 65536 ≤ w ∧ w ≤ 1114111 ∧ (w < 55296 ∨ 57344 ≤ w) then 4 else 0 := by
          rw [rs]
          simp only [contS, Nat.reduceAdd] at hw
          by_cases t1 : ct (byt s 1)
          case neg => rw [if_neg t1] at hw; cases hw
          rw [if_pos t1] at hw
          by_cases t2 : ct (byt s 2)
          case neg => rw [if_neg t2] at hw; cases hw
          rw [if_pos t2] at hw
          by_cases t3 : ct (byt s 3)
          case neg => rw [if_neg t3] at hw; cases hw
          rw [if_pos t3] at hw
          cases hw
          unfold r4
          have u1 := t1.1
          have z1 := t1.2
          have u2 := t2.1
          have z2 := t2.2
          have u3 := t3.1
          have z3 := t3.2
          refine ite_iff ?_
          unfold ct
          omega
        clear rs hw
        rw [rs2]
        clear rs2
        by_cases f1 : ((w : Int) < 65536)
        · have f1' : ¬ 65536 ≤ w := by omega
          simp (disch := omega) [f1, f1']
        · have f1' : 65536 ≤ w := by omega
          by_cases f2 : ((1114111 : Int) < w)
          · have f2' : ¬ w ≤ 1114111 := by omega
            simp (disch := omega) [f1, f1', f2, f2']
          · have f2' : w ≤ 1114111 := by omega
            by_cases f3 : ((55296 : Int) ≤ w)
            · have f3' : ¬ w < 55296 := by omega
              by_cases f4 : ((w : Int) < 57344)
              · have f4' : ¬ 57344 ≤ w := by omega
                simp (disch := omega) [f1, f1', f2, f2', f3, f3', f4, f4']
              · have f4' : 57344 ≤ w := by omega
                simp (disch := omega) [f1, f1', f2, f2', f3, f3', f4, f4']
            · have f3' : w < 55296 := by omega
              simp (disch := omega) [f1, f1', f2, f2', f3, f3']
      · have rs2 : rsz s = 0 := by
          rw [rs]
          simp only [contS, Nat.reduceAdd] at hw
          rw [if_neg]
          intro t
          obtain ⟨_, t1, t2, t3, _⟩ := t
          rw [if_pos t1, if_pos t2, if_pos t3] at hw
          cases hw
        simp (disch := omega) [rs2]
  · rw [if_neg (by omega), if_neg (by omega), if_neg (by omega), if_neg (by omega)] at rs
    rw [rs]
    have q0 : ¬ ((b.toNat : Int) < 128) := by omega
    have q1 : ((192 : Int) ≤ b.toNat) := by omega
    have q2 : ¬ ((b.toNat : Int) < 224) := by omega
    have q3 : ((224 : Int) ≤ b.toNat) := by omega
    have q4 : ¬ ((b.toNat : Int) < 240) := by omega
    have q5 : ((240 : Int) ≤ b.toNat) := by omega
    have q6 : ¬ ((b.toNat : Int) < 248) := by omega
    simp (disch := omega) [g, convB, q0, q1, q2, q3, q4, q5, q6]
section
variable {ks : List Kt} {ops : List AOpr} {K : Kp} {e : Env} {h : Heap} {Q : Ex → Env → Heap → Prop} {d : Nat} {lent : Bool}
theorem Size_p (s : List UInt8) (hs : s ≠ []) : Xp T f_ref04_Size (some ([.str s], lent)) h (some d) ops K ks e Q = Xo T ops K ks ((d, .int .i64 (rsz s)) :: e) h Q :=
  Xp_run (Size_run s [] hs) (by simp) rfl (by simp [scalar])
end
theorem rsz_cases (s : List UInt8) (hs : s ≠ []) : (rsz s = 0 ∧ 128 ≤ byt s 0) ∨ (rsz s = 1 ∧ byt s 0 < 128) ∨ (rsz s = 2 ∧ 192 ≤ byt s 0 ∧ byt s 0 < 224 ∧ 2 ≤ s.length ∧ ct (byt s 1) ∧ 128 ≤ r2 (byt s 0) (byt s 1)) ∨
    (rsz s = 3 ∧ 224 ≤ byt s 0 ∧ byt s 0 < 240 ∧ 3 ≤ s.length ∧ ct (byt s 1) ∧ ct (byt s 2) ∧ 2048 ≤ r3 (byt s 0) (byt s 1) (byt s 2) ∧ (r3 (byt s 0) (byt s 1) (byt s 2) < 55296 ∨ 57344 ≤ r3 (byt s 0) (byt s 1) (byt s 2))) ∨
    (rsz s = 4 ∧ 240 ≤ byt s 0 ∧ byt s 0 < 248 ∧ 4 ≤ s.length ∧ ct (byt s 1) ∧ ct (byt s 2) ∧ ct (byt s 3) ∧ 65536 ≤ r4 (byt s 0) (byt s 1) (byt s 2) (byt s 3) ∧ r4 (byt s 0) (byt s 1) (byt s 2) (byt s 3) ≤ 1114111) := by
  unfold rsz
  rw [if_neg hs]
  by_cases c0 : byt s 0 < 128
  · rw [if_pos c0]; simp; omega
  · rw [if_neg c0]
    by_cases c1 : 192 ≤ byt s 0 ∧ byt s 0 < 224
    · rw [if_pos c1]
      split
      · rename_i k; exact .inr (.inr (.inl ⟨rfl, c1.1, c1.2, k⟩))
      · simp; omega
    · rw [if_neg c1]
      by_cases c2 : 224 ≤ byt s 0 ∧ byt s 0 < 240
      · rw [if_pos c2]
        split
        · rename_i k; exact .inr (.inr (.inr (.inl ⟨rfl, c2.1, c2.2, k⟩)))
        · simp; omega
      · rw [if_neg c2]
        by_cases c3 : 240 ≤ byt s 0 ∧ byt s 0 < 248
        · rw [if_pos c3]
          split
          · rename_i k; exact .inr (.inr (.inr (.inr ⟨rfl, c3.1, c3.2, k⟩)))
          · simp; omega
        · rw [if_neg c3]; simp; omega
def stp (s : List UInt8) : Nat := if rsz s = 0 then 1 else rsz s
theorem byt_take (s : List UInt8) (n i : Nat) (h : i < n) : byt (s.take n) i = byt s i := by
  unfold byt
  rw [List.getD_eq_getElem?_getD, List.getD_eq_getElem?_getD, List.getElem?_take_of_lt h]
theorem stp_pos (s : List UInt8) : 1 ≤ stp s := by unfold stp; split <;> omega
theorem stp_le (s : List UInt8) (hs : s ≠ []) : stp s ≤ s.length := by
  have := rsz_le s
  have : 0 < s.length := List.length_pos_iff.2 hs
  unfold stp; split <;> omega
theorem rsz_take (s : List UInt8) (hs : s ≠ []) : rsz (s.take (stp s)) = rsz s := by
  have hl : 0 < s.length := List.length_pos_iff.2 hs
  have hn : s.take (stp s) ≠ [] := by
    intro e
    have := congrArg List.length e
    rw [List.length_take, List.length_nil] at this
    have := stp_pos s
    omega
  have hlen : (s.take (stp s)).length = stp s := by rw [List.length_take]; have := stp_le s hs; omega
  have b0 := byt_take s (stp s) 0 (stp_pos s)
  rcases rsz_cases s hs with ⟨e, k⟩ | ⟨e, k⟩ | ⟨e, k⟩ | ⟨e, k⟩ | ⟨e, k⟩
  · have es : stp s = 1 := by unfold stp; rw [e]; rfl
    rw [e]
    have := rsz_le (s.take (stp s))
    rcases rsz_cases _ hn with ⟨e', _⟩ | ⟨e', k'⟩ | ⟨e', k'⟩ | ⟨e', k'⟩ | ⟨e', k'⟩ <;> omega
  · rw [e]
    rcases rsz_cases _ hn with ⟨e', k'⟩ | ⟨e', k'⟩ | ⟨e', k'⟩ | ⟨e', k'⟩ | ⟨e', k'⟩ <;> omega
  · have es : stp s = 2 := by unfold stp; rw [e]; rfl
    have b1 := byt_take s (stp s) 1 (by omega)
    rw [e]
    unfold rsz
    rw [if_neg hn, if_neg (by omega), if_pos (by omega), if_pos]
    rw [b0, b1]; exact ⟨by omega, k.2.2.2⟩
  · have es : stp s = 3 := by unfold stp; rw [e]; rfl
    have b1 := byt_take s (stp s) 1 (by omega)
    have b2 := byt_take s (stp s) 2 (by omega)
    rw [e]
    unfold rsz
    rw [if_neg hn, if_neg (by omega), if_neg (by omega), if_pos (by omega), if_pos]
    rw [b0, b1, b2]; exact ⟨by omega, k.2.2.2⟩
  · have es : stp s = 4 := by unfold stp; rw [e]; rfl
    have b1 := byt_take s (stp s) 1 (by omega)
    have b2 := byt_take s (stp s) 2 (by omega)
    have b3 := byt_take s (stp s) 3 (by omega)
    rw [e]
    unfold rsz
    rw [if_neg hn, if_neg (by omega), if_neg (by omega), if_neg (by omega), if_pos (by omega), if_pos]
    rw [b0, b1, b2, b3]; exact ⟨by omega, k.2.2.2⟩
/-- A text's runes; a byte that is none stands alone. -/
def runes (s : List UInt8) : List (List UInt8) := if s = [] then [] else s.take (stp s) :: runes (s.drop (stp s))
termination_by s.length
decreasing_by
  rename_i h1
  have : s.length ≠ 0 := by simpa using h1
  have := stp_pos s
  simp
  omega
theorem runes_nil : runes [] = [] := by rw [runes]; simp
theorem runes_step (s : List UInt8) (h : s ≠ []) : runes s = s.take (stp s) :: runes (s.drop (stp s)) := by rw [runes, if_neg h]
theorem runes_len : ∀ (n : Nat) (s : List UInt8), s.length ≤ n → (runes s).length ≤ s.length
  | 0, s, h => by
    have : s = [] := List.eq_nil_of_length_eq_zero (by omega)
    subst this
    rw [runes_nil]; simp
  | n + 1, s, h => by
    by_cases hs : s = []
    · subst hs; rw [runes_nil]; simp
    · rw [runes_step s hs]
      have := stp_pos s
      have hl : 0 < s.length := List.length_pos_iff.2 hs
      have := runes_len n (s.drop (stp s)) (by simp; omega)
      simp at this ⊢
      omega
def strs (l : List (List UInt8)) : List V := l.map V.str
theorem strs_len (l : List (List UInt8)) : (strs l).length = l.length := by simp [strs]
theorem strs_get (l : List (List UInt8)) (i : Nat) : (strs l)[i]? = (l[i]?).map V.str := by simp [strs]
theorem strs_hfs (l : List (List UInt8)) : V.hfs (strs l) = true := hfs_map _ (fun b => by simp) _
theorem strs_app (a b : List (List UInt8)) : strs (a ++ b) = strs a ++ strs b := by simp [strs]
theorem Parts_loop (s : List UInt8) (h : Heap) (hs : s.length ≤ 4398046511104) : ∀ (m i : Nat), s.length - i ≤ m → i ≤ s.length → ∀ (out : List (List UInt8)), out.length ≤ i → ∀ ks Q,
    (∀ e, Xk T ks (.x 0) ([(0, .str s), (3, .ps 1 (strs (out ++ runes (s.drop i))))] ++ e) h Q) →
    ∀ e, Xc T l_ref04_Parts_0 ks ([(0, .str s), (3, .ps 1 (strs out)), (4, .int .i64 i)] ++ e) h Q := by
  intro m
  induction m with
  | zero =>
    intro i hm hi out ho ks Q hQ e
    rw [L_ref04_Parts_0]; unfold bl_ref04_Parts_0
    have e0 : i = s.length := by omega
    subst e0
    rw [List.drop_length, runes_nil, List.append_nil] at hQ
    simp (disch := omega)
    exact hQ _
  | succ m ih =>
    intro i hm hi out ho ks Q hQ e
    rw [L_ref04_Parts_0]; unfold bl_ref04_Parts_0
    rcases Nat.lt_or_ge i s.length with c | c
    · have hn : s.drop i ≠ [] := by
        intro e
        have := congrArg List.length e
        rw [List.length_drop, List.length_nil] at this
        omega
      have e1 : (i : Int) < s.length := by omega
      have p1 := stp_pos (s.drop i)
      have p2 := stp_le (s.drop i) hn
      rw [List.length_drop] at p2
      have rl := rsz_le (s.drop i)
      rw [List.length_drop] at rl
      have := ih (i + stp (s.drop i)) (by omega) (by omega) (out ++ [(s.drop i).take (stp (s.drop i))]) (by simp; omega) ks Q
      rw [runes_step _ hn, List.drop_drop, List.append_cons] at hQ
      simp (disch := first | omega | assumption) [e1, Size_p]
      refine Xb_dec (fun c1 => ?_) (fun c1 => ?_)
      · have es : stp (s.drop i) = 1 := by unfold stp; rw [if_pos (by omega)]
        rw [es] at this hQ
        simp (disch := omega) [strs_len]
        have := this hQ []
        rw [strs_app] at this
        rw [List.drop_take, Nat.add_sub_cancel_left]
        exact this
      · have es : stp (s.drop i) = rsz (s.drop i) := by unfold stp; rw [if_neg (by omega)]
        rw [es] at this hQ
        have e2 : ((i : Int) + (rsz (s.drop i) : Nat)).toNat = i + rsz (s.drop i) := by omega
        simp (disch := omega) [strs_len, e2]
        have := this hQ []
        rw [strs_app] at this
        rw [List.drop_take, Nat.add_sub_cancel_left]
        exact this
    · have e0 : i = s.length := by omega
      subst e0
      rw [List.drop_length, runes_nil, List.append_nil] at hQ
      simp (disch := omega)
      exact hQ _
theorem Parts_run (s : List UInt8) (h : Heap) (hs : s.length ≤ 4398046511104) : Run T f_ref04_Parts [.str s] h (.ps 1 (strs (runes s))) h := by
  refine Run.start t_ref04_Parts ?_
  unfold k_ref04_Parts
  simp (disch := omega)
  refine Parts_loop s h hs s.length 0 (by omega) (by omega) [] (by simp) _ _ (fun e => ?_) []
  simp (disch := omega)
def valS (s : List UInt8) : Int :=
  if rsz s = 1 then byt s 0 else if rsz s = 2 then 64 * ((byt s 0 : Int) - 192) + byt s 1 - 128 else
  if rsz s = 3 then 4096 * ((byt s 0 : Int) - 224) + 64 * ((byt s 1 : Int) - 128) + byt s 2 - 128 else
  if rsz s = 4 then 262144 * ((byt s 0 : Int) - 240) + 4096 * ((byt s 1 : Int) - 128) + 64 * ((byt s 2 : Int) - 128) + byt s 3 - 128 else -1
theorem valS_neg (s : List UInt8) (hs : s ≠ []) : valS s < 0 ↔ rsz s = 0 := by
  unfold valS
  rcases rsz_cases s hs with ⟨e, k⟩ | ⟨e, k⟩ | ⟨e, k⟩ | ⟨e, k⟩ | ⟨e, k⟩ <;> rw [e]
  · simp
  · simp
  · obtain ⟨k1, k2, k3, ⟨k4, k5⟩, k6⟩ := k
    simp; omega
  · obtain ⟨k1, k2, k3, ⟨k4, k5⟩, ⟨k6, k7⟩, k8⟩ := k
    simp; omega
  · obtain ⟨k1, k2, k3, ⟨k4, k5⟩, ⟨k6, k7⟩, ⟨k8, k9⟩, k10⟩ := k
    simp; omega
theorem Value_run (s : List UInt8) (h : Heap) (hs : s ≠ []) : Run T f_ref04_Value [.str s] h (.int .i64 (valS s)) h := by
  refine Run.start t_ref04_Value ?_
  unfold k_ref04_Value
  have gd : ∀ i, i < s.length → s[i]? = some (s.getD i 0) := fun i hi => by rw [List.getD_eq_getElem?_getD, List.getElem?_eq_getElem hi]; rfl
  have hl : 0 < s.length := List.length_pos_iff.2 hs
  have g0 := gd 0 hl
  have b0 : byt s 0 = (s.getD 0 0).toNat := rfl
  have b1 : byt s 1 = (s.getD 1 0).toNat := rfl
  have b2 : byt s 2 = (s.getD 2 0).toNat := rfl
  have b3 : byt s 3 = (s.getD 3 0).toNat := rfl
  have g1 := gd 1
  have g2 := gd 2
  have g3 := gd 3
  have rc := rsz_cases s hs
  have hv : valS s = valS s := rfl
  conv at hv => rhs; unfold valS
  rw [b0, b1, b2, b3] at hv
  clear gd b0 b1 b2 b3
  generalize s.getD 0 0 = c0 at *
  generalize s.getD 1 0 = c1 at *
  generalize s.getD 2 0 = c2 at *
  generalize s.getD 3 0 = c3 at *
  have l0 := u8_lt c0
  have l1 := u8_lt c1
  have l2 := u8_lt c2
  have l3 := u8_lt c3
  rcases rc with ⟨e, k⟩ | ⟨e, k⟩ | ⟨e, k⟩ | ⟨e, k⟩ | ⟨e, k⟩ <;> simp only [e] at hv <;> simp at hv
  · simp (disch := first | omega | assumption) [g0, convB, Size_p, e, hv]
  · simp (disch := first | omega | assumption) [g0, convB, Size_p, e, hv]
  · have g1 := g1 (by omega)
    simp (disch := first | omega | assumption) [g0, g1, convB, Size_p, e, hv]
  · have g1 := g1 (by omega)
    have g2 := g2 (by omega)
    simp (disch := first | omega | assumption) [g0, g1, g2, convB, Size_p, e, hv]
  · have g1 := g1 (by omega)
    have g2 := g2 (by omega)
    have g3 := g3 (by omega)
    simp (disch := first | omega | assumption) [g0, g1, g2, g3, convB, Size_p, e, hv]
section
variable {ks : List Kt} {ops : List AOpr} {K : Kp} {e : Env} {h : Heap} {Q : Ex → Env → Heap → Prop} {d : Nat} {lent : Bool}
theorem Parts_p (s : List UInt8) (hs : s.length ≤ 4398046511104) : Xp T f_ref04_Parts (some ([.str s], false)) h (some d) ops K ks e Q = Xo T ops K ks ((d, .ps 1 (strs (runes s))) :: e) h Q :=
  Xp_run (Parts_run s [] hs) (by simp) (by simp [strs_hfs]) (by simp)
theorem Value_p (s : List UInt8) (hs : s ≠ []) : Xp T f_ref04_Value (some ([.str s], lent)) h (some d) ops K ks e Q = Xo T ops K ks ((d, .int .i64 (valS s)) :: e) h Q :=
  Xp_run (Value_run s [] hs) (by simp) rfl (by simp [scalar])
end
theorem runes_ne : ∀ (n : Nat) (s : List UInt8), s.length ≤ n → ∀ p ∈ runes s, p ≠ []
  | 0, s, h => by
    have : s = [] := List.eq_nil_of_length_eq_zero (by omega)
    subst this
    rw [runes_nil]; simp
  | n + 1, s, h => by
    by_cases hs : s = []
    · subst hs; rw [runes_nil]; simp
    · rw [runes_step s hs]
      have := stp_pos s
      have hl : 0 < s.length := List.length_pos_iff.2 hs
      intro p hp
      rcases List.mem_cons.1 hp with rfl | hp
      · intro e
        have := congrArg List.length e
        rw [List.length_take, List.length_nil] at this
        omega
      · exact runes_ne n (s.drop (stp s)) (by simp; omega) p hp
theorem runes_valid : ∀ (n : Nat) (s : List UInt8), s.length ≤ n → (valid s = true ↔ ∀ p ∈ runes s, 0 ≤ valS p)
  | 0, s, h => by
    have : s = [] := List.eq_nil_of_length_eq_zero (by omega)
    subst this
    rw [runes_nil, valid_nil]; simp
  | n + 1, s, h => by
    by_cases hs : s = []
    · subst hs; rw [runes_nil, valid_nil]; simp
    · have hp := stp_pos s
      have hl : 0 < s.length := List.length_pos_iff.2 hs
      have ih := runes_valid n (s.drop (stp s)) (by simp; omega)
      have hv := valS_neg (s.take (stp s)) (runes_ne _ s (Nat.le_refl _) _ (by rw [runes_step s hs]; simp))
      rw [rsz_take s hs] at hv
      rw [runes_step s hs, List.forall_mem_cons, ← ih]
      by_cases c : rsz s = 0
      · rw [valid_bad s hs c]
        have := hv.2 c
        simp; intro; omega
      · have es : stp s = rsz s := by unfold stp; rw [if_neg c]
        rw [valid_step s c, es]
        have : ¬ valS (s.take (rsz s)) < 0 := by rw [← es]; exact fun k => c (hv.1 k)
        constructor
        · intro k; exact ⟨by omega, k⟩
        · exact fun k => k.2
theorem right_loop (h : Heap) (l : List (List UInt8)) (hl : l.length ≤ 4398046511104) (hn : ∀ p ∈ l, p ≠ []) : ∀ (m i : Nat), i + m = l.length → ∀ ks Q,
    ((∀ p ∈ l.drop i, 0 ≤ valS p) → ∀ e, Xk T ks (.x 0) e h Q) → ((¬ ∀ p ∈ l.drop i, 0 ≤ valS p) → ∀ e, Xk T ks .r ((2, .bool false) :: e) h Q) →
    Xc T l_ref06_right_0 ks [(3, .ps 1 (strs l)), (4, .int .i64 i)] h Q := by
  intro m
  induction m with
  | zero =>
    intro i hi ks Q h1 h2
    rw [L_ref06_right_0]; unfold bl_ref06_right_0
    have e0 : i = l.length := by omega
    subst e0
    simp (disch := omega) [strs_len]
    exact h1 (by simp) _
  | succ m ih =>
    intro i hi ks Q h1 h2
    rw [L_ref06_right_0]; unfold bl_ref06_right_0
    have e1 : i < l.length := by omega
    have e3 : (i : Int) < l.length := by omega
    have g := List.getElem?_eq_getElem e1
    have da : l.drop i = l[i] :: l.drop (i + 1) := List.drop_eq_getElem_cons e1
    have hi2 := hn l[i] (List.getElem_mem e1)
    rw [da, List.forall_mem_cons] at h1 h2
    simp (disch := first | omega | assumption) [strs_len, strs_get, e3, g, Value_p]
    refine Xb_dec (fun c1 => ?_) (fun c1 => ?_)
    · simp (disch := omega)
      exact h2 (fun k => by have := k.1; omega) _
    · simp (disch := omega)
      have := ih (i + 1) (by omega) ks Q (fun k => h1 ⟨by omega, k⟩) (fun k => h2 fun q => k q.2)
      simpa using this
theorem right_run (s : List UInt8) (h : Heap) (hs : s.length ≤ 4398046511104) : Run T f_ref06_right [.str s] h (.bool (valid s)) h := by
  refine Run.start t_ref06_right ?_
  unfold k_ref06_right
  have rl := runes_len _ s (Nat.le_refl _)
  have rv := runes_valid _ s (Nat.le_refl _)
  simp (disch := omega) [Parts_p]
  have := right_loop h (runes s) (by omega) (runes_ne _ s (Nat.le_refl _)) (runes s).length 0 (by omega)
  refine this _ _ (fun hh e => ?_) (fun hh e => ?_)
  · have : valid s = true := rv.2 (by simpa using hh)
    simp (disch := omega) [this]
  · have : valid s = false := by
      cases hv : valid s with
      | false => rfl
      | true => exact absurd (rv.1 hv) (by simpa using hh)
    simp (disch := omega) [this]
section
variable {ks : List Kt} {ops : List AOpr} {K : Kp} {e : Env} {h : Heap} {Q : Ex → Env → Heap → Prop} {d : Nat} {lent : Bool}
theorem right_p (s : List UInt8) (hs : s.length ≤ 4398046511104) : Xp T f_ref06_right (some ([.str s], lent)) h (some d) ops K ks e Q = Xo T ops K ks ((d, .bool (valid s)) :: e) h Q :=
  Xp_run (right_run s [] hs) (by simp) rfl (by simp [scalar])
end
inductive T6 where
  | mk (k n : Int) (s : List UInt8) (l : List T6)
namespace T6
def k : T6 → Int | .mk k _ _ _ => k
def n : T6 → Int | .mk _ n _ _ => n
def s : T6 → List UInt8 | .mk _ _ s _ => s
def l : T6 → List T6 | .mk _ _ _ l => l
mutual
def v : T6 → V
  | .mk k n s l => .agg [.int .i64 k, .int .u64 n, .str s, .ps 4 (vs l)]
def vs : List T6 → List V
  | [] => []
  | x :: r => v x :: vs r
end
mutual
/-- How many values there are, and letters. -/
def w : T6 → Nat
  | .mk _ _ s l => 1 + s.length + ws l
def ws : List T6 → Nat
  | [] => 0
  | x :: r => w x + ws r
end
mutual
def ok : T6 → Prop
  | .mk k n s l => (-9223372036854775808 ≤ k ∧ k ≤ 9223372036854775807) ∧ (0 ≤ n ∧ n ≤ 18446744073709551615) ∧ s.length ≤ 140737488351232 ∧ oks l
def oks : List T6 → Prop
  | [] => True
  | x :: r => ok x ∧ oks r
end
theorem vs_map : ∀ l : List T6, vs l = l.map v
  | [] => rfl
  | x :: r => by rw [vs, vs_map r]; rfl
theorem vs_len (l : List T6) : (vs l).length = l.length := by rw [vs_map]; simp
theorem vs_get (l : List T6) (i : Nat) : (vs l)[i]? = (l[i]?).map v := by rw [vs_map]; simp
theorem w_pos (t : T6) : 1 ≤ w t := by cases t; rw [w]; omega
theorem ws_len : ∀ l : List T6, l.length ≤ ws l
  | [] => by simp
  | x :: r => by
    have := ws_len r
    have := w_pos x
    simp only [ws, List.length_cons]; omega
theorem ws_mem : ∀ {l : List T6} {x : T6}, x ∈ l → w x ≤ ws l
  | y :: r, x, h => by
    rw [ws]
    rcases List.mem_cons.1 h with rfl | h
    · omega
    · have := ws_mem h; omega
theorem oks_mem : ∀ {l : List T6} {x : T6}, oks l → x ∈ l → ok x
  | y :: r, x, hk, h => by
    rw [oks] at hk
    rcases List.mem_cons.1 h with rfl | h
    · exact hk.1
    · exact oks_mem hk.2 h
mutual
theorem v_hf : ∀ t : T6, V.hf (v t) = true
  | .mk k n s l => by simp [v, vs_hfs l]
theorem vs_hfs : ∀ l : List T6, V.hfs (vs l) = true
  | [] => rfl
  | x :: r => by simp [vs, v_hf x, vs_hfs r]
end
theorem cells_len (t : T6) : t.v.cells.length = 4 := by cases t; rfl
theorem agg_v (t : T6) : V.agg (t.v.cells.take 4) = t.v := by cases t; rfl
theorem lt_ws : ∀ (t : T6), ws t.l < w t
  | .mk k n s l => by rw [w]; show ws l < _; omega
end T6
abbrev sh6 : List CS := [.i .i64, .i .u64, .s, .rc 25 56]
theorem read6s : ∀ (N : Nat) (xs : List V), V.bulks xs ≤ N → (∀ x ∈ xs, ∃ t : T6, x = t.v ∧ t.ok ∧ t.w ≤ V.bulk x) → ∃ l : List T6, xs = T6.vs l ∧ T6.oks l ∧ T6.ws l ≤ V.bulks xs
  | _, [], _, _ => ⟨[], rfl, trivial, by simp [T6.ws]⟩
  | N, x :: r, h, hx => by
    simp only [V.bulks] at h
    obtain ⟨t, rfl, h1, h2⟩ := hx x (by simp)
    obtain ⟨l, rfl, h3, h4⟩ := read6s N r (by omega) fun y hy => hx y (by simp [hy])
    exact ⟨t :: l, rfl, ⟨h1, h3⟩, by simp only [T6.ws, V.bulks]; omega⟩
theorem bulk_mem : ∀ {xs : List V} {x : V}, x ∈ xs → V.bulk x ≤ V.bulks xs
  | y :: r, x, h => by
    rw [V.bulks]
    rcases List.mem_cons.1 h with rfl | h
    · omega
    · have := bulk_mem h; omega
theorem read6 : ∀ (N : Nat) (vs : List V), V.bulks vs ≤ N → Row sh6 vs → ∃ t : T6, V.agg vs = t.v ∧ t.ok ∧ t.w ≤ V.bulks vs := by
  intro N
  induction N with
  | zero =>
    intro vs hN hr
    obtain ⟨v0, r0, rfl, h0, hr⟩ := hr.cons
    obtain ⟨n, rfl, _, _⟩ := h0.int
    simp only [V.bulks, V.bulk] at hN
    omega
  | succ N ih =>
    intro vs hN hr
    obtain ⟨v0, r0, rfl, h0, hr⟩ := hr.cons
    obtain ⟨v1, r1, rfl, h1, hr⟩ := hr.cons
    obtain ⟨v2, r2, rfl, h2, hr⟩ := hr.cons
    obtain ⟨v3, r3, rfl, h3, hr⟩ := hr.cons
    obtain rfl := hr.none
    obtain ⟨k, rfl, k1, k2⟩ := h0.int
    obtain ⟨n, rfl, n1, n2⟩ := h1.int
    obtain ⟨s, rfl, hs⟩ := h2.str
    simp only [V.bulks, V.bulk] at hN
    generalize hc : CS.rc 25 56 = c at h3
    cases h3 with
    | rc t bytes es he xs hn hs4 ha hk =>
      cases hc
      have : es = sh6 := by
        have : RS.lookup 25 = some sh6 := rfl
        rw [this] at he
        exact (Option.some.inj he).symm
      subst this
      simp only [V.bulk] at hN
      obtain ⟨l, rfl, h5, h6⟩ := read6s _ xs (Nat.le_refl _) fun x hx => by
        obtain ⟨us, rfl⟩ := ha x hx
        have hb := bulk_mem hx
        simp only [V.bulk] at hb
        obtain ⟨i, hi, he⟩ := List.getElem_of_mem hx
        have hl := hs4 _ hx
        obtain ⟨t, e, h7, h8⟩ := ih us (by omega) ⟨hl, fun j a b => by
          have := hk i hi j a (by rw [he]; exact b)
          simpa [he] using this⟩
        exact ⟨t, e, h7, by simpa [V.bulk] using h8⟩
      exact ⟨.mk k n s l, rfl, ⟨⟨k1, k2⟩, ⟨n1, n2⟩, hs, h5⟩, by simp only [T6.w, V.bulks, V.bulk]; omega⟩
    | _ => cases hc
/-! ### how great a value is -/
mutual
def dp : T6 → Int
  | .mk k _ _ l => if k = 4 then dps l else 0
def dps : List T6 → Int
  | [] => 0
  | x :: r => max (dp x + 1) (dps r)
end
mutual
def cnt : T6 → Nat
  | .mk k _ _ l => if k = 4 then 1 + cnts l else 1
def cnts : List T6 → Nat
  | [] => 0
  | x :: r => cnt x + cnts r
end
mutual
theorem dp_le : ∀ t : T6, 0 ≤ dp t ∧ dp t + 1 ≤ t.w
  | .mk k n s l => by
    have := dps_le l
    unfold dp T6.w
    split <;> omega
theorem dps_le : ∀ l : List T6, 0 ≤ dps l ∧ dps l ≤ T6.ws l
  | [] => by simp [dps, T6.ws]
  | x :: r => by
    have := dp_le x
    have := dps_le r
    simp only [dps, T6.ws]
    omega
end
mutual
theorem cnt_le : ∀ t : T6, 1 ≤ cnt t ∧ cnt t ≤ t.w
  | .mk k n s l => by
    have := cnts_le l
    unfold cnt T6.w
    split <;> omega
theorem cnts_le : ∀ l : List T6, cnts l ≤ T6.ws l
  | [] => by simp [cnts, T6.ws]
  | x :: r => by
    have := cnt_le x
    have := cnts_le r
    simp only [cnts, T6.ws]
    omega
end
def hiD (d : Int) (l : List T6) : Int := l.foldl (fun d x => max d (dp x + 1)) d
theorem hiD_eq : ∀ (l : List T6) (d : Int), 0 ≤ d → hiD d l = max d (dps l)
  | [], d, h => by simp [hiD, dps]; omega
  | x :: r, d, h => by
    have := hiD_eq r (max d (dp x + 1)) (by omega)
    unfold hiD at this ⊢
    rw [List.foldl_cons, this, dps]
    omega
theorem Sz_loop (k n : Int) (s : List UInt8) (l : List T6) (hw : T6.ws l ≤ 4194304) (hl : ∀ x ∈ l, ∃ h', Run T f_ref06_Size [x.v] [] (.tup [.int .i64 (dp x), .int .i64 (cnt x)]) h') :
    ∀ (m i : Nat), i + m = l.length → ∀ (d : Int) (c : Nat), 0 ≤ d → d ≤ 4194304 → c + cnts (l.drop i) ≤ 8388608 → ∀ ks Q (e : Env) (h0 : Heap),
    (∀ e, Xk T ks (.x 0) ([(1, .ptr h0.length 0), (4, .int .i64 (max d (dps (l.drop i)))), (5, .int .i64 ((c + cnts (l.drop i) : Nat) : Int))] ++ e) (h0 ++ [some [.int .i64 k, .int .u64 n, .str s, .ps 4 (T6.vs l)]]) Q) →
    Xc T l_ref06_Size_0 ks ([(1, .ptr h0.length 0), (4, .int .i64 d), (5, .int .i64 c), (6, .int .i64 i)] ++ e) (h0 ++ [some [.int .i64 k, .int .u64 n, .str s, .ps 4 (T6.vs l)]]) Q := by
  intro m
  induction m with
  | zero =>
    intro i hi d c hd hd2 hc ks Q e h0 hQ
    rw [L_ref06_Size_0]; unfold bl_ref06_Size_0
    have b5 := T6.ws_len l
    have e0 : i = l.length := by omega
    subst e0
    simp [dps, cnts, Int.max_eq_left hd] at hQ
    simp (disch := omega) [T6.vs_len]
    exact hQ _
  | succ m ih =>
    intro i hi d c hd hd2 hc ks Q e h0 hQ
    rw [L_ref06_Size_0]; unfold bl_ref06_Size_0
    have e1 : i < l.length := by omega
    have e3 : (i : Int) < l.length := by omega
    have g := List.getElem?_eq_getElem e1
    have da : l.drop i = l[i] :: l.drop (i + 1) := List.drop_eq_getElem_cons e1
    obtain ⟨h', r⟩ := hl l[i] (List.getElem_mem e1)
    have b1 := dp_le l[i]
    have b2 := cnt_le l[i]
    have b3 := T6.ws_mem (List.getElem_mem e1)
    have b5 := T6.ws_len l
    rw [da] at hc hQ
    simp only [dps, cnts] at hc hQ
    have b4 := dps_le (l.drop (i + 1))
    simp (disch := omega) [T6.vs_len, T6.vs_get, e3, g, T6.cells_len, T6.agg_v]
    rw [Xp_run r (by simp [T6.v_hf]) (by simp) (by simp)]
    simp (disch := omega) [High_pb]
    have e4 : max (max d (dp l[i] + 1)) (dps (l.drop (i + 1))) = max d (max (dp l[i] + 1) (dps (l.drop (i + 1)))) := by omega
    have e5 : c + cnt l[i] + cnts (l.drop (i + 1)) = c + (cnt l[i] + cnts (l.drop (i + 1))) := by omega
    have := ih (i + 1) (by omega) (max d (dp l[i] + 1)) (c + cnt l[i]) (by omega) (by omega) (by omega) ks Q [] h0 (by rw [e4, e5]; exact hQ)
    simpa using this
theorem Sz_run : ∀ (N : Nat) (t : T6), t.w ≤ N → t.w ≤ 4194304 → ∀ h, ∃ h', Run T f_ref06_Size [t.v] h (.tup [.int .i64 (dp t), .int .i64 (cnt t)]) h' := by
  intro N
  induction N with
  | zero => intro t ht; have := T6.w_pos t; omega
  | succ N ih =>
    intro t ht hb h
    obtain ⟨k, n, s, l⟩ := t
    rw [T6.w] at ht hb
    refine Run.startE t_ref06_Size ?_
    unfold k_ref06_Size
    simp (disch := omega) [T6.v]
    refine Xb_decn (fun c1 => ?_) (fun c1 => ?_)
    · simp (disch := omega) [dp, cnt, c1]
    · have b1 := dps_le l
      have b2 := cnts_le l
      simp (disch := omega)
      refine Sz_loop k n s l (by omega) (fun x hx => ih x (by have := T6.ws_mem hx; omega) (by have := T6.ws_mem hx; omega) []) l.length 0 (by omega) 0 1 (by omega) (by omega) (by simp; omega) _ _ [] _ (fun e => ?_)
      have e1 : max 0 (dps l) = dps l := by omega
      simp (disch := omega) [dp, cnt, c1, e1]
theorem Sz_p (t : T6) (ht : t.w ≤ 4194304) {ks : List Kt} {ops : List AOpr} {K : Kp} {e : Env} {h : Heap} {Q : Ex → Env → Heap → Prop} {d : Nat} : Xp T f_ref06_Size (some ([t.v], false)) h (some d) ops K ks e Q = Xo T ops K ks ((d, .tup [.int .i64 (dp t), .int .i64 (cnt t)]) :: e) h Q := by
  obtain ⟨h', r⟩ := Sz_run _ t (Nat.le_refl _) ht []
  exact Xp_run r (by simp [T6.v_hf]) (by simp) (by simp)
theorem v_eq (t : T6) : t.v = .agg [.int .i64 t.k, .int .u64 t.n, .str t.s, .ps 4 (T6.vs t.l)] := by cases t; rfl
def lgt (t : T6) : Bool := decide (dp t ≤ 30) && decide (cnt t ≤ 300)
theorem light_run (t : T6) (ht : t.w ≤ 4194304) : ∃ h', Run T f_law06_light [t.v] [] (.bool (lgt t)) h' := by
  refine Run.startE t_law06_light ?_
  unfold k_law06_light
  rw [v_eq]
  simp (disch := omega)
  rw [← v_eq]
  simp (disch := omega) [Sz_p, ht]
  refine Xg_dec (fun c1 => ?_) (fun c1 => ?_)
  · simp (disch := omega) [lgt, c1]
    omega
  · simp (disch := omega) [lgt, c1]
theorem light_p (t : T6) (ht : t.w ≤ 4194304) {ks : List Kt} {ops : List AOpr} {K : Kp} {e : Env} {h : Heap} {Q : Ex → Env → Heap → Prop} {d : Nat} {lent : Bool} (hl : lent = false) : Xp T f_law06_light (some ([t.v], lent)) h (some d) ops K ks e Q = Xo T ops K ks ((d, .bool (lgt t)) :: e) h Q := by
  obtain ⟨h', r⟩ := light_run t ht
  exact Xp_run r (by simp [T6.v_hf]) (by simp) (by simp [hl])
theorem deep_run (t : T6) (ht : t.w ≤ 4194304) : ∃ h', Run T f_law06_deep [t.v] [] (.bool (decide (16 < dp t))) h' := by
  refine Run.startE t_law06_deep ?_
  unfold k_law06_deep
  rw [v_eq]
  simp (disch := omega)
  rw [← v_eq]
  simp (disch := omega) [Sz_p, ht]
theorem deep_p (t : T6) (ht : t.w ≤ 4194304) {ks : List Kt} {ops : List AOpr} {K : Kp} {e : Env} {h : Heap} {Q : Ex → Env → Heap → Prop} {d : Nat} {lent : Bool} (hl : lent = false) : Xp T f_law06_deep (some ([t.v], lent)) h (some d) ops K ks e Q = Xo T ops K ks ((d, .bool (decide (16 < dp t))) :: e) h Q := by
  obtain ⟨h', r⟩ := deep_run t ht
  exact Xp_run r (by simp [T6.v_hf]) (by simp) (by simp [hl])
mutual
/-- Are its texts right, and its kinds ones that there are? -/
def rgt : T6 → Bool
  | .mk k _ s l => decide (0 ≤ k) && decide (k ≤ 7) && (decide (k ≠ 3) || valid s) && (decide (k ≠ 4) || rgts l)
def rgts : List T6 → Bool
  | [] => true
  | x :: r => rgt x && rgts r
end
theorem Rt_loop (n : Int) (s : List UInt8) (l : List T6) (hw : T6.ws l ≤ 4194304) (hl : ∀ x ∈ l, ∃ h', Run T f_ref06_Right [x.v] [] (.bool (rgt x)) h') :
    ∀ (m i : Nat), i + m = l.length → ∀ ks Q (e : Env) (h0 : Heap),
    (rgts (l.drop i) = true → ∀ e, Xk T ks (.x 0) e (h0 ++ [some [.int .i64 4, .int .u64 n, .str s, .ps 4 (T6.vs l)]]) Q) →
    (rgts (l.drop i) = false → ∀ e, Xk T ks .r ((2, .bool false) :: e) (h0 ++ [some [.int .i64 4, .int .u64 n, .str s, .ps 4 (T6.vs l)]]) Q) →
    Xc T l_ref06_Right_0 ks ([(1, .ptr h0.length 0), (3, .int .i64 i)] ++ e) (h0 ++ [some [.int .i64 4, .int .u64 n, .str s, .ps 4 (T6.vs l)]]) Q := by
  intro m
  induction m with
  | zero =>
    intro i hi ks Q e h0 h1 h2
    rw [L_ref06_Right_0]; unfold bl_ref06_Right_0
    have b5 := T6.ws_len l
    have e0 : i = l.length := by omega
    subst e0
    simp (disch := omega) [T6.vs_len]
    exact h1 (by simp [rgts]) _
  | succ m ih =>
    intro i hi ks Q e h0 h1 h2
    rw [L_ref06_Right_0]; unfold bl_ref06_Right_0
    have e1 : i < l.length := by omega
    have e3 : (i : Int) < l.length := by omega
    have g := List.getElem?_eq_getElem e1
    have da : l.drop i = l[i] :: l.drop (i + 1) := List.drop_eq_getElem_cons e1
    obtain ⟨h', r⟩ := hl l[i] (List.getElem_mem e1)
    have b5 := T6.ws_len l
    rw [da] at h1 h2
    simp only [rgts] at h1 h2
    simp (disch := omega) [T6.vs_len, T6.vs_get, e3, g, T6.cells_len, T6.agg_v]
    rw [Xp_run r (by simp [T6.v_hf]) (by simp) (by simp)]
    simp (disch := omega)
    refine Xb_intro (fun c1 => ?_) (fun c1 => ?_)
    · simp (disch := omega)
      exact h2 (by simp at c1; simp [c1]) _
    · simp at c1
      rw [c1] at h1 h2
      simp only [Bool.true_and] at h1 h2
      simp (disch := omega)
      have := ih (i + 1) (by omega) ks Q [] h0 h1 h2
      simpa using this
theorem Rt_run : ∀ (N : Nat) (t : T6), t.w ≤ N → t.w ≤ 4194304 → ∃ h', Run T f_ref06_Right [t.v] [] (.bool (rgt t)) h' := by
  intro N
  induction N with
  | zero => intro t ht; have := T6.w_pos t; omega
  | succ N ih =>
    intro t ht hb
    obtain ⟨k, n, s, l⟩ := t
    rw [T6.w] at ht hb
    refine Run.startE t_ref06_Right ?_
    unfold k_ref06_Right
    rw [rgt]
    have b5 := T6.ws_len l
    by_cases k0 : k < 0
    · have k1 : ¬ (0 ≤ k) := by omega
      simp (disch := omega) [T6.v, k0, k1]
    · have k1 : 0 ≤ k := by omega
      by_cases k2 : 7 < k
      · have k3 : ¬ (k ≤ 7) := by omega
        simp (disch := omega) [T6.v, k0, k1, k2, k3]
      · have k3 : k ≤ 7 := by omega
        by_cases k4 : k = 3
        · subst k4
          cases hv : valid s with
          | false => simp (disch := omega) [T6.v, right_p, hv]
          | true =>
            simp (disch := omega) [T6.v, right_p, hv]
            rw [L_ref06_Right_0]; unfold bl_ref06_Right_0
            simp (disch := omega) [T6.vs_len]
            refine Xg_dec (fun c => ?_) (fun c => ?_)
            · simp (disch := omega) [c]
            · simp (disch := omega) [c]
        · by_cases k5 : k = 4
          · subst k5
            simp (disch := omega) [T6.v]
            refine Rt_loop n s l (by omega) (fun x hx => ih x (by have := T6.ws_mem hx; omega) (by have := T6.ws_mem hx; omega)) l.length 0 (by omega) _ _ [] [] (fun hh e => ?_) (fun hh e => ?_)
            · simp at hh
              simp (disch := omega) [hh]
            · simp at hh
              simp (disch := omega) [hh]
          · simp (disch := omega) [T6.v, k0, k1, k2, k3, k4, k5]
            rw [L_ref06_Right_0]; unfold bl_ref06_Right_0
            simp (disch := omega) [T6.vs_len]
            refine Xg_dec (fun c => ?_) (fun c => ?_)
            · simp (disch := omega) [c, k5]
            · simp (disch := omega) [c]
theorem Rt_p (t : T6) (ht : t.w ≤ 4194304) {ks : List Kt} {ops : List AOpr} {K : Kp} {e : Env} {h : Heap} {Q : Ex → Env → Heap → Prop} {d : Nat} {lent : Bool} (hl : lent = false) : Xp T f_ref06_Right (some ([t.v], lent)) h (some d) ops K ks e Q = Xo T ops K ks ((d, .bool (rgt t)) :: e) h Q := by
  obtain ⟨h', r⟩ := Rt_run _ t (Nat.le_refl _) ht
  exact Xp_run r (by simp [T6.v_hf]) (by simp) (by simp [hl])
@[simp] theorem ta_eq (t : Nat) (z v : V) : taV t z true (.iface t v) = some (.tup [v, .bool true]) := by simp [taV]
@[simp] theorem ta_ne (t t' : Nat) (z v : V) (h : t' ≠ t) : taV t z true (.iface t' v) = some (.tup [z, .bool false]) := by simp [taV, h]
@[simp] theorem ta_nil (t : Nat) (z : V) : taV t z true .nili = some (.tup [z, .bool false]) := by simp [taV]
@[simp] theorem ta_f (t : Nat) (z v : V) : taV t z false (.iface t v) = some v := by simp [taV]

mutual
def anyV : T6 → V
  | .mk k n s l => if k = 0 then .iface 22 (.int .u64 n) else if k = 1 then .iface 90 (.int .u64 n) else if k = 2 then .iface 31 (.ps 1 (bys s)) else if k = 3 then .iface 9 (.str s) else
    if k = 4 then .iface 36 (.ps 1 (anys l)) else if k = 5 then .iface 4 (.bool false) else if k = 6 then .iface 4 (.bool true) else .nili
def anys : List T6 → List V
  | [] => []
  | x :: r => anyV x :: anys r
end
theorem anys_map : ∀ l : List T6, anys l = l.map anyV
  | [] => rfl
  | x :: r => by rw [anys, anys_map r]; rfl
theorem anys_len (l : List T6) : (anys l).length = l.length := by rw [anys_map]; simp
theorem anys_get (l : List T6) (i : Nat) : (anys l)[i]? = (l[i]?).map anyV := by rw [anys_map]; simp
theorem anys_app (a b : List T6) : anys (a ++ b) = anys a ++ anys b := by simp [anys_map]
mutual
theorem anyV_hf : ∀ t : T6, V.hf (anyV t) = true
  | .mk k n s l => by unfold anyV; (repeat' split) <;> simp [bys_hfs, anys_hfs l]
theorem anys_hfs : ∀ l : List T6, V.hfs (anys l) = true
  | [] => rfl
  | x :: r => by simp [anys, anyV_hf x, anys_hfs r]
end
theorem anyV_one (t : T6) : V.one (anyV t) = true := by
  obtain ⟨k, n, s, l⟩ := t
  unfold anyV
  (repeat' split) <;> rfl
theorem anyV_cells (t : T6) : (anyV t).cells = [anyV t] := by
  obtain ⟨k, n, s, l⟩ := t
  unfold anyV
  (repeat' split) <;> rfl
theorem Any_loop (n : Int) (s : List UInt8) (l : List T6) (hw : T6.ws l ≤ 4194304) (hl : ∀ x ∈ l, ∃ h', Run T f_law06_Any [x.v] [] (anyV x) h') :
    ∀ (m i : Nat), i + m = l.length → ∀ ks Q (e : Env) (h0 : Heap),
    (∀ e, Xk T ks (.x 1) ([(1, .ptr h0.length 0), (3, .ps 1 (anys l))] ++ e) (h0 ++ [some [.int .i64 4, .int .u64 n, .str s, .ps 4 (T6.vs l)]]) Q) →
    Xc T l_law06_Any_0 ks ([(1, .ptr h0.length 0), (3, .ps 1 (anys (l.take i))), (4, .int .i64 i)] ++ e) (h0 ++ [some [.int .i64 4, .int .u64 n, .str s, .ps 4 (T6.vs l)]]) Q := by
  intro m
  induction m with
  | zero =>
    intro i hi ks Q e h0 hQ
    rw [L_law06_Any_0]; unfold bl_law06_Any_0
    have b5 := T6.ws_len l
    have e0 : i = l.length := by omega
    subst e0
    rw [List.take_length]
    simp (disch := omega) [T6.vs_len]
    exact hQ _
  | succ m ih =>
    intro i hi ks Q e h0 hQ
    rw [L_law06_Any_0]; unfold bl_law06_Any_0
    have e1 : i < l.length := by omega
    have e3 : (i : Int) < l.length := by omega
    have g := List.getElem?_eq_getElem e1
    obtain ⟨h', r⟩ := hl l[i] (List.getElem_mem e1)
    have b5 := T6.ws_len l
    have ht := take_get l i e1
    have lt : (l.take i).length = i := by rw [List.length_take]; omega
    simp (disch := omega) [T6.vs_len, T6.vs_get, e3, g, T6.cells_len, T6.agg_v]
    rw [Xp_run r (by simp [T6.v_hf]) (by simp [anyV_hf]) (by simp)]
    simp (disch := omega) [anyV_hf, anyV_one, anyV_cells, anys_len, lt]
    have := ih (i + 1) (by omega) ks Q [] h0 hQ
    rw [ht, anys_app] at this
    simpa [anys] using this
theorem Any_run : ∀ (N : Nat) (t : T6), t.w ≤ N → t.w ≤ 4194304 → ∃ h', Run T f_law06_Any [t.v] [] (anyV t) h' := by
  intro N
  induction N with
  | zero => intro t ht; have := T6.w_pos t; omega
  | succ N ih =>
    intro t ht hb
    obtain ⟨k, n, s, l⟩ := t
    rw [T6.w] at ht hb
    refine Run.startE t_law06_Any ?_
    unfold k_law06_Any
    rw [anyV]
    have b5 := T6.ws_len l
    simp (disch := omega) [T6.v]
    refine Xb_dec (fun c0 => ?_) (fun c0 => ?_)
    · subst c0; simp (disch := omega)
    · simp (disch := omega)
      refine Xb_dec (fun c1 => ?_) (fun c1 => ?_)
      · subst c1; simp (disch := omega)
      · simp (disch := omega)
        refine Xb_dec (fun c2 => ?_) (fun c2 => ?_)
        · subst c2; simp (disch := omega) [sb_bys]
        · simp (disch := omega)
          refine Xb_dec (fun c3 => ?_) (fun c3 => ?_)
          · subst c3; simp (disch := omega)
          · simp (disch := omega)
            refine Xb_dec (fun c4 => ?_) (fun c4 => ?_)
            · subst c4
              simp (disch := omega)
              have := Any_loop n s l (by omega) (fun x hx => ih x (by have := T6.ws_mem hx; omega) (by have := T6.ws_mem hx; omega)) l.length 0 (by omega)
              simp at this
              refine this _ _ [] [] (fun e => ?_)
              simp (disch := omega)
            · simp (disch := omega)
              refine Xb_dec (fun c5 => ?_) (fun c5 => ?_)
              · subst c5; simp (disch := omega)
              · simp (disch := omega)
                refine Xb_dec (fun c6 => ?_) (fun c6 => ?_)
                · subst c6; simp (disch := omega)
                · simp (disch := omega) [c0, c1, c2, c3, c4, c5, c6]
theorem itemput_e (m : Int) (n : Nat) {ks : List Kt} {ops : List AOpr} {K : Kp} {e : Env} {h : Heap} {Q : Ex → Env → Heap → Prop} {d : Nat} (h0 : 0 ≤ m) (hm : m ≤ 7) (hn : n < 9223372036854775808) : Xp T f_item_put (some ([.int .i64 m, .int .i64 n, .str []], false)) h (some d) ops K ks e Q = Xo T ops K ks ((d, .ps 1 (bys (hdB m.toNat n))) :: e) h Q := by
  have := itemput_pi (ks := ks) (ops := ops) (K := K) (e := e) (h := h) (Q := Q) (d := d) m n [] h0 hm hn (by simp)
  rw [List.append_nil] at this
  exact this
mutual
/-- The bytes of a value. -/
def enc : T6 → List UInt8
  | .mk k n s l => if k = 0 then hdB 0 n.toNat else if k = 1 then hdB 1 n.toNat else if k = 2 then hdB 2 s.length ++ s else if k = 3 then hdB 3 s.length ++ s else
    if k = 4 then hdB 4 l.length ++ encs l else if k = 5 then hdB 7 20 else if k = 6 then hdB 7 21 else hdB 7 22
def encs : List T6 → List UInt8
  | [] => []
  | x :: r => enc x ++ encs r
end
theorem encs_app : ∀ (a b : List T6), encs (a ++ b) = encs a ++ encs b
  | [], b => by simp [encs]
  | x :: r, b => by simp only [List.cons_append, encs, encs_app r b, List.append_assoc]
mutual
theorem enc_len : ∀ t : T6, (enc t).length ≤ 9 * t.w
  | .mk k n s l => by
    have h1 := encs_len l
    have h2 := fun m n => hdB_len m n
    unfold enc T6.w
    (repeat' split) <;> (try simp only [List.length_append]) <;> first | (have := h2 0 n.toNat; omega) | (have := h2 1 n.toNat; omega) | (have := h2 2 s.length; omega) | (have := h2 3 s.length; omega) | (have := h2 4 l.length; omega) | (have := h2 7 20; omega) | (have := h2 7 21; omega) | (have := h2 7 22; omega)
theorem encs_len : ∀ l : List T6, (encs l).length ≤ 9 * T6.ws l
  | [] => by simp [encs, T6.ws]
  | x :: r => by
    have := enc_len x
    have := encs_len r
    simp only [encs, T6.ws, List.length_append]
    omega
end
theorem one_run (h : Heap) (d : Int) (c : Nat) (hd : d ≤ 16) (hc : c + 1 ≤ 4096) : Run T f_item_counter_one [.ptr h.length 0, .int .i64 d] (h ++ [some [.int .i64 c]]) (.int .i64 0) (h ++ [some [.int .i64 ((c + 1 : Nat) : Int)]]) := by
  refine Run.start t_item_counter_one ?_
  unfold k_item_counter_one
  have c1 : ¬ (16 < d) := by omega
  have c2 : ¬ ((4096 : Int) < (c : Int) + 1) := by omega
  simp (disch := omega) [c1, c2]
theorem lay_loop (h : Heap) (d : Int) (hd0 : 0 ≤ d) (hd : d ≤ 16) (l : List T6) (hw : T6.ws l ≤ 4194304) (hc0 : cnts l ≤ 4096) (pre : List UInt8) (hp : pre.length ≤ 9)
    (hl : ∀ x ∈ l, ∀ c : Nat, c + cnt x ≤ 4096 → Run T f_item_counter_lay [.ptr h.length 0, anyV x, .int .i64 (d + 1)] (h ++ [some [.int .i64 c]]) (.tup [.ps 1 (bys (enc x)), .int .i64 0]) (h ++ [some [.int .i64 ((c + cnt x : Nat) : Int)]])) :
    ∀ (m i : Nat), i + m = l.length → ∀ (c : Nat), c + cnts (l.drop i) ≤ 4096 → ∀ ks Q (e : Env),
    (∀ e, Xk T ks (.x 1) ([(0, .ptr h.length 0), (2, .int .i64 d), (16, .ps 1 (bys (pre ++ encs l)))] ++ e) (h ++ [some [.int .i64 ((c + cnts (l.drop i) : Nat) : Int)]]) Q) →
    Xc T l_item_counter_lay_0 ks ([(0, .ptr h.length 0), (2, .int .i64 d), (16, .ps 1 (bys (pre ++ encs (l.take i)))), (74, .ps 1 (anys l)), (75, .int .i64 l.length), (76, .int .i64 i)] ++ e) (h ++ [some [.int .i64 c]]) Q := by
  intro m
  induction m with
  | zero =>
    intro i hi c hc ks Q e hQ
    rw [L_item_counter_lay_0]; unfold bl_item_counter_lay_0
    have b5 := T6.ws_len l
    have e0 : i = l.length := by omega
    subst e0
    rw [List.take_length]
    simp [cnts] at hQ
    simp (disch := omega)
    exact hQ _
  | succ m ih =>
    intro i hi c hc ks Q e hQ
    rw [L_item_counter_lay_0]; unfold bl_item_counter_lay_0
    have e1 : i < l.length := by omega
    have e3 : (i : Int) < l.length := by omega
    have g := List.getElem?_eq_getElem e1
    have da : l.drop i = l[i] :: l.drop (i + 1) := List.drop_eq_getElem_cons e1
    have b5 := T6.ws_len l
    rw [da] at hc hQ
    simp only [cnts] at hc hQ
    have r := hl l[i] (List.getElem_mem e1) c (by omega)
    have ht := take_get l i e1
    have bl := encs_len (l.take i)
    have be := enc_len l[i]
    have bm := T6.ws_mem (List.getElem_mem e1)
    have bt : T6.ws (l.take i) ≤ T6.ws l := by
      have : ∀ (a b : List T6), T6.ws (a ++ b) = T6.ws a + T6.ws b := by
        intro a b
        induction a with
        | nil => simp [T6.ws]
        | cons x r ih => simp only [List.cons_append, T6.ws, ih]; omega
      have h1 := this (l.take i) (l.drop i)
      rw [List.take_append_drop] at h1
      omega
    simp (disch := omega) [anys_len, anys_get, e3, g, anyV_cells]
    rw [Xf_run r]
    simp (disch := omega) [bys_len]
    have := ih (i + 1) (by omega) (c + cnt l[i]) (by omega) ks Q [] (by rw [Nat.add_assoc]; exact hQ)
    rw [ht, encs_app, ← List.append_assoc, bys_app] at this
    simpa [encs] using this
theorem rgts_mem : ∀ {l : List T6} {x : T6}, rgts l = true → x ∈ l → rgt x = true
  | y :: r, x, hk, h => by
    simp only [rgts, Bool.and_eq_true] at hk
    rcases List.mem_cons.1 h with rfl | h
    · exact hk.1
    · exact rgts_mem hk.2 h
theorem dps_mem : ∀ {l : List T6} {x : T6}, x ∈ l → dp x + 1 ≤ dps l
  | y :: r, x, h => by
    rw [dps]
    rcases List.mem_cons.1 h with rfl | h
    · omega
    · have := dps_mem h; omega
theorem lay_run : ∀ (N : Nat) (t : T6), t.w ≤ N → t.w ≤ 4194304 → t.ok → rgt t = true → ∀ (h : Heap) (d : Int) (c : Nat), 0 ≤ d → d + dp t ≤ 16 → c + cnt t ≤ 4096 →
    Run T f_item_counter_lay [.ptr h.length 0, anyV t, .int .i64 d] (h ++ [some [.int .i64 c]]) (.tup [.ps 1 (bys (enc t)), .int .i64 0]) (h ++ [some [.int .i64 ((c + cnt t : Nat) : Int)]]) := by
  intro N
  induction N with
  | zero => intro t ht; have := T6.w_pos t; omega
  | succ N ih =>
    intro t ht hb hok hr h d c hd hdp hc
    obtain ⟨k, n, s, l⟩ := t
    rw [T6.w] at ht hb
    obtain ⟨hk, hn, hs, hl⟩ := hok
    obtain ⟨n, rfl⟩ := Int.eq_ofNat_of_zero_le hn.1
    simp only [rgt, Bool.and_eq_true, decide_eq_true_eq, Bool.or_eq_true] at hr
    obtain ⟨⟨⟨k0, k7⟩, ht3⟩, ht4⟩ := hr
    have b5 := T6.ws_len l
    have d0 := (dp_le (.mk k n s l)).1
    have o1 := one_run h d c (by omega) (by have := (cnt_le (.mk k n s l)).1; omega)
    refine Run.start t_item_counter_lay ?_
    unfold k_item_counter_lay
    simp (disch := omega)
    rw [Xf_run o1]
    unfold anyV enc cnt
    by_cases c0 : k = 0
    · subst c0; simp (disch := omega) [headPut_pi]
    by_cases c1 : k = 1
    · subst c1; simp (disch := omega) [headPut_pi]
    by_cases c2 : k = 2
    · subst c2; simp (disch := omega) [bys_back, bys_len, itemput_pi]
    by_cases c3 : k = 3
    · subst c3
      have hv : valid s = true := by rcases ht3 with h | h; exact absurd rfl h; exact h
      simp (disch := omega) [ValidString_p, hv, itemput_pi]
    by_cases c4 : k = 4
    · subst c4
      have hrl : rgts l = true := by rcases ht4 with h | h; exact absurd rfl h; exact h
      simp only [dp, cnt, if_true] at hdp hc
      have hll := hdB_len 4 l.length
      have d1 := (dps_le l).1
      simp (disch := omega) [anys_len, itemput_e]
      have := lay_loop h d hd (by omega) l (by omega) (by omega) (hdB 4 l.length) hll (fun x hx c hc => ih x (by have := T6.ws_mem hx; omega) (by have := T6.ws_mem hx; omega) (T6.oks_mem hl hx) (rgts_mem hrl hx) h (d + 1) c (by omega) (by have := dps_mem hx; omega) hc) l.length 0 (by omega) (c + 1) (by simp; omega)
      simp [encs] at this
      refine this _ _ [] (fun e => ?_)
      simp (disch := omega) [bys_app]
      omega
    by_cases c5 : k = 5
    · subst c5; simp (disch := omega) [simple_pi]
    by_cases c6 : k = 6
    · subst c6; simp (disch := omega) [simple_pi]
    have c7 : k = 7 := by omega
    subst c7
    simp (disch := omega) [simple_pi]
theorem itemPut_run (t : T6) (hb : t.w ≤ 4194304) (hok : t.ok) (hr : rgt t = true) (hd : dp t ≤ 16) (hc : cnt t ≤ 4096) : ∃ h', Run T f_item_Put [anyV t] [] (.tup [.ps 1 (bys (enc t)), .int .i64 0]) h' := by
  refine Run.startE t_item_Put ?_
  unfold k_item_Put
  have := lay_run _ t (Nat.le_refl _) hb hok hr [] 0 0 (by omega) (by omega) (by omega)
  simp (disch := omega)
  simp at this
  rw [Xf_run this]
  simp (disch := omega)
theorem itemPut_p (t : T6) (hb : t.w ≤ 4194304) (hok : t.ok) (hr : rgt t = true) (hd : dp t ≤ 16) (hc : cnt t ≤ 4096) {ks : List Kt} {ops : List AOpr} {K : Kp} {e : Env} {h : Heap} {Q : Ex → Env → Heap → Prop} {d : Nat} : Xp T f_item_Put (some ([anyV t], false)) h (some d) ops K ks e Q = Xo T ops K ks ((d, .tup [.ps 1 (bys (enc t)), .int .i64 0]) :: e) h Q := by
  obtain ⟨h', r⟩ := itemPut_run t hb hok hr hd hc
  exact Xp_run r (by simp [anyV_hf]) (by simp [bys_hfs]) (by simp)
theorem Same_run (t : T6) (hb : t.w ≤ 4194304) (hok : t.ok) (hr : rgt t = true) (hd : dp t ≤ 16) (hc : cnt t ≤ 4096) : ∃ h', Run T f_item_Same [anyV t, anyV t] [] (.bool true) h' := by
  refine Run.startE t_item_Same ?_
  unfold k_item_Same
  simp (disch := first | omega | assumption) [itemPut_p, bys_back]
theorem one_any (h : Heap) (d : Int) (c : Nat) (hc : c + 1 ≤ 4096) : Run T f_item_counter_one [.ptr h.length 0, .int .i64 d] (h ++ [some [.int .i64 c]]) (.int .i64 (if 16 < d then 4 else 0)) (h ++ [some [.int .i64 ((c + 1 : Nat) : Int)]]) := by
  refine Run.start t_item_counter_one ?_
  unfold k_item_counter_one
  have c2 : ¬ ((4096 : Int) < (c : Int) + 1) := by omega
  by_cases c1 : 16 < d
  · simp (disch := omega) [c1]
  · simp (disch := omega) [c1, c2]
/-- What laying a value comes to: bytes, an error, a count. -/
def LayP (h : Heap) (lo hi len : Nat) (v : V) (h' : Heap) : Prop := ∃ (b : List UInt8) (er : Int) (c : Nat), v = .tup [.ps 1 (bys b), .int .i64 er] ∧ h' = h ++ [some [.int .i64 (c : Int)]] ∧ lo ≤ c ∧ c ≤ hi ∧ b.length ≤ len
theorem LayP.of {h : Heap} {lo hi len : Nat} (b : List UInt8) (er : Int) (c : Nat) (h1 : lo ≤ c) (h2 : c ≤ hi) (h3 : b.length ≤ len) : LayP h lo hi len (.tup [.ps 1 (bys b), .int .i64 er]) (h ++ [some [.int .i64 (c : Int)]]) := ⟨b, er, c, rfl, rfl, h1, h2, h3⟩
theorem LayP.nil {h : Heap} {lo hi len : Nat} (er : Int) (c : Nat) (h1 : lo ≤ c) (h2 : c ≤ hi) : LayP h lo hi len (.tup [.ps 1 [], .int .i64 er]) (h ++ [some [.int .i64 (c : Int)]]) := ⟨[], er, c, rfl, rfl, h1, h2, by simp⟩
theorem laya_loop (h : Heap) (d : Int) (hd0 : 0 ≤ d) (hd : d ≤ 16) (l : List T6) (hw : T6.ws l ≤ 4194304)
    (hl : ∀ x ∈ l, ∀ c : Nat, c + cnt x ≤ 4096 → ∃ v h', LayP h c (c + cnt x) (9 * x.w) v h' ∧ Run T f_item_counter_lay [.ptr h.length 0, anyV x, .int .i64 (d + 1)] (h ++ [some [.int .i64 c]]) v h') :
    ∀ (m i : Nat), i + m = l.length → ∀ (c lo hi : Nat) (out : List UInt8) (len : Nat), lo ≤ c → c + cnts (l.drop i) ≤ hi → hi ≤ 4096 → out.length + 9 * T6.ws (l.drop i) ≤ len → len ≤ 100000000 → ∀ ks Q (e : Env),
    (∀ e out c, lo ≤ c → c ≤ hi → out.length ≤ len → Xk T ks (.x 1) ([(0, .ptr h.length 0), (2, .int .i64 d), (16, .ps 1 (bys out))] ++ e) (h ++ [some [.int .i64 (c : Int)]]) Q) →
    (∀ e c er, lo ≤ c → c ≤ hi → Xk T ks .r ([(6, .ps 1 []), (7, .int .i64 er)] ++ e) (h ++ [some [.int .i64 (c : Int)]]) Q) →
    Xc T l_item_counter_lay_0 ks ([(0, .ptr h.length 0), (2, .int .i64 d), (16, .ps 1 (bys out)), (74, .ps 1 (anys l)), (75, .int .i64 l.length), (76, .int .i64 i)] ++ e) (h ++ [some [.int .i64 c]]) Q := by
  intro m
  induction m with
  | zero =>
    intro i hi c lo hh out len h1 h2 h3 h4 h5 ks Q e hQ hR
    rw [L_item_counter_lay_0]; unfold bl_item_counter_lay_0
    have b5 := T6.ws_len l
    have e0 : i = l.length := by omega
    subst e0
    simp (disch := omega)
    exact hQ _ _ _ (by omega) (by omega) (by omega)
  | succ m ih =>
    intro i hi c lo hh out len h1 h2 h3 h4 h5 ks Q e hQ hR
    rw [L_item_counter_lay_0]; unfold bl_item_counter_lay_0
    have e1 : i < l.length := by omega
    have e3 : (i : Int) < l.length := by omega
    have g := List.getElem?_eq_getElem e1
    have da : l.drop i = l[i] :: l.drop (i + 1) := List.drop_eq_getElem_cons e1
    have b5 := T6.ws_len l
    rw [da] at h2 h4
    simp only [cnts, T6.ws] at h2 h4
    obtain ⟨v, h', ⟨b, er, c', rfl, rfl, p1, p2, p3⟩, r⟩ := hl l[i] (List.getElem_mem e1) c (by omega)
    simp (disch := omega) [anys_len, anys_get, e3, g, anyV_cells]
    rw [Xf_run r]
    simp (disch := omega) [bys_len]
    refine Xb_decn (fun c1 => ?_) (fun c1 => ?_)
    · simp (disch := omega)
      exact hR _ _ _ (by omega) (by omega)
    · simp (disch := omega) [bys_len]
      have := ih (i + 1) (by omega) c' lo hh (out ++ b) len (by omega) (by omega) h3 (by simp; omega) h5 ks Q [] hQ hR
      rw [bys_app] at this
      simpa using this
theorem lay_any : ∀ (N : Nat) (t : T6), t.w ≤ N → t.w ≤ 4194304 → t.ok → rgt t = true → ∀ (h : Heap) (d : Int) (c : Nat), 0 ≤ d → d + t.w ≤ 8388608 → c + cnt t ≤ 4096 →
    ∃ v h', LayP h c (c + cnt t) (9 * t.w) v h' ∧ Run T f_item_counter_lay [.ptr h.length 0, anyV t, .int .i64 d] (h ++ [some [.int .i64 c]]) v h' := by
  intro N
  induction N with
  | zero => intro t ht; have := T6.w_pos t; omega
  | succ N ih =>
    intro t ht hb hok hr h d c hd hdp hc
    have hcp := (cnt_le t).1
    by_cases d16 : d ≤ 16
    case neg =>
      have o1 := one_any h d c (by omega)
      rw [if_pos (by omega)] at o1
      refine Run.startP t_item_counter_lay ?_
      unfold k_item_counter_lay
      simp (disch := omega)
      rw [Xf_run o1]
      simp (disch := omega)
      exact LayP.nil (h := h) 4 (c + 1) (by omega) (by omega)
    obtain ⟨k, n, s, l⟩ := t
    by_cases hlist : k = 4
    case neg =>
      have hdp0 : dp (.mk k n s l) = 0 := by simp [dp, hlist]
      exact ⟨_, _, LayP.of _ _ _ (by omega) (by omega) (enc_len _), lay_run _ _ ht hb hok hr h d c hd (by omega) hc⟩
    subst hlist
    rw [T6.w] at ht hb
    obtain ⟨hk, hn, hs, hl⟩ := hok
    simp only [rgt, Bool.and_eq_true, decide_eq_true_eq, Bool.or_eq_true] at hr
    obtain ⟨_, ht4⟩ := hr
    have hrl : rgts l = true := by rcases ht4 with h | h; exact absurd rfl h; exact h
    have b5 := T6.ws_len l
    have o1 := one_any h d c (by omega)
    rw [if_neg (by omega)] at o1
    have ec : cnt (.mk 4 n s l) = 1 + cnts l := by simp [cnt]
    have ew : T6.w (.mk 4 n s l) = 1 + s.length + T6.ws l := by rw [T6.w]
    rw [ec] at hc ⊢
    rw [ew] at hdp ⊢
    have hll := hdB_len 4 l.length
    refine Run.startP t_item_counter_lay ?_
    unfold k_item_counter_lay
    simp (disch := omega)
    rw [Xf_run o1]
    unfold anyV
    simp (disch := omega) [anys_len, itemput_e]
    have := laya_loop h d hd (by omega) l (by omega) (fun x hx c hc => ih x (by have := T6.ws_mem hx; omega) (by have := T6.ws_mem hx; omega) (T6.oks_mem hl hx) (rgts_mem hrl hx) h (d + 1) c (by omega) (by have := T6.ws_mem hx; omega) hc) l.length 0 (by omega) (c + 1) (c + 1) (c + 1 + cnts l) (hdB 4 l.length) (9 + 9 * T6.ws l) (by omega) (by simp) (by omega) (by simp; omega) (by omega)
    simp at this
    refine this _ _ [] (fun e out c' h1 h2 h3 => ?_) (fun e c' er h1 h2 => ?_)
    · simp (disch := omega)
      exact LayP.of (h := h) out 0 c' (by omega) (by omega) (by omega)
    · simp (disch := omega)
      exact LayP.nil (h := h) er c' (by omega) (by omega)
def PutP (v : V) (_ : Heap) : Prop := ∃ (b : List UInt8) (er : Int), v = .tup [.ps 1 (bys b), .int .i64 er]
theorem itemPut_any (t : T6) (hb : t.w ≤ 4194304) (hok : t.ok) (hr : rgt t = true) (hc : cnt t ≤ 4096) : ∃ (b : List UInt8) (er : Int) (h' : Heap), Run T f_item_Put [anyV t] [] (.tup [.ps 1 (bys b), .int .i64 er]) h' := by
  obtain ⟨v, h', ⟨b, er, c, rfl, rfl, _, _, _⟩, r⟩ := lay_any _ t (Nat.le_refl _) hb hok hr [] 0 0 (by omega) (by omega) (by omega)
  obtain ⟨v, h', ⟨b, er, rfl⟩, r⟩ := Run.startP (P := PutP) (vs := [anyV t]) (h := []) t_item_Put (by
    unfold k_item_Put
    simp (disch := omega)
    simp at r
    rw [Xf_run r]
    simp (disch := omega)
    exact ⟨b, er, rfl⟩)
  exact ⟨b, er, h', r⟩
theorem Same_any (t : T6) (hb : t.w ≤ 4194304) (hok : t.ok) (hr : rgt t = true) (hc : cnt t ≤ 4096) : ∃ (b : Bool) (h' : Heap), Run T f_item_Same [anyV t, anyV t] [] (.bool b) h' := by
  obtain ⟨b, er, h', r⟩ := itemPut_any t hb hok hr hc
  have rp := fun {ks ops K e h Q d} => Xp_run (b := false) (ks := ks) (ops := ops) (K := K) (e := e) (h := h) (Q := Q) (d := d) r (by simp [anyV_hf]) (by simp [bys_hfs]) (by simp)
  refine ⟨decide (er = 0), ?_⟩
  refine Run.startE t_item_Same ?_
  unfold k_item_Same
  simp (disch := omega) [rp]
  refine Xg_dec (fun c1 => ?_) (fun c1 => ?_)
  · simp (disch := omega) [c1, bys_back]
  · simp (disch := omega) [c1, bys_back]
def asN (t : T6) : Int := if t.k = 0 then t.n else 0
def asB (t : T6) : List UInt8 := if t.k = 2 then t.s else []
def asS (t : T6) : List UInt8 := if t.k = 3 then t.s else []
def asL (t : T6) : List T6 := if t.k = 4 then t.l else []
theorem any_def (t : T6) : anyV t = if t.k = 0 then .iface 22 (.int .u64 t.n) else if t.k = 1 then .iface 90 (.int .u64 t.n) else if t.k = 2 then .iface 31 (.ps 1 (bys t.s)) else if t.k = 3 then .iface 9 (.str t.s) else
    if t.k = 4 then .iface 36 (.ps 1 (anys t.l)) else if t.k = 5 then .iface 4 (.bool false) else if t.k = 6 then .iface 4 (.bool true) else .nili := by
  cases t
  rfl
theorem w_def (t : T6) : t.w = 1 + t.s.length + T6.ws t.l := by cases t; rw [T6.w]; rfl
theorem Uint_run (t : T6) (h : Heap) : Run T f_item_Uint [anyV t] h (.tup [.int .u64 (asN t), .bool (decide (t.k = 0))]) h := by
  refine Run.start t_item_Uint ?_
  unfold k_item_Uint asN
  rw [any_def]
  by_cases c0 : t.k = 0
  · simp (disch := omega) [c0]
  by_cases c1 : t.k = 1
  · simp (disch := omega) [c1]
  by_cases c2 : t.k = 2
  · simp (disch := omega) [c2]
  by_cases c3 : t.k = 3
  · simp (disch := omega) [c3]
  by_cases c4 : t.k = 4
  · simp (disch := omega) [c4]
  by_cases c5 : t.k = 5
  · simp (disch := omega) [c5]
  by_cases c6 : t.k = 6
  · simp (disch := omega) [c6]
  simp (disch := omega) [c0, c1, c2, c3, c4, c5, c6]
theorem Bytes_run (t : T6) (h : Heap) (hw : t.w ≤ 4194304) : Run T f_item_Bytes [anyV t] h (.tup [.ps 1 (bys (asB t)), .bool (decide (t.k = 2))]) h := by
  refine Run.start t_item_Bytes ?_
  unfold k_item_Bytes asB
  rw [any_def]
  rw [w_def] at hw
  by_cases c0 : t.k = 0
  · simp (disch := omega) [c0, bys_nil]
  by_cases c1 : t.k = 1
  · simp (disch := omega) [c1, bys_nil]
  by_cases c2 : t.k = 2
  · simp (disch := omega) [c2, bys_len]
  by_cases c3 : t.k = 3
  · simp (disch := omega) [c3, bys_nil]
  by_cases c4 : t.k = 4
  · simp (disch := omega) [c4, bys_nil]
  by_cases c5 : t.k = 5
  · simp (disch := omega) [c5, bys_nil]
  by_cases c6 : t.k = 6
  · simp (disch := omega) [c6, bys_nil]
  simp (disch := omega) [c0, c1, c2, c3, c4, c5, c6, bys_nil]
theorem Text_run (t : T6) (h : Heap) : Run T f_item_Text [anyV t] h (.tup [.str (asS t), .bool (decide (t.k = 3))]) h := by
  refine Run.start t_item_Text ?_
  unfold k_item_Text asS
  rw [any_def]
  by_cases c0 : t.k = 0
  · simp (disch := omega) [c0]
  by_cases c1 : t.k = 1
  · simp (disch := omega) [c1]
  by_cases c2 : t.k = 2
  · simp (disch := omega) [c2]
  by_cases c3 : t.k = 3
  · simp (disch := omega) [c3]
  by_cases c4 : t.k = 4
  · simp (disch := omega) [c4]
  by_cases c5 : t.k = 5
  · simp (disch := omega) [c5]
  by_cases c6 : t.k = 6
  · simp (disch := omega) [c6]
  simp (disch := omega) [c0, c1, c2, c3, c4, c5, c6]
theorem anys_nil : anys [] = [] := rfl
theorem List_run (t : T6) (h : Heap) (hw : t.w ≤ 4194304) : Run T f_item_List [anyV t] h (.tup [.ps 1 (anys (asL t)), .bool (decide (t.k = 4))]) h := by
  refine Run.start t_item_List ?_
  unfold k_item_List asL
  rw [any_def]
  rw [w_def] at hw
  have := T6.ws_len t.l
  by_cases c0 : t.k = 0
  · simp (disch := omega) [c0, anys_nil]
  by_cases c1 : t.k = 1
  · simp (disch := omega) [c1, anys_nil]
  by_cases c2 : t.k = 2
  · simp (disch := omega) [c2, anys_nil]
  by_cases c3 : t.k = 3
  · simp (disch := omega) [c3, anys_nil]
  by_cases c4 : t.k = 4
  · simp (disch := omega) [c4, anys_len]
  by_cases c5 : t.k = 5
  · simp (disch := omega) [c5, anys_nil]
  by_cases c6 : t.k = 6
  · simp (disch := omega) [c6, anys_nil]
  simp (disch := omega) [c0, c1, c2, c3, c4, c5, c6, anys_nil]
/-- The value at a place, if there is one. -/
def atV (t : T6) (i : Int) : V := if t.k = 4 ∧ 0 ≤ i ∧ i < t.l.length then (match t.l[i.toNat]? with | some x => anyV x | none => .nili) else .nili
theorem At_run (t : T6) (i : Int) (h : Heap) : Run T f_item_At [anyV t, .int .i64 i] h (atV t i) h := by
  refine Run.start t_item_At ?_
  unfold k_item_At atV
  rw [any_def]
  by_cases c0 : t.k = 0
  · simp (disch := omega) [c0]
  by_cases c1 : t.k = 1
  · simp (disch := omega) [c1]
  by_cases c2 : t.k = 2
  · simp (disch := omega) [c2]
  by_cases c3 : t.k = 3
  · simp (disch := omega) [c3]
  by_cases c4 : t.k = 4
  · by_cases d0 : 0 ≤ i
    · by_cases d1 : i < t.l.length
      · have g := List.getElem?_eq_getElem (l := t.l) (i := i.toNat) (by omega)
        simp (disch := omega) [c4, d0, d1, anys_len, anys_get, g, anyV_cells]
      · simp (disch := omega) [c4, d0, d1, anys_len]
    · simp (disch := omega) [c4, d0]
  by_cases c5 : t.k = 5
  · simp (disch := omega) [c5]
  by_cases c6 : t.k = 6
  · simp (disch := omega) [c6]
  simp (disch := omega) [c0, c1, c2, c3, c4, c5, c6]
theorem atV_some (t : T6) (i : Int) (x : T6) (h4 : t.k = 4) (h0 : 0 ≤ i) (hx : t.l[i.toNat]? = some x) : atV t i = anyV x := by
  have : i.toNat < t.l.length := by
    rcases Nat.lt_or_ge i.toNat t.l.length with c | c
    · exact c
    · rw [List.getElem?_eq_none c] at hx; cases hx
  unfold atV
  rw [if_pos ⟨h4, h0, by omega⟩, hx]
theorem atV_none (t : T6) (i : Int) (h : ¬ (t.k = 4 ∧ 0 ≤ i ∧ i < t.l.length)) : atV t i = .nili := by unfold atV; rw [if_neg h]
theorem atV_hf (t : T6) (i : Int) : V.hf (atV t i) = true := by
  unfold atV
  split
  · split
    · exact anyV_hf _
    · rfl
  · rfl
section
variable {ks : List Kt} {ops : List AOpr} {K : Kp} {e : Env} {h : Heap} {Q : Ex → Env → Heap → Prop} {d : Nat}
theorem Uint_p (t : T6) : Xp T f_item_Uint (some ([anyV t], false)) h (some d) ops K ks e Q = Xo T ops K ks ((d, .tup [.int .u64 (asN t), .bool (decide (t.k = 0))]) :: e) h Q :=
  Xp_run (Uint_run t []) (by simp [anyV_hf]) (by simp) (by simp)
theorem Bytes_p (t : T6) (hw : t.w ≤ 4194304) : Xp T f_item_Bytes (some ([anyV t], false)) h (some d) ops K ks e Q = Xo T ops K ks ((d, .tup [.ps 1 (bys (asB t)), .bool (decide (t.k = 2))]) :: e) h Q :=
  Xp_run (Bytes_run t [] hw) (by simp [anyV_hf]) (by simp [bys_hfs]) (by simp)
theorem Text_p (t : T6) : Xp T f_item_Text (some ([anyV t], false)) h (some d) ops K ks e Q = Xo T ops K ks ((d, .tup [.str (asS t), .bool (decide (t.k = 3))]) :: e) h Q :=
  Xp_run (Text_run t []) (by simp [anyV_hf]) (by simp) (by simp)
theorem List_p (t : T6) (hw : t.w ≤ 4194304) : Xp T f_item_List (some ([anyV t], false)) h (some d) ops K ks e Q = Xo T ops K ks ((d, .tup [.ps 1 (anys (asL t)), .bool (decide (t.k = 4))]) :: e) h Q :=
  Xp_run (List_run t [] hw) (by simp [anyV_hf]) (by simp [anys_hfs]) (by simp)
theorem At_p (t : T6) (i : Int) : Xp T f_item_At (some ([anyV t, .int .i64 i], false)) h (some d) ops K ks e Q = Xo T ops K ks ((d, atV t i) :: e) h Q :=
  Xp_run (At_run t i []) (by simp [anyV_hf]) (atV_hf t i) (by simp)
end
def mustN (t : T6) (i : Int) : Int := if t.k = 4 ∧ 0 ≤ i ∧ i < t.l.length then (match t.l[i.toNat]? with | some x => asN x | none => 0) else 0
theorem Must_run (t : T6) (i : Int) (h : Heap) : Run T f_item_Must [anyV t, .int .i64 i] h (.int .u64 (mustN t i)) h := by
  refine Run.start t_item_Must ?_
  unfold k_item_Must mustN
  by_cases c : t.k = 4 ∧ 0 ≤ i ∧ i < t.l.length
  · have g := List.getElem?_eq_getElem (l := t.l) (i := i.toNat) (by omega)
    have ha := atV_some t i _ c.1 c.2.1 g
    rw [if_pos c, g]
    simp (disch := omega) [At_p, ha, asN]
    generalize t.l[i.toNat] = x at *
    rw [any_def]
    by_cases c0 : x.k = 0
    · simp (disch := omega) [c0]
    by_cases c1 : x.k = 1
    · simp (disch := omega) [c1]
    by_cases c2 : x.k = 2
    · simp (disch := omega) [c2]
    by_cases c3 : x.k = 3
    · simp (disch := omega) [c3]
    by_cases c4 : x.k = 4
    · simp (disch := omega) [c4]
    by_cases c5 : x.k = 5
    · simp (disch := omega) [c5]
    by_cases c6 : x.k = 6
    · simp (disch := omega) [c6]
    simp (disch := omega) [c0, c1, c2, c3, c4, c5, c6]
  · rw [if_neg c]
    simp (disch := omega) [At_p, atV_none t i c]
theorem awake6 : ∃ h', Run T f_law06_awake [] [] (.bool true) h' := Run.closed (n := 100) (by kernel_rfl)
section
variable {ks : List Kt} {ops : List AOpr} {K : Kp} {e : Env} {h : Heap} {Q : Ex → Env → Heap → Prop} {d : Nat} {lent : Bool}
theorem Must_p (t : T6) (i : Int) : Xp T f_item_Must (some ([anyV t, .int .i64 i], false)) h (some d) ops K ks e Q = Xo T ops K ks ((d, .int .u64 (mustN t i)) :: e) h Q :=
  Xp_run (Must_run t i []) (by simp [anyV_hf]) rfl (by simp)
theorem awake_p : Xp T f_law06_awake (some ([], lent)) h (some d) ops K ks e Q = Xo T ops K ks ((d, .bool true) :: e) h Q := by
  obtain ⟨h', r⟩ := awake6
  exact Xp_run r (by simp) rfl (by simp [scalar])
theorem Any_p (t : T6) (hw : t.w ≤ 4194304) : Xp T f_law06_Any (some ([t.v], false)) h (some d) ops K ks e Q = Xo T ops K ks ((d, anyV t) :: e) h Q := by
  obtain ⟨h', r⟩ := Any_run _ t (Nat.le_refl _) hw
  exact Xp_run r (by simp [T6.v_hf]) (anyV_hf t) (by simp)
end
/-- What bytes come to as a number, the greatest first. -/
def beN (n : Nat) : List UInt8 → Nat
  | [] => n
  | c :: r => beN (256 * n + c.toNat) r
theorem u8_of (n : Nat) : (UInt8.ofNat n).toNat = n % 256 := UInt8.toNat_ofNat'
theorem beN_beB : ∀ (w m n : Nat), n < 2 ^ (8 * w) → beN m (beB w n) = m * 2 ^ (8 * w) + n
  | 0, m, n, h => by simp at h; subst h; simp [beB, beN]
  | w + 1, m, n, h => by
    have e1 : (2 : Nat) ^ (8 * (w + 1)) = 256 * 2 ^ (8 * w) := by rw [Nat.mul_add, Nat.pow_add]; omega
    have hp := Nat.two_pow_pos (8 * w)
    have hq : n / 2 ^ (8 * w) < 256 := Nat.div_lt_of_lt_mul (by rw [e1] at h; rw [Nat.mul_comm]; exact h)
    have ih := beN_beB w (256 * m + n / 2 ^ (8 * w)) (n % 2 ^ (8 * w)) (Nat.mod_lt _ hp)
    have e2 : beB w (n % 2 ^ (8 * w)) = beB w n := by
      have : ∀ v, v ≤ w → beB v (n % 2 ^ (8 * w)) = beB v n := by
        intro v
        induction v with
        | zero => intro _; rfl
        | succ v iv =>
          intro hv
          rw [beB, beB, iv (by omega)]
          congr 1
          apply UInt8.toNat_inj.1
          rw [u8_of, u8_of]
          rw [show w = v + (w - v) by omega, Nat.mul_add, Nat.pow_add, Nat.mod_mul_right_div_self]
          have : (256 : Nat) ∣ 2 ^ (8 * (w - v)) := by
            rw [show w - v = (w - v - 1) + 1 by omega, Nat.mul_add, Nat.pow_add]
            exact Nat.dvd_mul_left ..
          exact Nat.mod_mod_of_dvd _ this
      exact this w (Nat.le_refl _)
    rw [beB, beN, u8_of, Nat.mod_eq_of_lt hq, ← e2, ih, e1]
    have := Nat.div_add_mod n (2 ^ (8 * w))
    rw [Nat.add_mul]
    have e3 : 256 * m * 2 ^ (8 * w) = m * (256 * 2 ^ (8 * w)) := by rw [Nat.mul_comm 256 m, Nat.mul_assoc]
    rw [e3, Nat.mul_comm (n / 2 ^ (8 * w))]
    omega
theorem beN_lt : ∀ (l : List UInt8) (m k : Nat), m < 256 ^ k → beN m l < 256 ^ (k + l.length)
  | [], m, k, h => by simpa [beN] using h
  | c :: r, m, k, h => by
    have hc := c.toNat_lt
    have := beN_lt r (256 * m + c.toNat) (k + 1) (by rw [Nat.pow_succ]; omega)
    rw [beN, List.length_cons]
    rw [show k + (r.length + 1) = k + 1 + r.length by omega]
    exact this
theorem byteAt_run (b : List UInt8) (i : Nat) (h : Heap) (c : UInt8) (hi : b[i]? = some c) (hl : i < 4611686018427387904) : Run T f_be_Get_1 [.int .i64 i, .ptr h.length 0] (h ++ [some [.ps 1 (bys b)]]) (.int .u64 (c.toNat : Int)) (h ++ [some [.ps 1 (bys b)]]) := by
  refine Run.start t_be_Get_1 ?_
  unfold k_be_Get_1
  have hlt : i < b.length := by
    rcases Nat.lt_or_ge i b.length with k | k
    · exact k
    · rw [List.getElem?_eq_none k] at hi; cases hi
  have c1 : ¬ ((b.length : Int) ≤ i) := by omega
  have cl := u8_lt c
  have c0 : ¬ ((i : Int) < 0) := by omega
  simp (disch := omega) [c0, c1, bys_len, bys_get, hi]
theorem shlx (x : Nat) (hx : x < 72057594037927936) : binV .shl .int (.int .u64 (x : Int)) (.int .u64 8) = some (.int .u64 (256 * (x : Int))) := by
  rw [bin_shl (h := by omega)]
  have e0 : min (Int.toNat 8) IntKind.u64.bits = 8 := rfl
  rw [e0, wrap_u64 (by omega) (by omega)]
  congr 2
  omega
theorem orx (x c : Nat) (hx : x < 72057594037927936) (hc : c < 256) : binV .or .int (.int .u64 (256 * (x : Int))) (.int .u64 (c : Int)) = some (.int .u64 (256 * (x : Int) + c)) := by
  have e0 : (256 * (x : Int)) = ((256 * x : Nat) : Int) := by omega
  rw [e0, bin_or]
  show some (V.int .u64 (IntKind.u64.wrap ((BitVec.ofInt 64 ((256 * x : Nat) : Int) ||| BitVec.ofInt 64 (c : Int)).toNat : Int))) = _
  rw [BitVec.ofInt_natCast, BitVec.ofInt_natCast, ← BitVec.ofNat_or, BitVec.toNat_ofNat]
  have e1 : (256 * x ||| c) = 256 * x + c := by
    exact (Nat.two_pow_add_eq_or_of_lt (i := 8) (show c < 2 ^ 8 by omega) x).symm
  rw [e1, Nat.mod_eq_of_lt (by omega), wrap_u64 (by omega) (by omega)]
  rfl
attribute [-simp] bin_or bin_shl
theorem get_loop (b : List UInt8) (h : Heap) (w : Nat) (hw : w ≤ 8) (a : Nat) (hl : a + w ≤ b.length) (hb : b.length < 4611686018427387904) : ∀ (m i : Nat), i + m = w → ∀ (x : Nat), x < 256 ^ i → ∀ ks Q (e : Env),
    (∀ e, Xk T ks (.x 0) ([(1, .int .i64 a), (7, .int .u64 (beN x ((b.drop (a + i)).take m) : Nat))] ++ e) (h ++ [some [.ps 1 (bys b)]]) Q) →
    Xc T l_be_Get_0 ks ([(1, .int .i64 a), (7, .int .u64 x), (8, .fn f_be_Get_1 [.ptr h.length 0]), (20, .int .i64 w), (21, .int .i64 i)] ++ e) (h ++ [some [.ps 1 (bys b)]]) Q := by
  intro m
  induction m with
  | zero =>
    intro i hi x hx ks Q e hQ
    rw [L_be_Get_0]; unfold bl_be_Get_0
    have e0 : i = w := by omega
    subst e0
    simp [beN] at hQ
    simp (disch := omega)
    exact hQ _
  | succ m ih =>
    intro i hi x hx ks Q e hQ
    rw [L_be_Get_0]; unfold bl_be_Get_0
    have e1 : (i : Int) < w := by omega
    have g : b[a + i]? = some (b.getD (a + i) 0) := by rw [List.getD_eq_getElem?_getD, List.getElem?_eq_getElem (by omega)]; rfl
    have dr : (b.drop (a + i)).take (m + 1) = b.getD (a + i) 0 :: (b.drop (a + (i + 1))).take m := by
      have hlt : a + i < b.length := by omega
      rw [List.drop_eq_getElem_cons hlt, List.take_succ_cons]
      rw [List.getElem?_eq_getElem hlt] at g
      rw [← Option.some.inj g, Nat.add_assoc]
    rw [dr, beN] at hQ
    generalize b.getD (a + i) 0 = c at *
    have r := byteAt_run b (a + i) h c g (by omega)
    have hf : T.free f_be_Get_1 = true := rfl
    have hx7 : x < 72057594037927936 := by
      have h1 : 256 ^ i ≤ 256 ^ 7 := Nat.pow_le_pow_right (by omega) (by omega)
      omega
    have hc := c.toNat_lt
    have e2 : ((a : Int) + (i : Int)) = ((a + i : Nat) : Int) := by omega
    simp (disch := omega) [e1, shlx]
    rw [e2, Xf_run r]
    have hx8 : 256 * x + c.toNat < 256 ^ (i + 1) := by rw [Nat.pow_succ]; omega
    simp (disch := omega) [orx]
    have := ih (i + 1) (by omega) (256 * x + c.toNat) hx8 ks Q [] hQ
    simpa using this
theorem beGet_run (b : List UInt8) (a w : Nat) (h : Heap) (hw : w ≤ 8) (hl : a + w ≤ b.length) (hb : b.length < 4611686018427387904) : ∃ h', Run T f_be_Get [.ps 1 (bys b), .int .i64 a, .int .i64 w] h (.int .u64 (beN 0 ((b.drop a).take w) : Nat)) h' := by
  refine Run.startE t_be_Get ?_
  unfold k_be_Get
  have c1 : ¬ ((b.length : Int) < a) := by omega
  have e1 : min w 8 = w := by omega
  have e2 : max (a : Int) (-8) = a := by omega
  simp (disch := omega) [bys_len, c1, width_p, e1, e2]
  have := get_loop b h w hw a hl hb w 0 (by omega) 0 (by simp)
  simp at this
  refine this _ _ [] (fun e => ?_)
  simp (disch := omega)
end Ev
