/- Which bytes are a text: eight bytes at once. Each theorem states its own conditions. -/
import Derived.Test.YtienkohkbihdoaaGreatDoorBCode
import Derived.Test.YtienkohkbihdoaaGreatDoorBBy
set_option linter.all false
namespace Ev
open Go
set_option maxRecDepth 10000
attribute [-simp] getElem?_pos getElem?_neg bin_or bin_and bin_shl
theorem or64 (q : EqK) (a b : Nat) : binV .or q (.int .u64 (a : Int)) (.int .u64 (b : Int)) = some (.int .u64 (((a ||| b) % 18446744073709551616 : Nat) : Int)) := by
  rw [bin_or]
  show some (V.int .u64 (IntKind.u64.wrap ((BitVec.ofInt 64 (a : Int) ||| BitVec.ofInt 64 (b : Int)).toNat : Int))) = _
  rw [BitVec.ofInt_natCast, BitVec.ofInt_natCast, ← BitVec.ofNat_or, BitVec.toNat_ofNat, wrap_u64 (by omega) (by omega)]
theorem and64 (q : EqK) (a b : Nat) : binV .and q (.int .u64 (a : Int)) (.int .u64 (b : Int)) = some (.int .u64 (((a &&& b) % 18446744073709551616 : Nat) : Int)) := by
  rw [bin_and]
  show some (V.int .u64 (IntKind.u64.wrap ((BitVec.ofInt 64 (a : Int) &&& BitVec.ofInt 64 (b : Int)).toNat : Int))) = _
  rw [BitVec.ofInt_natCast, BitVec.ofInt_natCast, ← BitVec.ofNat_and, BitVec.toNat_ofNat, wrap_u64 (by omega) (by omega)]
theorem shl64 (q : EqK) (a k : Nat) : binV .shl q (.int .u64 (a : Int)) (.int .u64 (k : Int)) = some (.int .u64 (((a * 2 ^ min k 64) % 18446744073709551616 : Nat) : Int)) := by
  rw [bin_shl (h := by omega)]
  have : ((k : Int).toNat) = k := by omega
  rw [this, wrap_u64_def]
  rfl
theorem conv64 (h : Heap) (c : UInt8) : convV h (.i .u64) (byteV c) = some (.int .u64 (c.toNat : Int)) := by
  have := u8_lt c
  rw [conv_byte, wrap_u64 (by omega) (by omega)]
/-- Eight bytes as one number. -/
def andN (a b : Nat) : Nat := (a &&& b) % 18446744073709551616
def orN (a b : Nat) : Nat := (a ||| b) % 18446744073709551616
def shN (a k : Nat) : Nat := (a * 2 ^ k) % 18446744073709551616
def wordS (s : List UInt8) : Nat :=
  orN (orN (orN (orN (orN (orN (orN (s.getD 0 0).toNat (shN (s.getD 1 0).toNat 8)) (shN (s.getD 2 0).toNat 16)) (shN (s.getD 3 0).toNat 24)) (shN (s.getD 4 0).toNat 32)) (shN (s.getD 5 0).toNat 40)) (shN (s.getD 6 0).toNat 48)) (shN (s.getD 7 0).toNat 56)
theorem and64m (q : EqK) (a : Nat) : binV .and q (.int .u64 (a : Int)) (.int .u64 9259542123273814144) = some (.int .u64 ((andN a 9259542123273814144 : Nat) : Int)) := and64 q a 9259542123273814144
theorem orN_def (q : EqK) (a b : Nat) : binV .or q (.int .u64 (a : Int)) (.int .u64 (b : Int)) = some (.int .u64 ((orN a b : Nat) : Int)) := or64 q a b
theorem shN8 (q : EqK) (a : Nat) : binV .shl q (.int .u64 (a : Int)) (.int .u64 8) = some (.int .u64 ((shN a 8 : Nat) : Int)) := shl64 q a 8
theorem shN16 (q : EqK) (a : Nat) : binV .shl q (.int .u64 (a : Int)) (.int .u64 16) = some (.int .u64 ((shN a 16 : Nat) : Int)) := shl64 q a 16
theorem shN24 (q : EqK) (a : Nat) : binV .shl q (.int .u64 (a : Int)) (.int .u64 24) = some (.int .u64 ((shN a 24 : Nat) : Int)) := shl64 q a 24
theorem shN32 (q : EqK) (a : Nat) : binV .shl q (.int .u64 (a : Int)) (.int .u64 32) = some (.int .u64 ((shN a 32 : Nat) : Int)) := shl64 q a 32
theorem shN40 (q : EqK) (a : Nat) : binV .shl q (.int .u64 (a : Int)) (.int .u64 40) = some (.int .u64 ((shN a 40 : Nat) : Int)) := shl64 q a 40
theorem shN48 (q : EqK) (a : Nat) : binV .shl q (.int .u64 (a : Int)) (.int .u64 48) = some (.int .u64 ((shN a 48 : Nat) : Int)) := shl64 q a 48
theorem shN56 (q : EqK) (a : Nat) : binV .shl q (.int .u64 (a : Int)) (.int .u64 56) = some (.int .u64 ((shN a 56 : Nat) : Int)) := shl64 q a 56
theorem word_run (s : List UInt8) (h : Heap) (hs : 8 ≤ s.length) : Run T f_unicode_utf8_word_string [.str s] h (.int .u64 (wordS s)) h := by
  refine Run.start t_unicode_utf8_word_string ?_
  unfold k_unicode_utf8_word_string
  have g : ∀ i, i < 8 → s[i]? = some (s.getD i 0) := fun i hi => by
    rw [List.getD_eq_getElem?_getD, List.getElem?_eq_getElem (by omega)]; rfl
  have g0 := g 0 (by omega)
  have g1 := g 1 (by omega)
  have g2 := g 2 (by omega)
  have g3 := g 3 (by omega)
  have g4 := g 4 (by omega)
  have g5 := g 5 (by omega)
  have g6 := g 6 (by omega)
  have g7 := g 7 (by omega)
  clear g
  unfold wordS
  generalize s.getD 0 0 = b0 at *
  generalize s.getD 1 0 = b1 at *
  generalize s.getD 2 0 = b2 at *
  generalize s.getD 3 0 = b3 at *
  generalize s.getD 4 0 = b4 at *
  generalize s.getD 5 0 = b5 at *
  generalize s.getD 6 0 = b6 at *
  generalize s.getD 7 0 = b7 at *
  simp (disch := omega) [g0, g1, g2, g3, g4, g5, g6, g7, conv64, orN_def, shN8, shN16, shN24, shN32, shN40, shN48, shN56, -conv_byte]
  trace_state
theorem orN_tb (a b i : Nat) (hi : i < 64) (h : (orN a b).testBit i = false) : a.testBit i = false ∧ b.testBit i = false := by
  unfold orN at h
  rw [show (18446744073709551616 : Nat) = 2 ^ 64 from rfl, Nat.testBit_mod_two_pow, decide_eq_true hi, Bool.true_and, Nat.testBit_or, Bool.or_eq_false_iff] at h
  exact h
theorem shN_tb (a k i : Nat) (hi : i + k < 64) (h : (shN a k).testBit (i + k) = false) : a.testBit i = false := by
  unfold shN at h
  rw [show (18446744073709551616 : Nat) = 2 ^ 64 from rfl, Nat.testBit_mod_two_pow, decide_eq_true hi, Bool.true_and, Nat.testBit_mul_two_pow, decide_eq_true (by omega), Bool.true_and, Nat.add_sub_cancel] at h
  exact h
theorem tb7 (c : UInt8) (h : c.toNat.testBit 7 = false) : c.toNat < 128 := by
  have k : ∀ n : Fin 256, n.val.testBit 7 = false → n.val < 128 := by decide +kernel
  exact k ⟨c.toNat, c.toNat_lt⟩ h
theorem mask_tb (w : Nat) (h : (w &&& 9259542123273814144) % 18446744073709551616 = 0) : ∀ i, i < 8 → w.testBit (8 * i + 7) = false := by
  intro i hi
  have h2 : ((w &&& 9259542123273814144) % 18446744073709551616).testBit (8 * i + 7) = false := by rw [h]; simp
  rw [show (18446744073709551616 : Nat) = 2 ^ 64 from rfl, Nat.testBit_mod_two_pow, decide_eq_true (by omega), Bool.true_and, Nat.testBit_and] at h2
  have h3 : ∀ i : Fin 8, (9259542123273814144 : Nat).testBit (8 * i.val + 7) = true := by decide +kernel
  rw [h3 ⟨i, hi⟩, Bool.and_true] at h2
  exact h2
theorem word_asc (s : List UInt8) (h : ∀ i, i < 8 → (wordS s).testBit (8 * i + 7) = false) : ∀ i, i < 8 → (s.getD i 0).toNat < 128 := by
  unfold wordS at h
  have w7 := orN_tb _ _ _ (by omega) (h 7 (by omega))
  have w6 := orN_tb _ _ _ (by omega) (orN_tb _ _ _ (by omega) (h 6 (by omega))).1
  have w5 := orN_tb _ _ _ (by omega) (orN_tb _ _ _ (by omega) (orN_tb _ _ _ (by omega) (h 5 (by omega))).1).1
  have w4 := orN_tb _ _ _ (by omega) (orN_tb _ _ _ (by omega) (orN_tb _ _ _ (by omega) (orN_tb _ _ _ (by omega) (h 4 (by omega))).1).1).1
  have w3 := orN_tb _ _ _ (by omega) (orN_tb _ _ _ (by omega) (orN_tb _ _ _ (by omega) (orN_tb _ _ _ (by omega) (orN_tb _ _ _ (by omega) (h 3 (by omega))).1).1).1).1
  have w2 := orN_tb _ _ _ (by omega) (orN_tb _ _ _ (by omega) (orN_tb _ _ _ (by omega) (orN_tb _ _ _ (by omega) (orN_tb _ _ _ (by omega) (orN_tb _ _ _ (by omega) (h 2 (by omega))).1).1).1).1).1
  have w1 := orN_tb _ _ _ (by omega) (orN_tb _ _ _ (by omega) (orN_tb _ _ _ (by omega) (orN_tb _ _ _ (by omega) (orN_tb _ _ _ (by omega) (orN_tb _ _ _ (by omega) (orN_tb _ _ _ (by omega) (h 1 (by omega))).1).1).1).1).1).1
  have w0 := orN_tb _ _ _ (by omega) (orN_tb _ _ _ (by omega) (orN_tb _ _ _ (by omega) (orN_tb _ _ _ (by omega) (orN_tb _ _ _ (by omega) (orN_tb _ _ _ (by omega) (orN_tb _ _ _ (by omega) (h 0 (by omega))).1).1).1).1).1).1
  intro i hi
  match i, hi with
  | 0, _ => exact tb7 _ w0.1
  | 1, _ => exact tb7 _ (shN_tb _ 8 7 (by omega) w1.2)
  | 2, _ => exact tb7 _ (shN_tb _ 16 7 (by omega) w2.2)
  | 3, _ => exact tb7 _ (shN_tb _ 24 7 (by omega) w3.2)
  | 4, _ => exact tb7 _ (shN_tb _ 32 7 (by omega) w4.2)
  | 5, _ => exact tb7 _ (shN_tb _ 40 7 (by omega) w5.2)
  | 6, _ => exact tb7 _ (shN_tb _ 48 7 (by omega) w6.2)
  | 7, _ => exact tb7 _ (shN_tb _ 56 7 (by omega) w7.2)
/-- No letter of the first n but plain ones. -/
def Asc (n : Nat) (s : List UInt8) : Prop := ∀ i, i < n → (s.getD i 0).toNat < 128
theorem asc8 (s : List UInt8) (h : andN (wordS s) 9259542123273814144 = 0) : Asc 8 s := word_asc s (mask_tb _ h)
theorem getD_drop (s : List UInt8) (k i : Nat) : (s.drop k).getD i 0 = s.getD (k + i) 0 := by simp [List.getD_eq_getElem?_getD]
theorem asc16 (s : List UInt8) (h : andN (orN (wordS s) (wordS (s.drop 8))) 9259542123273814144 = 0) : Asc 16 s := by
  have a := mask_tb _ h
  have b1 := word_asc s fun i hi => (orN_tb _ _ _ (by omega) (a i hi)).1
  have b2 := word_asc (s.drop 8) fun i hi => (orN_tb _ _ _ (by omega) (a i hi)).2
  intro i hi
  rcases Nat.lt_or_ge i 8 with c | c
  · exact b1 i c
  · have := b2 (i - 8) (by omega)
    rw [getD_drop] at this
    rwa [show 8 + (i - 8) = i by omega] at this
theorem asc32 (s : List UInt8) (h : andN (orN (orN (wordS s) (wordS (s.drop 8))) (orN (wordS (s.drop 16)) (wordS (s.drop 24)))) 9259542123273814144 = 0) : Asc 32 s := by
  have a := mask_tb _ h
  have b1 := word_asc s fun i hi => (orN_tb _ _ _ (by omega) (orN_tb _ _ _ (by omega) (a i hi)).1).1
  have b2 := word_asc (s.drop 8) fun i hi => (orN_tb _ _ _ (by omega) (orN_tb _ _ _ (by omega) (a i hi)).1).2
  have b3 := word_asc (s.drop 16) fun i hi => (orN_tb _ _ _ (by omega) (orN_tb _ _ _ (by omega) (a i hi)).2).1
  have b4 := word_asc (s.drop 24) fun i hi => (orN_tb _ _ _ (by omega) (orN_tb _ _ _ (by omega) (a i hi)).2).2
  intro i hi
  rcases Nat.lt_or_ge i 8 with c | c
  · exact b1 i c
  · rcases Nat.lt_or_ge i 16 with c2 | c2
    · have := b2 (i - 8) (by omega)
      rw [getD_drop] at this
      rwa [show 8 + (i - 8) = i by omega] at this
    · rcases Nat.lt_or_ge i 24 with c3 | c3
      · have := b3 (i - 16) (by omega)
        rw [getD_drop] at this
        rwa [show 16 + (i - 16) = i by omega] at this
      · have := b4 (i - 24) (by omega)
        rw [getD_drop] at this
        rwa [show 24 + (i - 24) = i by omega] at this
section
variable {ks : List Kt} {ops : List AOpr} {K : Kp} {e : Env} {h : Heap} {Q : Ex → Env → Heap → Prop} {d : Nat} {lent : Bool}
theorem word_p (s : List UInt8) (hs : 8 ≤ s.length) : Xp T f_unicode_utf8_word_string (some ([.str s], lent)) h (some d) ops K ks e Q = Xo T ops K ks ((d, .int .u64 (wordS s)) :: e) h Q :=
  Xp_run (word_run s [] hs) (by simp) rfl (by simp [scalar])
end
end Ev
