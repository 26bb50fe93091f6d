/- Heads, read. Each theorem states its own conditions. -/
import Derived.Test.YtienkohkbihdoaaDoorLIt2
set_option linter.all false
namespace Ev
open Go
set_option maxRecDepth 10000
attribute [-simp] getElem?_pos getElem?_neg List.drop_one

/-- What bytes come to as a number, the greatest first. -/
def beN (n : Nat) : List UInt8 → Nat
  | [] => n
  | c :: r => beN (256 * n + c.toNat) r
theorem u8_of (n : Nat) : (UInt8.ofNat n).toNat = n % 256 := UInt8.toNat_ofNat'
theorem beN_beB : ∀ (w m n : Nat), n < 2 ^ (8 * w) → beN m (beB w n) = m * 2 ^ (8 * w) + n
  | 0, m, n, h => by simp at h; subst h; simp [beB, beN]
  | w + 1, m, n, h => by
    have e1 : (2 : Nat) ^ (8 * (w + 1)) = 256 * 2 ^ (8 * w) := by rw [Nat.mul_add, Nat.pow_add]; omega
    have hp := Nat.two_pow_pos (8 * w)
    have hq : n / 2 ^ (8 * w) < 256 := Nat.div_lt_of_lt_mul (by rw [e1] at h; rw [Nat.mul_comm]; exact h)
    have ih := beN_beB w (256 * m + n / 2 ^ (8 * w)) (n % 2 ^ (8 * w)) (Nat.mod_lt _ hp)
    have e2 : beB w (n % 2 ^ (8 * w)) = beB w n := by
      have : ∀ v, v ≤ w → beB v (n % 2 ^ (8 * w)) = beB v n := by
        intro v
        induction v with
        | zero => intro _; rfl
        | succ v iv =>
          intro hv
          rw [beB, beB, iv (by omega)]
          congr 1
          apply UInt8.toNat_inj.1
          rw [u8_of, u8_of]
          rw [show w = v + (w - v) by omega, Nat.mul_add, Nat.pow_add, Nat.mod_mul_right_div_self]
          have : (256 : Nat) ∣ 2 ^ (8 * (w - v)) := by
            rw [show w - v = (w - v - 1) + 1 by omega, Nat.mul_add, Nat.pow_add]
            exact Nat.dvd_mul_left ..
          exact Nat.mod_mod_of_dvd _ this
      exact this w (Nat.le_refl _)
    rw [beB, beN, u8_of, Nat.mod_eq_of_lt hq, ← e2, ih, e1]
    have := Nat.div_add_mod n (2 ^ (8 * w))
    rw [Nat.add_mul]
    have e3 : 256 * m * 2 ^ (8 * w) = m * (256 * 2 ^ (8 * w)) := by rw [Nat.mul_comm 256 m, Nat.mul_assoc]
    rw [e3, Nat.mul_comm (n / 2 ^ (8 * w))]
    omega
theorem beN_lt : ∀ (l : List UInt8) (m k : Nat), m < 256 ^ k → beN m l < 256 ^ (k + l.length)
  | [], m, k, h => by simpa [beN] using h
  | c :: r, m, k, h => by
    have hc := c.toNat_lt
    have := beN_lt r (256 * m + c.toNat) (k + 1) (by rw [Nat.pow_succ]; omega)
    rw [beN, List.length_cons]
    rw [show k + (r.length + 1) = k + 1 + r.length by omega]
    exact this
theorem byteAt_run (b : List UInt8) (i : Nat) (h : Heap) (c : UInt8) (hi : b[i]? = some c) (hl : i < 4611686018427387904) : Run T f_be_Get_1 [.int .i64 i, .ptr h.length 0] (h ++ [some [.ps 1 (bys b)]]) (.int .u64 (c.toNat : Int)) (h ++ [some [.ps 1 (bys b)]]) := by
  refine Run.start t_be_Get_1 ?_
  unfold k_be_Get_1
  have hlt : i < b.length := by
    rcases Nat.lt_or_ge i b.length with k | k
    · exact k
    · rw [List.getElem?_eq_none k] at hi; cases hi
  have c1 : ¬ ((b.length : Int) ≤ i) := by omega
  have cl := u8_lt c
  have c0 : ¬ ((i : Int) < 0) := by omega
  simp (disch := omega) [c0, c1, bys_len, bys_get, hi]
theorem shlx (x : Nat) (hx : x < 72057594037927936) : binV .shl .int (.int .u64 (x : Int)) (.int .u64 8) = some (.int .u64 (256 * (x : Int))) := by
  rw [bin_shl (h := by omega)]
  have e0 : min (Int.toNat 8) IntKind.u64.bits = 8 := rfl
  rw [e0, wrap_u64 (by omega) (by omega)]
  congr 2
  omega
theorem orx (x c : Nat) (hx : x < 72057594037927936) (hc : c < 256) : binV .or .int (.int .u64 (256 * (x : Int))) (.int .u64 (c : Int)) = some (.int .u64 (256 * (x : Int) + c)) := by
  have e0 : (256 * (x : Int)) = ((256 * x : Nat) : Int) := by omega
  rw [e0, bin_or]
  show some (V.int .u64 (IntKind.u64.wrap ((BitVec.ofInt 64 ((256 * x : Nat) : Int) ||| BitVec.ofInt 64 (c : Int)).toNat : Int))) = _
  rw [BitVec.ofInt_natCast, BitVec.ofInt_natCast, ← BitVec.ofNat_or, BitVec.toNat_ofNat]
  have e1 : (256 * x ||| c) = 256 * x + c := by
    exact (Nat.two_pow_add_eq_or_of_lt (i := 8) (show c < 2 ^ 8 by omega) x).symm
  rw [e1, Nat.mod_eq_of_lt (by omega), wrap_u64 (by omega) (by omega)]
  rfl
attribute [-simp] bin_or bin_shl
theorem get_loop (b : List UInt8) (h : Heap) (w : Nat) (hw : w ≤ 8) (a : Nat) (hl : a + w ≤ b.length) (hb : b.length < 4611686018427387904) : ∀ (m i : Nat), i + m = w → ∀ (x : Nat), x < 256 ^ i → ∀ ks Q (e : Env),
    (∀ e, Xk T ks (.x 0) ([(1, .int .i64 a), (7, .int .u64 (beN x ((b.drop (a + i)).take m) : Nat))] ++ e) (h ++ [some [.ps 1 (bys b)]]) Q) →
    Xc T l_be_Get_0 ks ([(1, .int .i64 a), (7, .int .u64 x), (8, .fn f_be_Get_1 [.ptr h.length 0]), (20, .int .i64 w), (21, .int .i64 i)] ++ e) (h ++ [some [.ps 1 (bys b)]]) Q := by
  intro m
  induction m with
  | zero =>
    intro i hi x hx ks Q e hQ
    rw [L_be_Get_0]; unfold bl_be_Get_0
    have e0 : i = w := by omega
    subst e0
    simp [beN] at hQ
    simp (disch := omega)
    exact hQ _
  | succ m ih =>
    intro i hi x hx ks Q e hQ
    rw [L_be_Get_0]; unfold bl_be_Get_0
    have e1 : (i : Int) < w := by omega
    have g : b[a + i]? = some (b.getD (a + i) 0) := by rw [List.getD_eq_getElem?_getD, List.getElem?_eq_getElem (by omega)]; rfl
    have dr : (b.drop (a + i)).take (m + 1) = b.getD (a + i) 0 :: (b.drop (a + (i + 1))).take m := by
      have hlt : a + i < b.length := by omega
      rw [List.drop_eq_getElem_cons hlt, List.take_succ_cons]
      rw [List.getElem?_eq_getElem hlt] at g
      rw [← Option.some.inj g, Nat.add_assoc]
    rw [dr, beN] at hQ
    generalize b.getD (a + i) 0 = c at *
    have r := byteAt_run b (a + i) h c g (by omega)
    have hf : T.free f_be_Get_1 = true := rfl
    have hx7 : x < 72057594037927936 := by
      have h1 : 256 ^ i ≤ 256 ^ 7 := Nat.pow_le_pow_right (by omega) (by omega)
      omega
    have hc := c.toNat_lt
    have e2 : ((a : Int) + (i : Int)) = ((a + i : Nat) : Int) := by omega
    simp (disch := omega) [e1, shlx]
    rw [e2, Xf_run r]
    have hx8 : 256 * x + c.toNat < 256 ^ (i + 1) := by rw [Nat.pow_succ]; omega
    simp (disch := omega) [orx]
    have := ih (i + 1) (by omega) (256 * x + c.toNat) hx8 ks Q [] hQ
    simpa using this
theorem beGet_run (b : List UInt8) (a w : Nat) (h : Heap) (hw : w ≤ 8) (hl : a + w ≤ b.length) (hb : b.length < 4611686018427387904) : ∃ h', Run T f_be_Get [.ps 1 (bys b), .int .i64 a, .int .i64 w] h (.int .u64 (beN 0 ((b.drop a).take w) : Nat)) h' := by
  refine Run.startE t_be_Get ?_
  unfold k_be_Get
  have c1 : ¬ ((b.length : Int) < a) := by omega
  have e1 : min w 8 = w := by omega
  have e2 : max (a : Int) (-8) = a := by omega
  simp (disch := omega) [bys_len, c1, width_p, e1, e2]
  have := get_loop b h w hw a hl hb w 0 (by omega) 0 (by simp)
  simp at this
  refine this _ _ [] (fun e => ?_)
  simp (disch := omega)
end Ev
