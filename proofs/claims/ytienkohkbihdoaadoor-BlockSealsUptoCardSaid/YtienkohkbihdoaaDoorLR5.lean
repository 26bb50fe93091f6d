/- The reference's bytes of numbers and heads. Each theorem states its own conditions. -/
import Derived.Test.YtienkohkbihdoaaDoorLBlk3
set_option linter.all false
namespace Ev
open Go
set_option maxRecDepth 10000
attribute [-simp] getElem?_pos getElem?_neg List.drop_one

theorem byte_rem (m : Nat) : V.int .u8 (IntKind.u8.wrap ((m : Int).tmod 256)) = byteV (UInt8.ofNat m) := by
  have h1 : (UInt8.ofNat m).toNat = m % 256 := UInt8.toNat_ofNat'
  rw [byteV_def, h1, wrap_u8_def, Int.tmod_eq_emod_of_nonneg (by omega)]
  congr 1
  omega
theorem Bytes_loop (w n : Nat) (hw : w ≤ 8) (hn : n < 18446744073709551616) (h : Heap) : ∀ (m i : Nat), i + m = w → ∀ ks Q (e : Env),
    (∀ e, Xk T ks (.x 0) ([(0, .int .i64 w), (1, .int .u64 (n / 2 ^ (8 * w) : Nat)), (5, .ps 1 (bys (beB w n)))] ++ e) h Q) →
    Xc T l_ref01_Bytes_0 ks ([(0, .int .i64 w), (1, .int .u64 ((n / 2 ^ (8 * i) : Nat) : Int)), (5, .ps 1 (bys (beB i n))), (6, .int .i64 i)] ++ e) h Q := by
  intro m
  induction m with
  | zero =>
    intro i hi ks Q e hQ
    rw [L_ref01_Bytes_0]; unfold bl_ref01_Bytes_0
    have e0 : i = w := by omega
    subst e0
    generalize n / 2 ^ (8 * i) = q at *
    simp (disch := omega)
    exact hQ _
  | succ m ih =>
    intro i hi ks Q e hQ
    rw [L_ref01_Bytes_0]; unfold bl_ref01_Bytes_0
    have e1 : (i : Int) < w := by omega
    have e2 : (i : Int) < 8 := by omega
    have ed : n / 2 ^ (8 * (i + 1)) = n / 2 ^ (8 * i) / 256 := by rw [Nat.mul_add, Nat.pow_add, ← Nat.div_div_eq_div_mul]
    have hb : beB (i + 1) n = UInt8.ofNat (n / 2 ^ (8 * i)) :: beB i n := rfl
    have hl := beB_len i n
    have := ih (i + 1) (by omega) ks Q [] hQ
    rw [ed, hb] at this
    have hq : n / 2 ^ (8 * i) ≤ n := Nat.div_le_self ..
    generalize n / 2 ^ (8 * i) = q at *
    generalize beB i n = B at *
    have et : (q : Int).tdiv 256 = ((q / 256 : Nat) : Int) := by rw [Int.tdiv_eq_ediv_of_nonneg (by omega)]; omega
    simp (disch := omega) [e1, e2, byte_rem, bys_len, hl, et]
    simpa [bys] using this
theorem R1Bytes_run (w n : Nat) (hw : w ≤ 8) (hn : n < 18446744073709551616) (h : Heap) : Run T f_ref01_Bytes [.int .i64 w, .int .u64 n] h (.ps 1 (bys (beB w n))) h := by
  refine Run.start t_ref01_Bytes ?_
  unfold k_ref01_Bytes
  simp (disch := omega)
  have := Bytes_loop w n hw hn h w 0 (by omega)
  simp [beB] at this
  refine this _ _ [] (fun e => ?_)
  simp (disch := omega)
section
variable {ks : List Kt} {ops : List AOpr} {K : Kp} {e : Env} {h : Heap} {Q : Ex → Env → Heap → Prop} {d : Nat}
theorem R1Bytes_p (w n : Nat) (hw : w ≤ 8) (hn : n < 18446744073709551616) : Xp T f_ref01_Bytes (some ([.int .i64 w, .int .u64 n], false)) h (some d) ops K ks e Q = Xo T ops K ks ((d, .ps 1 (bys (beB w n))) :: e) h Q :=
  Xp_run (R1Bytes_run w n hw hn []) (by simp) (by simp [bys_hfs]) (by simp)
theorem R1Bytes_i (w : Int) (n : Nat) (h0 : 0 ≤ w) (hw : w ≤ 8) (hn : n < 18446744073709551616) : Xp T f_ref01_Bytes (some ([.int .i64 w, .int .u64 n], false)) h (some d) ops K ks e Q = Xo T ops K ks ((d, .ps 1 (bys (beB w.toNat n))) :: e) h Q := by
  obtain ⟨w, rfl⟩ := Int.eq_ofNat_of_zero_le h0
  exact R1Bytes_p w n (by omega) hn
end
attribute [-simp] wrap_u8 UInt8.ofNat_add UInt8.ofNat_mul
theorem byte_hd (m n : Nat) : V.int .u8 (IntKind.u8.wrap (32 * (m : Int) + (n : Int))) = byteV (UInt8.ofNat (32 * m + n)) := by
  rw [← byte_wrap]; push_cast; rfl
theorem byte_24 (m : Nat) : V.int .u8 (IntKind.u8.wrap (32 * (m : Int) + 24)) = byteV (UInt8.ofNat (32 * m + 24)) := byte_hd m 24
theorem byte_25 (m : Nat) : V.int .u8 (IntKind.u8.wrap (32 * (m : Int) + 25)) = byteV (UInt8.ofNat (32 * m + 25)) := byte_hd m 25
theorem byte_26 (m : Nat) : V.int .u8 (IntKind.u8.wrap (32 * (m : Int) + 26)) = byteV (UInt8.ofNat (32 * m + 26)) := byte_hd m 26
theorem byte_27 (m : Nat) : V.int .u8 (IntKind.u8.wrap (32 * (m : Int) + 27)) = byteV (UInt8.ofNat (32 * m + 27)) := byte_hd m 27
theorem R5Put_run (m n : Nat) (h : Heap) (hm : m ≤ 7) (hn : n < 18446744073709551616) : Run T f_ref05_Put [.int .i64 m, .int .u64 n] h (.ps 1 (bys (hdB m n))) h := by
  refine Run.start t_ref05_Put ?_
  unfold k_ref05_Put hdB wideS
  simp (disch := omega)
  refine Xb_dec (fun c1 => ?_) (fun c1 => ?_)
  · have c1' : n < 24 := by omega
    simp (disch := omega) [c1', byte_hd, bys]
  · have c1' : ¬ n < 24 := by omega
    rw [if_neg c1', if_neg c1']
    simp (disch := omega)
    refine Xb_dec (fun c2 => ?_) (fun c2 => ?_)
    · have c2' : n < 256 := by omega
      rw [if_pos c2']
      have hl := beB_len 1 n
      simp (disch := omega) [byte_24, R1Bytes_i, bys_len, hl]
      simp [infoS, bys]
    · have c2' : ¬ n < 256 := by omega
      rw [if_neg c2']
      simp (disch := omega)
      refine Xb_dec (fun c3 => ?_) (fun c3 => ?_)
      · have c3' : n < 65536 := by omega
        rw [if_pos c3']
        have hl := beB_len 2 n
        simp (disch := omega) [byte_25, R1Bytes_i, bys_len, hl]
        simp [infoS, bys]
      · have c3' : ¬ n < 65536 := by omega
        rw [if_neg c3']
        simp (disch := omega)
        refine Xb_dec (fun c4 => ?_) (fun c4 => ?_)
        · have c4' : n < 4294967296 := by omega
          rw [if_pos c4']
          have hl := beB_len 4 n
          simp (disch := omega) [byte_26, R1Bytes_i, bys_len, hl]
          simp [infoS, bys]
        · have c4' : ¬ n < 4294967296 := by omega
          rw [if_neg c4']
          have hl := beB_len 8 n
          simp (disch := omega) [byte_27, R1Bytes_i, bys_len, hl]
          simp [infoS, bys]
end Ev
