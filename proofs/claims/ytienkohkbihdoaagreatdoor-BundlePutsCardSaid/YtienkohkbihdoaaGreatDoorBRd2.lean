/- Heads, read back. Each theorem states its own conditions. -/
import Derived.Test.YtienkohkbihdoaaGreatDoorBCode
import Derived.Test.YtienkohkbihdoaaGreatDoorBV6
set_option linter.all false
namespace Ev
open Go
set_option maxRecDepth 10000
attribute [-simp] getElem?_pos getElem?_neg List.drop_one
section
variable {ks : List Kt} {ops : List AOpr} {K : Kp} {e : Env} {h : Heap} {Q : Ex → Env → Heap → Prop} {d : Nat} {lent : Bool}
theorem beGet_p (b : List UInt8) (a w : Nat) (hw : w ≤ 8) (hl : a + w ≤ b.length) (hb : b.length < 4611686018427387904) : Xp T f_be_Get (some ([.ps 1 (bys b), .int .i64 a, .int .i64 w], lent)) h (some d) ops K ks e Q = Xo T ops K ks ((d, .int .u64 (beN 0 ((b.drop a).take w) : Nat)) :: e) h Q := by
  obtain ⟨h', r⟩ := beGet_run b a w [] hw hl hb
  exact Xp_run r (by simp [bys_hfs]) rfl (by simp [scalar])
theorem beGet_1 (b : List UInt8) (w : Int) (h0 : 0 ≤ w) (hw : w ≤ 8) (hl : 1 + w ≤ b.length) (hb : b.length < 4611686018427387904) : Xp T f_be_Get (some ([.ps 1 (bys b), .int .i64 1, .int .i64 w], lent)) h (some d) ops K ks e Q = Xo T ops K ks ((d, .int .u64 (beN 0 ((b.drop 1).take w.toNat) : Nat)) :: e) h Q := by
  obtain ⟨w, rfl⟩ := Int.eq_ofNat_of_zero_le h0
  exact beGet_p b 1 w (by omega) (by omega) hb
end
theorem hshr (q : EqK) (m k : Nat) (hm : m ≤ 7) (hk : k < 28) : binV .shr q (.int .u8 (((UInt8.ofNat (32 * m + k)).toNat : Nat) : Int)) (.int .u64 5) = some (.int .u8 (m : Int)) := by
  have : ∀ m : Fin 8, ∀ k : Fin 28, ((((UInt8.ofNat (32 * m.val + k.val)).toNat : Nat) : Int)).fdiv (2 ^ (min (Int.toNat 5) IntKind.u8.bits)) = (m.val : Int) := by decide +kernel
  rw [bin_shr (h := by omega), this ⟨m, by omega⟩ ⟨k, hk⟩]
theorem hand (q : EqK) (m k : Nat) (hm : m ≤ 7) (hk : k < 28) : binV .and q (.int .u8 (((UInt8.ofNat (32 * m + k)).toNat : Nat) : Int)) (.int .u8 31) = some (.int .u8 (k : Int)) := by
  have : ∀ m : Fin 8, ∀ k : Fin 28, IntKind.u8.wrap ↑(BitVec.ofInt IntKind.u8.bits (((UInt8.ofNat (32 * m.val + k.val)).toNat : Nat) : Int) &&& BitVec.ofInt IntKind.u8.bits 31).toNat = (k.val : Int) := by decide +kernel
  rw [bin_and, this ⟨m, by omega⟩ ⟨k, hk⟩]
theorem wide_cases (n : Nat) (h : 24 ≤ n) (hn : n < 18446744073709551616) : (wideS n = 1 ∧ n < 2 ^ (8 * 1)) ∨ (wideS n = 2 ∧ n < 2 ^ (8 * 2)) ∨ (wideS n = 4 ∧ n < 2 ^ (8 * 4)) ∨ (wideS n = 8 ∧ n < 2 ^ (8 * 8)) := by
  unfold wideS
  (repeat' split) <;> omega
attribute [-simp] bin_shr bin_and
theorem pw1 : IntKind.i64.wrap (2 ^ min 1 IntKind.i64.bits) = 2 := by decide
theorem pw2 : IntKind.i64.wrap (2 ^ min 2 IntKind.i64.bits) = 4 := by decide
theorem pw3 : IntKind.i64.wrap (2 ^ min 3 IntKind.i64.bits) = 8 := by decide
theorem headGet_run (m n : Nat) (rest : List UInt8) (h : Heap) (hm : m ≤ 7) (hn : n < 18446744073709551616) (hl : (hdB m n ++ rest).length < 4611686018427387904) :
    Run T f_head_Get [.ps 1 (bys (hdB m n ++ rest))] h (.tup [.int .i64 m, .int .u64 n, .int .i64 ((hdB m n).length : Nat), .int .i64 0]) h := by
  refine Run.start t_head_Get ?_
  unfold k_head_Get
  by_cases c : n < 24
  · have e1 : hdB m n ++ rest = UInt8.ofNat (32 * m + n) :: rest := by unfold hdB; rw [if_pos c]; rfl
    have e2 : (hdB m n).length = 1 := by unfold hdB; rw [if_pos c]; rfl
    rw [e1] at hl ⊢
    rw [e2]
    have g0 : (UInt8.ofNat (32 * m + n) :: rest)[0]? = some (UInt8.ofNat (32 * m + n)) := rfl
    have s1 := hshr .int m n hm (by omega)
    have s2 := hand .int m n hm (by omega)
    have z : ¬ (((rest.length : Int) + 1) = 0) := by omega
    generalize UInt8.ofNat (32 * m + n) = cc at *
    have cI : (n : Int) < 24 := by omega
    simp (disch := omega) [bys_len, bys_get, g0, byteV_def, s1, s2, z, cI]
  · have e1 : hdB m n ++ rest = UInt8.ofNat (32 * m + infoS (wideS n)) :: (beB (wideS n) n ++ rest) := by unfold hdB; rw [if_neg c]; rfl
    have e2 : (hdB m n).length = 1 + wideS n := by unfold hdB; rw [if_neg c]; simp [beB_len]; omega
    have bl : (beB (wideS n) n).length = wideS n := beB_len _ _
    rw [e1] at hl ⊢
    rw [e2]
    have g0 : (UInt8.ofNat (32 * m + infoS (wideS n)) :: (beB (wideS n) n ++ rest))[0]? = some (UInt8.ofNat (32 * m + infoS (wideS n))) := rfl
    have s1 := hshr .int m (infoS (wideS n)) hm (infoS_lt _)
    have s2 := hand .int m (infoS (wideS n)) hm (infoS_lt _)
    have hlen : (UInt8.ofNat (32 * m + infoS (wideS n)) :: (beB (wideS n) n ++ rest)).length = 1 + wideS n + rest.length := by simp [bl]; omega
    have hnum : ∀ w, wideS n = w → n < 2 ^ (8 * w) → beN 0 (((UInt8.ofNat (32 * m + infoS (wideS n)) :: (beB (wideS n) n ++ rest)).drop 1).take w) = n := fun w hw hlt => by
      rw [List.drop_succ_cons, List.drop_zero, List.take_append_of_le_length (by omega), List.take_of_length_le (by omega), hw, beN_beB w 0 n hlt]
      omega
    generalize UInt8.ofNat (32 * m + infoS (wideS n)) = cc at *
    generalize hB : cc :: (beB (wideS n) n ++ rest) = B at *
    have z : ¬ ((B.length : Int) = 0) := by omega
    rcases wide_cases n (by omega) hn with ⟨hw, hlt⟩ | ⟨hw, hlt⟩ | ⟨hw, hlt⟩ | ⟨hw, hlt⟩
    · have hN := hnum _ hw hlt
      have hi : infoS (wideS n) = 24 := by rw [hw]; rfl
      rw [hi] at s2
      rw [hw] at hlen
      have z2 : ¬ ((B.length : Int) < 2) := by omega
      have zB : ¬ B = [] := by intro e; rw [e] at hlen; simp at hlen; omega
      simp (disch := omega) [bys_len, bys_get, g0, byteV_def, s1, s2, zB, z2, hw, beGet_1, hN, wide_p, pw1, pw2, pw3]
    · have hN := hnum _ hw hlt
      have hi : infoS (wideS n) = 25 := by rw [hw]; rfl
      rw [hi] at s2
      rw [hw] at hlen
      have z2 : ¬ ((B.length : Int) < 3) := by omega
      have zB : ¬ B = [] := by intro e; rw [e] at hlen; simp at hlen; omega
      simp (disch := omega) [bys_len, bys_get, g0, byteV_def, s1, s2, zB, z2, hw, beGet_1, hN, wide_p, pw1, pw2, pw3]
    · have hN := hnum _ hw hlt
      have hi : infoS (wideS n) = 26 := by rw [hw]; rfl
      rw [hi] at s2
      rw [hw] at hlen
      have z2 : ¬ ((B.length : Int) < 5) := by omega
      have zB : ¬ B = [] := by intro e; rw [e] at hlen; simp at hlen; omega
      simp (disch := omega) [bys_len, bys_get, g0, byteV_def, s1, s2, zB, z2, hw, beGet_1, hN, wide_p, pw1, pw2, pw3]
    · have hN := hnum _ hw hlt
      have hi : infoS (wideS n) = 27 := by rw [hw]; rfl
      rw [hi] at s2
      rw [hw] at hlen
      have z2 : ¬ ((B.length : Int) < 9) := by omega
      have zB : ¬ B = [] := by intro e; rw [e] at hlen; simp at hlen; omega
      simp (disch := omega) [bys_len, bys_get, g0, byteV_def, s1, s2, zB, z2, hw, beGet_1, hN, wide_p, pw1, pw2, pw3]
section
variable {ks : List Kt} {ops : List AOpr} {K : Kp} {e : Env} {h : Heap} {Q : Ex → Env → Heap → Prop} {d : Nat} {lent : Bool}
theorem headGet_p (m n : Nat) (rest : List UInt8) (hm : m ≤ 7) (hn : n < 18446744073709551616) (hl : (hdB m n ++ rest).length < 4611686018427387904) : Xp T f_head_Get (some ([.ps 1 (bys (hdB m n ++ rest))], lent)) h (some d) ops K ks e Q =
    Xo T ops K ks ((d, .tup [.int .i64 m, .int .u64 n, .int .i64 ((hdB m n).length : Nat), .int .i64 0]) :: e) h Q :=
  Xp_run (headGet_run m n rest [] hm hn hl) (by simp [bys_hfs]) (by simp) (by simp [scalar])
end
end Ev
