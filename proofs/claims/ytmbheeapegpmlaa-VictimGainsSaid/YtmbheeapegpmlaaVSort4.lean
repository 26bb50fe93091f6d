/- Breaking patterns: the bit length, the next power of two, and the shifts. Each theorem states its own conditions. -/
import Derived.Test.YtmbheeapegpmlaaVSort3
set_option linter.all false
namespace Ev
open Go
set_option maxRecDepth 10000
attribute [-simp] getElem?_pos getElem?_neg
theorem lenTab_get : ∀ n, n < 64 → ([0, 1, 2, 2, 3, 3, 3, 3, 4, 4, 4, 4, 4, 4, 4, 4, 5, 5, 5, 5, 5, 5, 5, 5, 5, 5, 5, 5, 5, 5, 5, 5, 6, 6, 6, 6, 6, 6, 6, 6, 6, 6, 6, 6, 6, 6, 6, 6, 6, 6, 6, 6, 6, 6, 6, 6, 6, 6, 6, 6, 6, 6, 6, 6, 7, 7, 7, 7, 7, 7, 7, 7, 7, 7, 7, 7, 7, 7, 7, 7, 7, 7, 7, 7, 7, 7, 7, 7, 7, 7, 7, 7, 7, 7, 7, 7, 7, 7, 7, 7, 7, 7, 7, 7, 7, 7, 7, 7, 7, 7, 7, 7, 7, 7, 7, 7, 7, 7, 7, 7, 7, 7, 7, 7, 7, 7, 7, 7, 8, 8, 8, 8, 8, 8, 8, 8, 8, 8, 8, 8, 8, 8, 8, 8, 8, 8, 8, 8, 8, 8, 8, 8, 8, 8, 8, 8, 8, 8, 8, 8, 8, 8, 8, 8, 8, 8, 8, 8, 8, 8, 8, 8, 8, 8, 8, 8, 8, 8, 8, 8, 8, 8, 8, 8, 8, 8, 8, 8, 8, 8, 8, 8, 8, 8, 8, 8, 8, 8, 8, 8, 8, 8, 8, 8, 8, 8, 8, 8, 8, 8, 8, 8, 8, 8, 8, 8, 8, 8, 8, 8, 8, 8, 8, 8, 8, 8, 8, 8, 8, 8, 8, 8, 8, 8, 8, 8, 8, 8, 8, 8, 8, 8, 8, 8, 8, 8, 8, 8, 8, 8, 8, 8, 8, 8, 8, 8] : List UInt8)[n]? = some (UInt8.ofNat (Sort.bitsLen n)) := by decide +kernel
theorem bitsLen_le : ∀ n, n < 64 → Sort.bitsLen n ≤ 6 := by decide +kernel
theorem pow_bits : ∀ n, n < 64 → 8 ≤ n → 1 <<< Sort.bitsLen n ≤ 2 * n ∧ n < 1 <<< Sort.bitsLen n := by decide +kernel
theorem len64_run (h : Heap) (n : Nat) (hn : n < 64) : Run T f_math_bits_Len64 [.int .u64 n] h (.int .i64 (Sort.bitsLen n : Nat)) h := by
  refine Run.start t_math_bits_Len64 ?_
  unfold k_math_bits_Len64
  have c1 : ¬ (4294967296 : Int) ≤ n := by omega
  have c2 : ¬ (65536 : Int) ≤ n := by omega
  have c3 : ¬ (256 : Int) ≤ n := by omega
  have hb := bitsLen_le n hn
  have hm : Sort.bitsLen n % 256 = Sort.bitsLen n := by omega
  simp (disch := omega) [c1, c2, c3, lenTab_get n hn, byteV, hm]
theorem len_run (h : Heap) (n : Nat) (hn : n < 64) : Run T f_math_bits_Len [.int .u64 n] h (.int .i64 (Sort.bitsLen n : Nat)) h := by
  refine Run.start t_math_bits_Len ?_
  unfold k_math_bits_Len
  simp (disch := omega)
  rw [Xp_run (len64_run [] n hn) (by simp) (by simp) (by simp)]
  simp (disch := omega)
theorem next2_run (h : Heap) (n : Nat) (hn : n < 64) : Run T f_slices_nextPowerOfTwo [.int .i64 n] h (.int .u64 (1 <<< Sort.bitsLen n : Nat)) h := by
  refine Run.start t_slices_nextPowerOfTwo ?_
  unfold k_slices_nextPowerOfTwo
  have hb := bitsLen_le n hn
  have hp : ∀ k, k ≤ 6 → (IntKind.u64.wrap (2 ^ k) : Int) = ((1 <<< k : Nat) : Int) := by decide +kernel
  have hp := hp _ hb
  generalize 1 <<< Sort.bitsLen n = z at hp
  have hm : min (Sort.bitsLen n) 64 = Sort.bitsLen n := by omega
  simp (disch := omega)
  rw [Xp_run (len_run [] n hn) (by simp) (by simp) (by simp)]
  simp (disch := omega) [IntKind.bits, hp, hm]
  trace_state

/-! ### The shifts -/
theorem b64_shl (y : BitVec 64) (k : Nat) (z : Int) (hz : z = 2 ^ k) : BitVec.ofInt 64 (IntKind.u64.wrap ((y.toNat : Int) * z)) = y <<< k := by
  apply BitVec.eq_of_toNat_eq
  have : (2 : Int) ^ k = ((2 ^ k : Nat) : Int) := by simp
  subst hz
  simp only [IntKind.wrap, IntKind.bits, IntKind.signed, BitVec.toNat_ofInt, BitVec.toNat_shiftLeft, Nat.shiftLeft_eq, this]
  simp only [Bool.false_and, Bool.false_eq_true, if_false]
  have h2 : ((2 : Int) ^ 64) = ((2 ^ 64 : Nat) : Int) := by simp
  rw [h2, Int.emod_emod_of_dvd _ (Int.dvd_refl _), ← Int.natCast_mul, ← Int.natCast_emod, Int.toNat_natCast]
theorem b64_shr (y : BitVec 64) (k : Nat) (z : Int) (hz : z = 2 ^ k) : BitVec.ofInt 64 ((y.toNat : Int).fdiv z) = y >>> k := by
  apply BitVec.eq_of_toNat_eq
  have : (2 : Int) ^ k = ((2 ^ k : Nat) : Int) := by simp
  subst hz
  rw [Int.fdiv_eq_ediv_of_nonneg _ (by rw [this]; exact Int.natCast_nonneg _), this]
  simp only [BitVec.toNat_ofInt, BitVec.toNat_ushiftRight, Nat.shiftRight_eq_div_pow]
  have h2 : ((2 ^ 64 : Nat) : Int) = (((2 ^ 64 : Nat)) : Int) := rfl
  rw [← Int.natCast_ediv, ← Int.natCast_emod, Int.toNat_natCast]
  have := Nat.div_le_self y.toNat (2 ^ k)
  have := y.isLt
  exact Nat.mod_eq_of_lt (by omega)
theorem xorNext_bv (x : UInt64) : (Sort.xorNext x).toBitVec = x.toBitVec ^^^ x.toBitVec <<< 13 ^^^ (x.toBitVec ^^^ x.toBitVec <<< 13) >>> 7 ^^^ (x.toBitVec ^^^ x.toBitVec <<< 13 ^^^ (x.toBitVec ^^^ x.toBitVec <<< 13) >>> 7) <<< 17 := by
  simp [Sort.xorNext]
theorem next_run (h : Heap) (s : Nat) (hs : s < h.length) (x : UInt64) (hr : h.row s = some [.int .u64 (x.toNat : Int)]) :
    Run T f_slices_xorshift_Next [.ptr s 0] h (.int .u64 ((Sort.xorNext x).toNat : Int)) (h.set s (some [.int .u64 ((Sort.xorNext x).toNat : Int)])) := by
  refine Run.start t_slices_xorshift_Next ?_
  unfold k_slices_xorshift_Next
  have hx := xorNext_bv x
  rw [show (Sort.xorNext x).toNat = (Sort.xorNext x).toBitVec.toNat from rfl, hx]
  rw [show x.toNat = x.toBitVec.toNat from rfl] at hr
  generalize x.toBitVec = y at hr
  have s1 := fun y => b64_shl y 13 8192 rfl
  have s2 := fun y => b64_shr y 7 128 rfl
  have s3 := fun y => b64_shl y 17 131072 rfl
  generalize hz : y ^^^ y <<< 13 ^^^ (y ^^^ y <<< 13) >>> 7 ^^^ (y ^^^ y <<< 13 ^^^ (y ^^^ y <<< 13) >>> 7) <<< 17 = z
  simp (disch := omega) [hr, hs, IntKind.bits, s1, s2, s3]
  subst hz
  exact ⟨rfl, rfl⟩
section
variable {h0 h : Heap} {b f : Nat} {cap : List V} {c : Int → Int → Int}
/-- The random state's cell, at row s. -/
def XW (h : Heap) (s : Nat) (x : UInt64) : Heap := h.set s (some [.int .u64 (x.toNat : Int)])
theorem XW_len (s : Nat) (x : UInt64) : (XW h s x).length = h.length := by simp [XW]
theorem XW_row {s : Nat} (hs : s < h.length) (x : UInt64) : (XW h s x).row s = some [.int .u64 (x.toNat : Int)] := by unfold XW; rw [row_set hs]
theorem XW_set {s : Nat} (x x' : UInt64) : (XW h s x).set s (some [.int .u64 (x'.toNat : Int)]) = XW h s x' := by unfold XW; rw [List.set_set]
theorem tdiv4' (l : Nat) : (l : Int).tdiv 4 = ((l / 4 : Nat) : Int) := by rw [tdiv4 _ (by omega)]; omega
def brk (a l m : Nat) : Nat → UInt64 × Array Int → Nat → UInt64 × Array Int
  | 0, st, _ => st
  | k + 1, st, i => brk a l m k (Sort.breakStep a l m st i) (i + 1)
theorem break_size (a l m : Nat) (st : UInt64 × Array Int) (i : Nat) : (Sort.breakStep a l m st i).2.size = st.2.size := by
  unfold Sort.breakStep; simp only; rw [swp_size]
theorem brk_loop (s n a l m last : Nat) (hb : b < h.length) (hs : s < h.length) (hsb : s ≠ b) (hn : n < 50) (hl : 8 ≤ l) (hal : a + l ≤ n) (hm : m ≤ 2 * l) (hm0 : 0 < m) (hlast : last = a + l / 4 * 2 + 1) : ∀ (k i : Nat) (st : UInt64 × Array Int), i + k = last + 1 → st.2.size = n → ∀ ks Q,
    (∀ x e, Xk T ks (.x 0) e (SD (XW h s x) b (brk a l m k st i).2) Q) →
    Xc T l_slices_breakPatternsCmpFunc_int_0 ks [(0, .hs 1 b 0 n), (1, .int .i64 a), (8, .int .i64 l), (9, .ptr s 0), (10, .int .u64 m), (11, .int .i64 i)] (SD (XW h s st.1) b st.2) Q := by
  intro k
  induction k with
  | zero =>
    intro i st hi hd ks Q hx
    rw [L_slices_breakPatternsCmpFunc_int_0]; unfold bl_slices_breakPatternsCmpFunc_int_0
    have c1 : ¬ (i : Int) ≤ a + (l : Int) / 4 * 2 + 1 := by omega
    simp (disch := omega) [c1]
    exact hx _ _
  | succ k ih =>
    intro i st hi hd ks Q hx
    rw [L_slices_breakPatternsCmpFunc_int_0]; unfold bl_slices_breakPatternsCmpFunc_int_0
    have c1 : (i : Int) ≤ a + (l : Int) / 4 * 2 + 1 := by omega
    obtain ⟨x, d⟩ := st
    have r1 : (SD (XW h s x) b d).row s = some [.int .u64 (x.toNat : Int)] := by rw [row_SD hsb, XW_row hs]
    have hlt : s < List.length (SD (XW h s x) b d) := by rw [SD_len, XW_len]; exact hs
    simp (disch := omega) [c1]
    rw [Xf_run (next_run _ s hlt x r1)]
    have e1 : (m : Int) - 1 = ((m - 1 : Nat) : Int) := by omega
    rw [set_SD hsb, XW_set]
    generalize hx' : Sort.xorNext x = x'
    simp (disch := omega) [e1]
    obtain ⟨o, ho⟩ : ∃ o, o = x'.toNat &&& (m - 1) := ⟨_, rfl⟩
    have hom : o ≤ m - 1 := by rw [ho]; exact Nat.and_le_right
    have hw : IntKind.i64.wrap (IntKind.u64.wrap (((x'.toNat % 2 ^ IntKind.u64.bits &&& (m - 1) % 2 ^ IntKind.u64.bits : Nat)) : Int)) = (o : Int) := by
      rw [Nat.mod_eq_of_lt (a := x'.toNat) (by exact x'.toNat_lt), Nat.mod_eq_of_lt (a := m - 1) (by simp only [IntKind.bits]; omega), ← ho]
      simp (disch := omega)
    rw [hw]
    have hx2 : ∀ y, (if o ≥ l then o - l else o) = y → ∀ x e, Xk T ks (.x 0) e (SD (XW h s x) b (brk a l m k (x', Sort.swp d i (a + y)) (i + 1)).2) Q := by
      intro y hy
      unfold brk at hx
      have : Sort.breakStep a l m (x, d) i = (x', Sort.swp d i (a + y)) := by
        unfold Sort.breakStep
        simp only [hx', ← ho, hy]
      rw [this] at hx
      exact hx
    have hd' : d.size = n := hd
    refine share2 (fun (y : Nat) (_ : List (Nat × V)) => y < l ∧ (if o ≥ l then o - l else o) = y) ?R (fun hR => ?main) ?rest
    case main =>
      apply Xb_dec
      · intro c2
        obtain ⟨y, hy⟩ : ∃ y, y = o - l := ⟨_, rfl⟩
        have e2 : (o : Int) - l = (y : Int) := by omega
        simp (disch := omega) [e2]
        generalize [((45 : Nat), V.bool (decide ((l : Int) ≤ o)))] = tl
        generalize ([] : List (Nat × V)) = tl
        exact hR y tl ⟨by omega, by rw [if_pos (by omega)]; exact hy.symm⟩
      · intro c2
        simp (disch := omega) [c2]
        generalize [((45 : Nat), V.bool false)] = tl
        exact hR o tl ⟨by omega, by rw [if_neg (by omega)]⟩
    case rest =>
      intro y tl ⟨hy1, hy2⟩
      have hb' : b < List.length (XW h s x') := by rw [XW_len]; exact hb
      have r1 := SD_row hb' d
      have gl := SD_ints d
      have hbs := SD_lt hb' d
      have g0 := SD_getN d i (by omega)
      have g1 := SD_getN d (a + y) (by omega)
      have i1 : ((a : Int) + y).toNat = a + y := by omega
      have i2 : (((l : Int) / 4).toNat) = l / 4 := by omega
      simp (disch := omega) [i1, r1, g0, g1, gl]
      have := ih (i + 1) (x', Sort.swp d i (a + y)) (by omega) (by simp only [swp_size]; exact hd) ks Q (hx2 y hy2)
      simpa using this
theorem XW_app (z : UInt64) (v : V) : (h ++ [some [v]]).set h.length (some [.int .u64 (z.toNat : Int)]) = XW (h ++ [some [.int .u64 0]]) h.length z := by
  unfold XW; rw [List.set_append_right _ _ (Nat.le_refl _), List.set_append_right _ _ (Nat.le_refl _)]; simp
theorem XW_app' (z : UInt64) : XW (h ++ [some [.int .u64 0]]) h.length z = h ++ [some [.int .u64 (z.toNat : Int)]] := by
  unfold XW; rw [List.set_append_right _ _ (Nat.le_refl _)]; simp
theorem brk_run (hb : b < h.length) (d : Array Int) (a e : Nat) (hn : d.size < 50) (hae : a + 12 < e) (he : e ≤ d.size) :
    ∃ z : V, Run T f_slices_breakPatternsCmpFunc_int [.hs 1 b 0 d.size, .int .i64 a, .int .i64 e, .fn f cap] (SD h b d) (.tup []) (SD (h ++ [some [z]]) b (Sort.breakPatterns d a e)) := by
  have key : ∃ v h', (v = .tup [] ∧ ∃ z : V, h' = SD (h ++ [some [z]]) b (Sort.breakPatterns d a e)) ∧ Run T f_slices_breakPatternsCmpFunc_int [.hs 1 b 0 d.size, .int .i64 a, .int .i64 e, .fn f cap] (SD h b d) v h' := by
    refine Run.startP t_slices_breakPatternsCmpFunc_int ?_
    unfold k_slices_breakPatternsCmpFunc_int
    obtain ⟨l, hl⟩ : ∃ l, l = e - a := ⟨_, rfl⟩
    obtain ⟨m, hm⟩ : ∃ m, m = 1 <<< Sort.bitsLen l := ⟨_, rfl⟩
    obtain ⟨i, hi⟩ : ∃ i, i = a + l / 4 * 2 - 1 := ⟨_, rfl⟩
    have e1 : (e : Int) - a = (l : Int) := by omega
    have c1 : (8 : Int) ≤ l := by omega
    have e2 : (a : Int) + (l : Int) / 4 * 2 - 1 = i := by omega
    have hp := pow_bits l (by omega) (by omega)
    have hk : Sort.breakPatterns d a e = (brk a l m 3 (UInt64.ofNat l, d) i).2 := by
      unfold Sort.breakPatterns
      dsimp only
      rw [if_pos (show e - a ≥ 8 by omega), ← hl, ← hm, ← hi]
      rfl
    have hsb : h.length ≠ b := by omega
    have hu : ((UInt64.ofNat l).toNat : Int) = (l : Int) := by
      have : (UInt64.ofNat l).toNat = l := by simp; omega
      rw [this]
    have hxa : (h ++ [some [V.int .u64 0]]).set h.length (some [.int .u64 (l : Int)]) = XW (h ++ [some [.int .u64 0]]) h.length (UInt64.ofNat l) := by rw [← hu]; exact XW_app _ _
    have r2 : (SD (h ++ [some [.int .u64 0]]) b d).row h.length = some [.int .u64 0] := by rw [row_SD hsb, row_new]
    simp (disch := omega) [e1, c1, SD_len, SD_app hb, r2]
    rw [set_SD hsb, hxa]
    rw [Xp_run (next2_run [] l (by omega)) (by simp) (by simp) (by simp), ← hm]
    simp (disch := omega) [e2]
    refine brk_loop h.length d.size a l m (i + 2) (by simp; omega) (by simp) hsb hn (by omega) (by omega) (by omega) (by omega) (by omega) 3 i (UInt64.ofNat l, d) (by omega) rfl _ _ fun x e => ?_
    rw [XW_app', ← hk]
    simp
    exact ⟨_, rfl⟩
  obtain ⟨v, h', ⟨rfl, z, rfl⟩, hr⟩ := key
  exact ⟨z, hr⟩
end
end Ev
