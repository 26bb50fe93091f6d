/- Sums: what the walk over bytes comes to. Sums of a kind; two rows of bytes that differ in one byte have other sums. Each theorem states its own conditions. -/
import Derived.Test.YtienkohkbihdoaaGreatDoorBCode
import Derived.Test.YtienkohkbihdoaaGreatDoorBBy
import Derived.Test.YtienkohkbihdoaaGreatDoorBV6
set_option linter.all false
namespace Ev
open Go
set_option maxRecDepth 10000
attribute [-simp] getElem?_pos getElem?_neg List.drop_one bin_xor bin_and bin_shr un_xor
def half (s : Nat) : Nat := s / 2
def odd (s : Nat) : Nat := s % 2
def xr (a b : Nat) : Nat := a ^^^ b
/-- One bit of a sum. -/
def gS (p s : Nat) : Nat := if odd s = 1 then xr (half s) p else half s
def gN (p : Nat) : Nat → Nat → Nat
  | 0, s => s
  | k + 1, s => gN p k (gS p s)
def onS (p s : Nat) (c : UInt8) : Nat := gN p 8 (xr s c.toNat)
def thrS (p s : Nat) (b : List UInt8) : Nat := b.foldl (onS p) s
theorem thrS_nil (p s : Nat) : thrS p s [] = s := List.foldl_nil
theorem thrS_cons (p s : Nat) (c : UInt8) (r : List UInt8) : thrS p s (c :: r) = thrS p (onS p s c) r := List.foldl_cons ..
theorem xr_lt {a b : Nat} (w : Nat) (ha : a < 2 ^ w) (hb : b < 2 ^ w) : xr a b < 2 ^ w := Nat.xor_lt_two_pow ha hb
theorem gS_lt {p s : Nat} (w : Nat) (hp : p < 2 ^ w) (hs : s < 2 ^ w) : gS p s < 2 ^ w := by
  have h : half s < 2 ^ w := by unfold half; omega
  unfold gS
  split
  · exact xr_lt w h hp
  · exact h
theorem gN_lt {p : Nat} (w : Nat) (hp : p < 2 ^ w) : ∀ (k s : Nat), s < 2 ^ w → gN p k s < 2 ^ w
  | 0, s, h => h
  | k + 1, s, h => gN_lt w hp k _ (gS_lt w hp h)
theorem onS_lt {p s : Nat} (w : Nat) (hw : 8 ≤ w) (hp : p < 2 ^ w) (hs : s < 2 ^ w) (c : UInt8) : onS p s c < 2 ^ w := by
  refine gN_lt w hp 8 _ (xr_lt w hs ?_)
  have := c.toNat_lt
  have : 2 ^ 8 ≤ 2 ^ w := Nat.pow_le_pow_right (by omega) hw
  omega
theorem thrS_lt {p : Nat} (w : Nat) (hw : 8 ≤ w) (hp : p < 2 ^ w) : ∀ (b : List UInt8) (s : Nat), s < 2 ^ w → thrS p s b < 2 ^ w
  | [], s, h => by rw [thrS_nil]; exact h
  | c :: r, s, h => by rw [thrS_cons]; exact thrS_lt w hw hp r _ (onS_lt w hw hp h c)
theorem xor32 (q : EqK) (a b : Nat) (ha : a < 4294967296) (hb : b < 4294967296) : binV .xor q (.int .u32 (a : Int)) (.int .u32 (b : Int)) = some (.int .u32 ((xr a b : Nat) : Int)) := by
  rw [bin_xor]
  show some (V.int .u32 (IntKind.u32.wrap ((BitVec.ofInt 32 (a : Int) ^^^ BitVec.ofInt 32 (b : Int)).toNat : Int))) = _
  have hx : xr a b < 4294967296 := xr_lt 32 ha hb
  have e1 : (BitVec.ofInt 32 (a : Int) ^^^ BitVec.ofInt 32 (b : Int)).toNat = xr a b := by
    rw [BitVec.ofInt_natCast, BitVec.ofInt_natCast, BitVec.toNat_xor, BitVec.toNat_ofNat, BitVec.toNat_ofNat, Nat.mod_eq_of_lt ha, Nat.mod_eq_of_lt hb]
    rfl
  rw [e1, wrap_u32 (by omega) (by omega)]
theorem and32 (q : EqK) (a : Nat) (ha : a < 4294967296) : binV .and q (.int .u32 (a : Int)) (.int .u32 1) = some (.int .u32 ((odd a : Nat) : Int)) := by
  rw [bin_and]
  show some (V.int .u32 (IntKind.u32.wrap ((BitVec.ofInt 32 (a : Int) &&& BitVec.ofInt 32 ((1 : Nat) : Int)).toNat : Int))) = _
  have e1 : (BitVec.ofInt 32 (a : Int) &&& BitVec.ofInt 32 ((1 : Nat) : Int)).toNat = odd a := by
    rw [BitVec.ofInt_natCast, BitVec.ofInt_natCast, BitVec.toNat_and, BitVec.toNat_ofNat, BitVec.toNat_ofNat, Nat.mod_eq_of_lt ha, Nat.mod_eq_of_lt (by omega), Nat.and_one_is_mod]
    rfl
  have h2 : odd a < 2 := by unfold odd; omega
  rw [e1, wrap_u32 (by omega) (by omega)]
theorem shr32 (q : EqK) (a : Nat) : binV .shr q (.int .u32 (a : Int)) (.int .u64 1) = some (.int .u32 ((half a : Nat) : Int)) := by
  rw [bin_shr (h := by omega)]
  have e1 : min (Int.toNat 1) IntKind.u32.bits = 1 := rfl
  rw [e1, Int.fdiv_eq_ediv_of_nonneg _ (by omega)]
  rfl
theorem conv32 (h : Heap) (c : UInt8) : convV h (.i .u32) (byteV c) = some (.int .u32 (c.toNat : Int)) := by
  have := u8_lt c
  rw [conv_byte, wrap_u32 (by omega) (by omega)]
theorem bits_loop (p : Nat) (hp : p < 4294967296) (h : Heap) : ∀ (m i : Nat), i + m = 8 → ∀ (s : Nat), s < 4294967296 → ∀ ks Q (e : Env),
    (∀ e, Xk T ks (.x 0) ([(0, .int .u32 (gN p m s : Nat))] ++ e) (h ++ [some [.int .u32 p]]) Q) →
    Xc T l_crc_bits_1_0 ks ([(0, .int .u32 s), (2, .ptr h.length 0), (10, .int .i64 i)] ++ e) (h ++ [some [.int .u32 p]]) Q := by
  intro m
  induction m with
  | zero =>
    intro i hi s hs ks Q e hQ
    rw [L_crc_bits_1_0]; unfold bl_crc_bits_1_0
    have e0 : i = 8 := by omega
    subst e0
    simp (disch := omega)
    exact hQ _
  | succ m ih =>
    intro i hi s hs ks Q e hQ
    rw [L_crc_bits_1_0]; unfold bl_crc_bits_1_0
    have e1 : (i : Int) < 8 := by omega
    have hg : gS p s < 4294967296 := gS_lt 32 hp hs
    have hh : half s < 4294967296 := by unfold half; omega
    have := ih (i + 1) (by omega) (gS p s) hg ks Q [] hQ
    simp (disch := omega) [e1, and32]
    refine Xb_dec (fun c1 => ?_) (fun c1 => ?_)
    · have e2 : gS p s = xr (half s) p := by unfold gS; rw [if_pos (by omega)]
      rw [e2] at this
      simp (disch := omega) [shr32, xor32]
      simpa using this
    · have e2 : gS p s = half s := by unfold gS; rw [if_neg (by omega)]
      rw [e2] at this
      simp (disch := omega) [shr32]
      simpa using this
theorem bits1_run (p s : Nat) (c : UInt8) (h : Heap) (hp : p < 4294967296) (hs : s < 4294967296) : Run T f_crc_bits_1 [.int .u32 s, byteV c, .ptr h.length 0] (h ++ [some [.int .u32 p]]) (.int .u32 (onS p s c : Nat)) (h ++ [some [.int .u32 p]]) := by
  refine Run.start t_crc_bits_1 ?_
  unfold k_crc_bits_1
  have hc := c.toNat_lt
  simp (disch := omega) [conv32, xor32]
  have hx : xr s c.toNat < 4294967296 := xr_lt 32 hs (by omega)
  have L := bits_loop p hp h 8 0 rfl (xr s c.toNat) hx
  have e8 : gN p 8 (xr s c.toNat) = onS p s c := rfl
  rw [e8] at L
  generalize onS p s c = z at *
  exact L _ _ [] (fun e => by simp (disch := omega))
theorem bits_run (p : Nat) (h : Heap) : Run T f_crc_bits [.int .u32 p] h (.fn f_crc_bits_1 [.ptr h.length 0]) (h ++ [some [.int .u32 p]]) := by
  refine Run.start t_crc_bits ?_
  unfold k_crc_bits
  simp (disch := omega)
theorem thr_loop (p : Nat) (hp : p < 4294967296) (b : List UInt8) (hb : b.length < 4611686018427387904) (h : Heap) : ∀ (m i : Nat), i + m = b.length → ∀ (s : Nat), s < 4294967296 → ∀ ks Q (e : Env),
    (∀ e, Xk T ks (.x 0) ([(0, .int .u32 (thrS p s (b.drop i) : Nat))] ++ e) (h ++ [some [.int .u32 p]]) Q) →
    Xc T l_crc_through_0 ks ([(0, .int .u32 s), (7, .fn f_crc_bits_1 [.ptr h.length 0]), (12, .ps 1 (bys b)), (13, .int .i64 b.length), (14, .int .i64 i)] ++ e) (h ++ [some [.int .u32 p]]) Q := by
  intro m
  induction m with
  | zero =>
    intro i hi s hs ks Q e hQ
    rw [L_crc_through_0]; unfold bl_crc_through_0
    have e0 : i = b.length := by omega
    subst e0
    rw [List.drop_length, thrS_nil] at hQ
    simp (disch := omega)
    exact hQ _
  | succ m ih =>
    intro i hi s hs ks Q e hQ
    rw [L_crc_through_0]; unfold bl_crc_through_0
    have e1 : i < b.length := by omega
    have e3 : (i : Int) < b.length := by omega
    have g := List.getElem?_eq_getElem e1
    have da : b.drop i = b[i] :: b.drop (i + 1) := List.drop_eq_getElem_cons e1
    rw [da] at hQ
    rw [thrS_cons] at hQ
    have hg : onS p s b[i] < 4294967296 := onS_lt 32 (by omega) hp hs _
    have := ih (i + 1) (by omega) (onS p s b[i]) hg ks Q [] hQ
    have r := bits1_run p s b[i] h hp hs
    have hf : T.free f_crc_bits_1 = true := rfl
    simp (disch := first | omega | assumption) [e3, bys_len, bys_get, g]
    rw [Xf_run r]
    simp (disch := omega)
    simpa using this
theorem through_run (p s : Nat) (b : List UInt8) (h : Heap) (hp : p < 4294967296) (hs : s < 4294967296) (hb : b.length < 4611686018427387904) : ∃ h', Run T f_crc_through [.int .u32 s, .int .u32 p, .ps 1 (bys b)] h (.int .u32 (thrS p s b : Nat)) h' := by
  refine Run.startE t_crc_through ?_
  unfold k_crc_through
  have r := bits_run p h
  simp (disch := omega)
  rw [Xf_run r]
  simp (disch := omega) [bys_len]
  refine thr_loop p hp b hb h b.length 0 (by omega) s hs _ _ [] (fun e => ?_)
  simp (disch := omega)
theorem unx16 (a : Nat) (ha : a < 65536) : unV .xor (.int .u16 (a : Int)) = some (.int .u16 ((xr 65535 a : Nat) : Int)) := by
  rw [un_xor]
  show some (V.int .u16 (IntKind.u16.wrap ((BitVec.ofInt 16 ((65535 : Nat) : Int) ^^^ BitVec.ofInt 16 (a : Int)).toNat : Int))) = _
  have hx : xr 65535 a < 65536 := xr_lt 16 (by omega) ha
  have e1 : (BitVec.ofInt 16 ((65535 : Nat) : Int) ^^^ BitVec.ofInt 16 (a : Int)).toNat = xr 65535 a := by
    rw [BitVec.ofInt_natCast, BitVec.ofInt_natCast, BitVec.toNat_xor, BitVec.toNat_ofNat, BitVec.toNat_ofNat, Nat.mod_eq_of_lt (by omega), Nat.mod_eq_of_lt ha]
    rfl
  rw [e1, wrap_u16 (by omega) (by omega)]
theorem unx32 (a : Nat) (ha : a < 4294967296) : unV .xor (.int .u32 (a : Int)) = some (.int .u32 ((xr 4294967295 a : Nat) : Int)) := by
  rw [un_xor]
  show some (V.int .u32 (IntKind.u32.wrap ((BitVec.ofInt 32 ((4294967295 : Nat) : Int) ^^^ BitVec.ofInt 32 (a : Int)).toNat : Int))) = _
  have hx : xr 4294967295 a < 4294967296 := xr_lt 32 (by omega) ha
  have e1 : (BitVec.ofInt 32 ((4294967295 : Nat) : Int) ^^^ BitVec.ofInt 32 (a : Int)).toNat = xr 4294967295 a := by
    rw [BitVec.ofInt_natCast, BitVec.ofInt_natCast, BitVec.toNat_xor, BitVec.toNat_ofNat, BitVec.toNat_ofNat, Nat.mod_eq_of_lt (by omega), Nat.mod_eq_of_lt ha]
    rfl
  rw [e1, wrap_u32 (by omega) (by omega)]
theorem unx16_0 : unV .xor (.int .u16 0) = some (.int .u16 65535) := unx16 0 (by omega)
theorem unx32_0 : unV .xor (.int .u32 0) = some (.int .u32 4294967295) := unx32 0 (by omega)
section
variable {ks : List Kt} {ops : List AOpr} {K : Kp} {e : Env} {h : Heap} {Q : Ex → Env → Heap → Prop} {d : Nat} {lent : Bool}
theorem through_s (b : List UInt8) (hb : b.length < 4611686018427387904) : Xp T f_crc_through (some ([.int .u32 65535, .int .u32 33800, .ps 1 (bys b)], lent)) h (some d) ops K ks e Q = Xo T ops K ks ((d, .int .u32 (thrS 33800 65535 b : Nat)) :: e) h Q := by
  obtain ⟨h', r⟩ := through_run 33800 65535 b [] (by omega) (by omega) hb
  exact Xp_run r (by simp [bys_hfs]) rfl (by simp [scalar])
theorem through_l (b : List UInt8) (hb : b.length < 4611686018427387904) : Xp T f_crc_through (some ([.int .u32 4294967295, .int .u32 2197175160, .ps 1 (bys b)], lent)) h (some d) ops K ks e Q = Xo T ops K ks ((d, .int .u32 (thrS 2197175160 4294967295 b : Nat)) :: e) h Q := by
  obtain ⟨h', r⟩ := through_run 2197175160 4294967295 b [] (by omega) (by omega) hb
  exact Xp_run r (by simp [bys_hfs]) rfl (by simp [scalar])
end
def crcN (kind : Nat) (b : List UInt8) : Nat := if kind = 1 then xr 65535 (thrS 33800 65535 b) else if kind = 2 then xr 4294967295 (thrS 2197175160 4294967295 b) else 0
def widthN (kind : Nat) : Nat := if kind = 1 then 2 else if kind = 2 then 4 else 0
theorem GoShort_run (b : List UInt8) (h : Heap) (hb : b.length < 4611686018427387904) : Run T f_crc_GoShort [.int .u16 0, .ps 1 (bys b)] h (.int .u16 (xr 65535 (thrS 33800 65535 b) : Nat)) h := by
  refine Run.start t_crc_GoShort ?_
  unfold k_crc_GoShort
  have hx : thrS 33800 65535 b < 65536 := thrS_lt 16 (by omega) (by omega) b _ (by omega)
  simp (disch := omega) [unx16_0, through_s, unx16]
theorem GoLong_run (b : List UInt8) (h : Heap) (hb : b.length < 4611686018427387904) : Run T f_crc_GoLong [.int .u32 0, .ps 1 (bys b)] h (.int .u32 (xr 4294967295 (thrS 2197175160 4294967295 b) : Nat)) h := by
  refine Run.start t_crc_GoLong ?_
  unfold k_crc_GoLong
  have hx : thrS 2197175160 4294967295 b < 4294967296 := thrS_lt 32 (by omega) (by omega) b _ (by omega)
  simp (disch := omega) [unx32_0, through_l, unx32]
section
variable {ks : List Kt} {ops : List AOpr} {K : Kp} {e : Env} {h : Heap} {Q : Ex → Env → Heap → Prop} {d : Nat} {lent : Bool}
theorem GoShort_p (b : List UInt8) (hb : b.length < 4611686018427387904) : Xp T f_crc_GoShort (some ([.int .u16 0, .ps 1 (bys b)], lent)) h (some d) ops K ks e Q = Xo T ops K ks ((d, .int .u16 (xr 65535 (thrS 33800 65535 b) : Nat)) :: e) h Q :=
  Xp_run (GoShort_run b [] hb) (by simp [bys_hfs]) rfl (by simp [scalar])
theorem GoLong_p (b : List UInt8) (hb : b.length < 4611686018427387904) : Xp T f_crc_GoLong (some ([.int .u32 0, .ps 1 (bys b)], lent)) h (some d) ops K ks e Q = Xo T ops K ks ((d, .int .u32 (xr 4294967295 (thrS 2197175160 4294967295 b) : Nat)) :: e) h Q :=
  Xp_run (GoLong_run b [] hb) (by simp [bys_hfs]) rfl (by simp [scalar])
end
theorem Short_run (b : List UInt8) (h : Heap) (hb : b.length < 4611686018427387904) : Run T f_crc_Short [.ps 1 (bys b)] h (.int .u16 (xr 65535 (thrS 33800 65535 b) : Nat)) h := by
  refine Run.start t_crc_Short ?_
  unfold k_crc_Short
  simp (disch := omega) [GoShort_p]
theorem Long_run (b : List UInt8) (h : Heap) (hb : b.length < 4611686018427387904) : Run T f_crc_Long [.ps 1 (bys b)] h (.int .u32 (xr 4294967295 (thrS 2197175160 4294967295 b) : Nat)) h := by
  refine Run.start t_crc_Long ?_
  unfold k_crc_Long
  simp (disch := omega) [GoLong_p]
section
variable {ks : List Kt} {ops : List AOpr} {K : Kp} {e : Env} {h : Heap} {Q : Ex → Env → Heap → Prop} {d : Nat} {lent : Bool}
theorem Short_p (b : List UInt8) (hb : b.length < 4611686018427387904) : Xp T f_crc_Short (some ([.ps 1 (bys b)], lent)) h (some d) ops K ks e Q = Xo T ops K ks ((d, .int .u16 (xr 65535 (thrS 33800 65535 b) : Nat)) :: e) h Q :=
  Xp_run (Short_run b [] hb) (by simp [bys_hfs]) rfl (by simp [scalar])
theorem Long_p (b : List UInt8) (hb : b.length < 4611686018427387904) : Xp T f_crc_Long (some ([.ps 1 (bys b)], lent)) h (some d) ops K ks e Q = Xo T ops K ks ((d, .int .u32 (xr 4294967295 (thrS 2197175160 4294967295 b) : Nat)) :: e) h Q :=
  Xp_run (Long_run b [] hb) (by simp [bys_hfs]) rfl (by simp [scalar])
end
theorem crcN_lt (kind : Nat) (b : List UInt8) : crcN kind b < 2 ^ (8 * widthN kind) := by
  unfold crcN widthN
  by_cases c1 : kind = 1
  · rw [if_pos c1, if_pos c1]
    exact xr_lt 16 (by omega) (thrS_lt 16 (by omega) (by omega) b _ (by omega))
  · rw [if_neg c1, if_neg c1]
    by_cases c2 : kind = 2
    · rw [if_pos c2, if_pos c2]
      exact xr_lt 32 (by omega) (thrS_lt 32 (by omega) (by omega) b _ (by omega))
    · rw [if_neg c2, if_neg c2]; omega
theorem Of_run (kind : Nat) (b : List UInt8) (h : Heap) (hb : b.length < 4611686018427387904) : Run T f_crc_Of [.int .i64 kind, .ps 1 (bys b)] h (.int .u64 (crcN kind b : Nat)) h := by
  refine Run.start t_crc_Of ?_
  unfold k_crc_Of
  have h1 : xr 65535 (thrS 33800 65535 b) < 65536 := xr_lt 16 (by omega) (thrS_lt 16 (by omega) (by omega) b _ (by omega))
  have h2 : xr 4294967295 (thrS 2197175160 4294967295 b) < 4294967296 := xr_lt 32 (by omega) (thrS_lt 32 (by omega) (by omega) b _ (by omega))
  simp (disch := omega)
  refine Xb_dec (fun c1 => ?_) (fun c1 => ?_)
  · have e1 : kind = 1 := by omega
    simp (disch := omega) [Short_p, crcN, e1]
  · have e1 : ¬ kind = 1 := by omega
    simp (disch := omega)
    refine Xb_dec (fun c2 => ?_) (fun c2 => ?_)
    · have e2 : kind = 2 := by omega
      simp (disch := omega) [Long_p, crcN, e2]
    · have e2 : ¬ kind = 2 := by omega
      simp (disch := omega) [crcN, e1, e2]
theorem Width_run (kind : Nat) (h : Heap) : Run T f_crc_Width [.int .i64 kind] h (.int .i64 (widthN kind : Nat)) h := by
  refine Run.start t_crc_Width ?_
  unfold k_crc_Width
  simp (disch := omega)
  refine Xb_dec (fun c1 => ?_) (fun c1 => ?_)
  · have e1 : kind = 1 := by omega
    simp (disch := omega) [widthN, e1]
  · have e1 : ¬ kind = 1 := by omega
    simp (disch := omega)
    refine Xb_dec (fun c2 => ?_) (fun c2 => ?_)
    · have e2 : kind = 2 := by omega
      simp (disch := omega) [widthN, e2]
    · have e2 : ¬ kind = 2 := by omega
      simp (disch := omega) [widthN, e1, e2]
section
variable {ks : List Kt} {ops : List AOpr} {K : Kp} {e : Env} {h : Heap} {Q : Ex → Env → Heap → Prop} {d : Nat} {lent : Bool}
theorem Of_p (kind : Nat) (b : List UInt8) (hb : b.length < 4611686018427387904) : Xp T f_crc_Of (some ([.int .i64 kind, .ps 1 (bys b)], lent)) h (some d) ops K ks e Q = Xo T ops K ks ((d, .int .u64 (crcN kind b : Nat)) :: e) h Q :=
  Xp_run (Of_run kind b [] hb) (by simp [bys_hfs]) rfl (by simp [scalar])
theorem Width_p (kind : Nat) : Xp T f_crc_Width (some ([.int .i64 kind], lent)) h (some d) ops K ks e Q = Xo T ops K ks ((d, .int .i64 (widthN kind : Nat)) :: e) h Q :=
  Xp_run (Width_run kind []) (by simp) rfl (by simp [scalar])
end
theorem bwidth_run (kind : Nat) (h : Heap) : Run T f_block_width [.int .i64 kind] h (.int .i64 (widthN kind : Nat)) h := by
  refine Run.start t_block_width ?_
  unfold k_block_width
  simp (disch := omega) [Width_p]
section
variable {ks : List Kt} {ops : List AOpr} {K : Kp} {e : Env} {h : Heap} {Q : Ex → Env → Heap → Prop} {d : Nat} {lent : Bool}
theorem bwidth_p (kind : Nat) : Xp T f_block_width (some ([.int .i64 kind], lent)) h (some d) ops K ks e Q = Xo T ops K ks ((d, .int .i64 (widthN kind : Nat)) :: e) h Q :=
  Xp_run (bwidth_run kind []) (by simp) rfl (by simp [scalar])
theorem bwidth_1 : Xp T f_block_width (some ([.int .i64 1], lent)) h (some d) ops K ks e Q = Xo T ops K ks ((d, .int .i64 2) :: e) h Q := bwidth_p 1
theorem bwidth_2 : Xp T f_block_width (some ([.int .i64 2], lent)) h (some d) ops K ks e Q = Xo T ops K ks ((d, .int .i64 4) :: e) h Q := bwidth_p 2
theorem bePut_0 (w n : Nat) (hw : w ≤ 8) : Xp T f_be_Put (some ([.ps 1 [], .int .i64 w, .int .u64 n], false)) h (some d) ops K ks e Q = Xo T ops K ks ((d, .ps 1 (bys (beB w n))) :: e) h Q :=
  bePut_p [] w n hw (by simp)
end
theorem widthN_le (kind : Nat) : widthN kind ≤ 4 := by unfold widthN; (repeat' split) <;> omega
def sumB (kind : Nat) (b : List UInt8) : List UInt8 := beB (widthN kind) (crcN kind b)
theorem sumB_len (kind : Nat) (b : List UInt8) : (sumB kind b).length = widthN kind := beB_len _ _
theorem bsum_run (kind : Nat) (b : List UInt8) (h : Heap) (hb : b.length < 4611686018427387904) : Run T f_block_sum [.int .i64 kind, .ps 1 (bys b)] h (.ps 1 (bys (sumB kind b))) h := by
  refine Run.start t_block_sum ?_
  unfold k_block_sum
  have := widthN_le kind
  simp (disch := omega) [bwidth_p, Of_p, bePut_0, sumB]
end Ev
