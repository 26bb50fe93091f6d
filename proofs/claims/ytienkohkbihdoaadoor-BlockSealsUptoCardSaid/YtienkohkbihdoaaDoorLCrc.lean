/- Sums: what the walk over bytes comes to. Each theorem states its own conditions. -/
import Derived.Test.YtienkohkbihdoaaDoorLHd
set_option linter.all false
namespace Ev
open Go
set_option maxRecDepth 10000
attribute [-simp] getElem?_pos getElem?_neg List.drop_one bin_xor bin_and bin_shr un_xor

def half (s : Nat) : Nat := s / 2
def odd (s : Nat) : Nat := s % 2
def xr (a b : Nat) : Nat := a ^^^ b
/-- One bit of a sum. -/
def gS (p s : Nat) : Nat := if odd s = 1 then xr (half s) p else half s
def gN (p : Nat) : Nat → Nat → Nat
  | 0, s => s
  | k + 1, s => gN p k (gS p s)
def onS (p s : Nat) (c : UInt8) : Nat := gN p 8 (xr s c.toNat)
def thrS (p s : Nat) (b : List UInt8) : Nat := b.foldl (onS p) s
theorem thrS_nil (p s : Nat) : thrS p s [] = s := List.foldl_nil
theorem thrS_cons (p s : Nat) (c : UInt8) (r : List UInt8) : thrS p s (c :: r) = thrS p (onS p s c) r := List.foldl_cons ..
theorem thrS_app (p s : Nat) (a b : List UInt8) : thrS p s (a ++ b) = thrS p (thrS p s a) b := List.foldl_append
theorem xr_lt {a b : Nat} (w : Nat) (ha : a < 2 ^ w) (hb : b < 2 ^ w) : xr a b < 2 ^ w := Nat.xor_lt_two_pow ha hb
theorem gS_lt {p s : Nat} (w : Nat) (hp : p < 2 ^ w) (hs : s < 2 ^ w) : gS p s < 2 ^ w := by
  have h : half s < 2 ^ w := by unfold half; omega
  unfold gS
  split
  · exact xr_lt w h hp
  · exact h
theorem gN_lt {p : Nat} (w : Nat) (hp : p < 2 ^ w) : ∀ (k s : Nat), s < 2 ^ w → gN p k s < 2 ^ w
  | 0, s, h => h
  | k + 1, s, h => gN_lt w hp k _ (gS_lt w hp h)
theorem onS_lt {p s : Nat} (w : Nat) (hw : 8 ≤ w) (hp : p < 2 ^ w) (hs : s < 2 ^ w) (c : UInt8) : onS p s c < 2 ^ w := by
  refine gN_lt w hp 8 _ (xr_lt w hs ?_)
  have := c.toNat_lt
  have : 2 ^ 8 ≤ 2 ^ w := Nat.pow_le_pow_right (by omega) hw
  omega
theorem thrS_lt {p : Nat} (w : Nat) (hw : 8 ≤ w) (hp : p < 2 ^ w) : ∀ (b : List UInt8) (s : Nat), s < 2 ^ w → thrS p s b < 2 ^ w
  | [], s, h => by rw [thrS_nil]; exact h
  | c :: r, s, h => by rw [thrS_cons]; exact thrS_lt w hw hp r _ (onS_lt w hw hp h c)
theorem xor32 (q : EqK) (a b : Nat) (ha : a < 4294967296) (hb : b < 4294967296) : binV .xor q (.int .u32 (a : Int)) (.int .u32 (b : Int)) = some (.int .u32 ((xr a b : Nat) : Int)) := by
  rw [bin_xor]
  show some (V.int .u32 (IntKind.u32.wrap ((BitVec.ofInt 32 (a : Int) ^^^ BitVec.ofInt 32 (b : Int)).toNat : Int))) = _
  have hx : xr a b < 4294967296 := xr_lt 32 ha hb
  have e1 : (BitVec.ofInt 32 (a : Int) ^^^ BitVec.ofInt 32 (b : Int)).toNat = xr a b := by
    rw [BitVec.ofInt_natCast, BitVec.ofInt_natCast, BitVec.toNat_xor, BitVec.toNat_ofNat, BitVec.toNat_ofNat, Nat.mod_eq_of_lt ha, Nat.mod_eq_of_lt hb]
    rfl
  rw [e1, wrap_u32 (by omega) (by omega)]
theorem and32 (q : EqK) (a : Nat) (ha : a < 4294967296) : binV .and q (.int .u32 (a : Int)) (.int .u32 1) = some (.int .u32 ((odd a : Nat) : Int)) := by
  rw [bin_and]
  show some (V.int .u32 (IntKind.u32.wrap ((BitVec.ofInt 32 (a : Int) &&& BitVec.ofInt 32 ((1 : Nat) : Int)).toNat : Int))) = _
  have e1 : (BitVec.ofInt 32 (a : Int) &&& BitVec.ofInt 32 ((1 : Nat) : Int)).toNat = odd a := by
    rw [BitVec.ofInt_natCast, BitVec.ofInt_natCast, BitVec.toNat_and, BitVec.toNat_ofNat, BitVec.toNat_ofNat, Nat.mod_eq_of_lt ha, Nat.mod_eq_of_lt (by omega), Nat.and_one_is_mod]
    rfl
  have h2 : odd a < 2 := by unfold odd; omega
  rw [e1, wrap_u32 (by omega) (by omega)]
theorem shr32 (q : EqK) (a : Nat) : binV .shr q (.int .u32 (a : Int)) (.int .u64 1) = some (.int .u32 ((half a : Nat) : Int)) := by
  rw [bin_shr (h := by omega)]
  have e1 : min (Int.toNat 1) IntKind.u32.bits = 1 := rfl
  rw [e1, Int.fdiv_eq_ediv_of_nonneg _ (by omega)]
  rfl
theorem conv32 (h : Heap) (c : UInt8) : convV h (.i .u32) (byteV c) = some (.int .u32 (c.toNat : Int)) := by
  have := u8_lt c
  rw [conv_byte, wrap_u32 (by omega) (by omega)]
theorem bits_loop (p : Nat) (hp : p < 4294967296) (h : Heap) : ∀ (m i : Nat), i + m = 8 → ∀ (s : Nat), s < 4294967296 → ∀ ks Q (e : Env),
    (∀ e, Xk T ks (.x 0) ([(0, .int .u32 (gN p m s : Nat))] ++ e) (h ++ [some [.int .u32 p]]) Q) →
    Xc T l_crc_bits_1_0 ks ([(0, .int .u32 s), (2, .ptr h.length 0), (10, .int .i64 i)] ++ e) (h ++ [some [.int .u32 p]]) Q := by
  intro m
  induction m with
  | zero =>
    intro i hi s hs ks Q e hQ
    rw [L_crc_bits_1_0]; unfold bl_crc_bits_1_0
    have e0 : i = 8 := by omega
    subst e0
    simp (disch := omega)
    exact hQ _
  | succ m ih =>
    intro i hi s hs ks Q e hQ
    rw [L_crc_bits_1_0]; unfold bl_crc_bits_1_0
    have e1 : (i : Int) < 8 := by omega
    have hg : gS p s < 4294967296 := gS_lt 32 hp hs
    have hh : half s < 4294967296 := by unfold half; omega
    have := ih (i + 1) (by omega) (gS p s) hg ks Q [] hQ
    simp (disch := omega) [e1, and32]
    refine Xb_dec (fun c1 => ?_) (fun c1 => ?_)
    · have e2 : gS p s = xr (half s) p := by unfold gS; rw [if_pos (by omega)]
      rw [e2] at this
      simp (disch := omega) [shr32, xor32]
      simpa using this
    · have e2 : gS p s = half s := by unfold gS; rw [if_neg (by omega)]
      rw [e2] at this
      simp (disch := omega) [shr32]
      simpa using this
theorem bits1_run (p s : Nat) (c : UInt8) (h : Heap) (hp : p < 4294967296) (hs : s < 4294967296) : Run T f_crc_bits_1 [.int .u32 s, byteV c, .ptr h.length 0] (h ++ [some [.int .u32 p]]) (.int .u32 (onS p s c : Nat)) (h ++ [some [.int .u32 p]]) := by
  refine Run.start t_crc_bits_1 ?_
  unfold k_crc_bits_1
  have hc := c.toNat_lt
  simp (disch := omega) [conv32, xor32]
  have hx : xr s c.toNat < 4294967296 := xr_lt 32 hs (by omega)
  have L := bits_loop p hp h 8 0 rfl (xr s c.toNat) hx
  have e8 : gN p 8 (xr s c.toNat) = onS p s c := rfl
  rw [e8] at L
  generalize onS p s c = z at *
  exact L _ _ [] (fun e => by simp (disch := omega))
theorem bits_run (p : Nat) (h : Heap) : Run T f_crc_bits [.int .u32 p] h (.fn f_crc_bits_1 [.ptr h.length 0]) (h ++ [some [.int .u32 p]]) := by
  refine Run.start t_crc_bits ?_
  unfold k_crc_bits
  simp (disch := omega)
theorem thr_loop (p : Nat) (hp : p < 4294967296) (b : List UInt8) (hb : b.length < 4611686018427387904) (h : Heap) : ∀ (m i : Nat), i + m = b.length → ∀ (s : Nat), s < 4294967296 → ∀ ks Q (e : Env),
    (∀ e, Xk T ks (.x 0) ([(0, .int .u32 (thrS p s (b.drop i) : Nat))] ++ e) (h ++ [some [.int .u32 p]]) Q) →
    Xc T l_crc_through_0 ks ([(0, .int .u32 s), (7, .fn f_crc_bits_1 [.ptr h.length 0]), (12, .ps 1 (bys b)), (13, .int .i64 b.length), (14, .int .i64 i)] ++ e) (h ++ [some [.int .u32 p]]) Q := by
  intro m
  induction m with
  | zero =>
    intro i hi s hs ks Q e hQ
    rw [L_crc_through_0]; unfold bl_crc_through_0
    have e0 : i = b.length := by omega
    subst e0
    rw [List.drop_length, thrS_nil] at hQ
    simp (disch := omega)
    exact hQ _
  | succ m ih =>
    intro i hi s hs ks Q e hQ
    rw [L_crc_through_0]; unfold bl_crc_through_0
    have e1 : i < b.length := by omega
    have e3 : (i : Int) < b.length := by omega
    have g := List.getElem?_eq_getElem e1
    have da : b.drop i = b[i] :: b.drop (i + 1) := List.drop_eq_getElem_cons e1
    rw [da] at hQ
    rw [thrS_cons] at hQ
    have hg : onS p s b[i] < 4294967296 := onS_lt 32 (by omega) hp hs _
    have := ih (i + 1) (by omega) (onS p s b[i]) hg ks Q [] hQ
    have r := bits1_run p s b[i] h hp hs
    have hf : T.free f_crc_bits_1 = true := rfl
    simp (disch := first | omega | assumption) [e3, bys_len, bys_get, g]
    rw [Xf_run r]
    simp (disch := omega)
    simpa using this
theorem through_run (p s : Nat) (b : List UInt8) (h : Heap) (hp : p < 4294967296) (hs : s < 4294967296) (hb : b.length < 4611686018427387904) : ∃ h', Run T f_crc_through [.int .u32 s, .int .u32 p, .ps 1 (bys b)] h (.int .u32 (thrS p s b : Nat)) h' := by
  refine Run.startE t_crc_through ?_
  unfold k_crc_through
  have r := bits_run p h
  simp (disch := omega)
  rw [Xf_run r]
  simp (disch := omega) [bys_len]
  refine thr_loop p hp b hb h b.length 0 (by omega) s hs _ _ [] (fun e => ?_)
  simp (disch := omega)
end Ev
