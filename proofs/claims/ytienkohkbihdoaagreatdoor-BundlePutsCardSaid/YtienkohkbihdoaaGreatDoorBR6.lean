/- The reference's bytes of a value. The reference's sums: by bits, the same numbers. Each theorem states its own conditions. -/
import Derived.Test.YtienkohkbihdoaaGreatDoorBCode
import Derived.Test.YtienkohkbihdoaaGreatDoorBBlk
set_option linter.all false
namespace Ev
open Go
set_option maxRecDepth 10000
attribute [-simp] getElem?_pos getElem?_neg List.drop_one
section
variable {ks : List Kt} {ops : List AOpr} {K : Kp} {e : Env} {h : Heap} {Q : Ex → Env → Heap → Prop} {d : Nat}
theorem R5Put_i (m : Int) (n : Nat) (h0 : 0 ≤ m) (hm : m ≤ 7) (hn : n < 18446744073709551616) : Xp T f_ref05_Put (some ([.int .i64 m, .int .u64 n], false)) h (some d) ops K ks e Q = Xo T ops K ks ((d, .ps 1 (bys (hdB m.toNat n))) :: e) h Q := by
  obtain ⟨m, rfl⟩ := Int.eq_ofNat_of_zero_le h0
  exact Xp_run (R5Put_run m n [] (by omega) hn) (by simp) (by simp [bys_hfs]) (by simp)
end
theorem R5Put_7 (n : Int) (h0 : 0 ≤ n) (hn : n < 18446744073709551616) {ks : List Kt} {ops : List AOpr} {K : Kp} {e : Env} {h : Heap} {Q : Ex → Env → Heap → Prop} {d : Nat} : Xp T f_ref05_Put (some ([.int .i64 7, .int .u64 n], false)) h (some d) ops K ks e Q = Xo T ops K ks ((d, .ps 1 (bys (hdB 7 n.toNat))) :: e) h Q := by
  obtain ⟨n, rfl⟩ := Int.eq_ofNat_of_zero_le h0
  exact R5Put_i 7 n (by omega) (by omega) (by omega)
theorem R6_loop (n : Int) (s : List UInt8) (l : List T6) (hw : T6.ws l ≤ 4194304) (pre : List UInt8) (hp : pre.length ≤ 9) (hl : ∀ x ∈ l, ∃ h', Run T f_ref06_Put [x.v] [] (.ps 1 (bys (enc x))) h') :
    ∀ (m i : Nat), i + m = l.length → ∀ ks Q (e : Env) (h0 : Heap),
    (∀ e, Xk T ks (.x 1) ([(1, .ptr h0.length 0), (3, .ps 1 (bys (pre ++ encs l)))] ++ e) (h0 ++ [some [.int .i64 4, .int .u64 n, .str s, .ps 4 (T6.vs l)]]) Q) →
    Xc T l_ref06_Put_0 ks ([(1, .ptr h0.length 0), (3, .ps 1 (bys (pre ++ encs (l.take i)))), (4, .int .i64 i)] ++ e) (h0 ++ [some [.int .i64 4, .int .u64 n, .str s, .ps 4 (T6.vs l)]]) Q := by
  intro m
  induction m with
  | zero =>
    intro i hi ks Q e h0 hQ
    rw [L_ref06_Put_0]; unfold bl_ref06_Put_0
    have b5 := T6.ws_len l
    have e0 : i = l.length := by omega
    subst e0
    rw [List.take_length]
    simp (disch := omega) [T6.vs_len]
    exact hQ _
  | succ m ih =>
    intro i hi ks Q e h0 hQ
    rw [L_ref06_Put_0]; unfold bl_ref06_Put_0
    have e1 : i < l.length := by omega
    have e3 : (i : Int) < l.length := by omega
    have g := List.getElem?_eq_getElem e1
    obtain ⟨h', r⟩ := hl l[i] (List.getElem_mem e1)
    have b5 := T6.ws_len l
    have ht := take_get l i e1
    have bl := encs_len (l.take i)
    have be := enc_len l[i]
    have bm := T6.ws_mem (List.getElem_mem e1)
    have bt : T6.ws (l.take i) ≤ T6.ws l := by
      have h1 := ws_app (l.take i) (l.drop i)
      rw [List.take_append_drop] at h1
      omega
    simp (disch := omega) [T6.vs_len, T6.vs_get, e3, g, T6.cells_len, T6.agg_v]
    rw [Xp_run r (by simp [T6.v_hf]) (by simp [bys_hfs]) (by simp)]
    simp (disch := omega) [bys_len]
    have := ih (i + 1) (by omega) ks Q [] h0 hQ
    rw [ht, encs_app, ← List.append_assoc, bys_app] at this
    simpa [encs] using this
theorem R6Put_run : ∀ (N : Nat) (t : T6), t.w ≤ N → t.w ≤ 4194304 → t.ok → rgt t = true → ∃ h', Run T f_ref06_Put [t.v] [] (.ps 1 (bys (enc t))) h' := by
  intro N
  induction N with
  | zero => intro t ht; have := T6.w_pos t; omega
  | succ N ih =>
    intro t ht hb hok hr
    obtain ⟨k, n, s, l⟩ := t
    rw [T6.w] at ht hb
    obtain ⟨hk, hn, hs, hl⟩ := hok
    obtain ⟨n, rfl⟩ := Int.eq_ofNat_of_zero_le hn.1
    simp only [rgt, Bool.and_eq_true, decide_eq_true_eq, Bool.or_eq_true] at hr
    obtain ⟨⟨⟨k0, k7⟩, ht3⟩, ht4⟩ := hr
    have b5 := T6.ws_len l
    have hh := hdB_len
    refine Run.startE t_ref06_Put ?_
    unfold k_ref06_Put enc
    by_cases c0 : k = 0
    · subst c0; simp (disch := omega) [T6.v, R5Put_i]
    by_cases c1 : k = 1
    · subst c1; simp (disch := omega) [T6.v, R5Put_i]
    by_cases c2 : k = 2
    · subst c2
      have := hh 2 s.length
      simp (disch := omega) [T6.v, R5Put_i, sb_bys, bys_len, bys_app]
    by_cases c3 : k = 3
    · subst c3
      have := hh 3 s.length
      simp (disch := omega) [T6.v, R5Put_i, sb_bys, bys_len, bys_app]
    by_cases c4 : k = 4
    · subst c4
      have hrl : rgts l = true := by rcases ht4 with h | h; exact absurd rfl h; exact h
      have h4 := hh 4 l.length
      simp (disch := omega) [T6.v, T6.vs_len, R5Put_i]
      have := R6_loop n s l (by omega) (hdB 4 l.length) h4 (fun x hx => ih x (by have := T6.ws_mem hx; omega) (by have := T6.ws_mem hx; omega) (T6.oks_mem hl hx) (rgts_mem hrl hx)) l.length 0 (by omega)
      simp [encs] at this
      refine this _ _ [] [] (fun e => ?_)
      simp (disch := omega) [bys_app]
    have c567 : k = 5 ∨ k = 6 ∨ k = 7 := by omega
    rcases c567 with rfl | rfl | rfl
    · simp (disch := omega) [T6.v, R5Put_7]
    · simp (disch := omega) [T6.v, R5Put_7]
    · simp (disch := omega) [T6.v, R5Put_7]
/-- A byte's bits, one by one. -/
def rS (p : Nat) : Nat → Nat → Nat → Nat
  | 0, s, _ => s
  | k + 1, s, c => rS p k (if (s + c) % 2 = 1 then xr (s / 2) p else s / 2) (c / 2)
theorem xr_odd (a b : Nat) : odd (xr a b) = (a + b) % 2 := by
  unfold odd xr
  have h1 : (a ^^^ b).testBit 0 = (a.testBit 0 ^^ b.testBit 0) := Nat.testBit_xor ..
  simp only [Nat.testBit_zero] at h1
  have ha : a % 2 = 0 ∨ a % 2 = 1 := by omega
  have hb : b % 2 = 0 ∨ b % 2 = 1 := by omega
  have hx : (a ^^^ b) % 2 = 0 ∨ (a ^^^ b) % 2 = 1 := by omega
  rcases ha with ha | ha <;> rcases hb with hb | hb <;> rcases hx with hx | hx <;> simp [ha, hb, hx] at h1 <;> omega
theorem xr_half (a b : Nat) : half (xr a b) = xr (half a) (half b) := by
  unfold half xr
  apply Nat.eq_of_testBit_eq
  intro i
  rw [Nat.testBit_xor, Nat.testBit_div_two, Nat.testBit_div_two, Nat.testBit_div_two, Nat.testBit_xor]
theorem xr_swap (a b c : Nat) : xr (xr a b) c = xr (xr a c) b := by
  unfold xr
  rw [Nat.xor_assoc, Nat.xor_comm b c, ← Nat.xor_assoc]
theorem xr_zero (a : Nat) : xr a 0 = a := Nat.xor_zero a
theorem rS_eq (p : Nat) : ∀ (k s c : Nat), c < 2 ^ k → rS p k s c = gN p k (xr s c)
  | 0, s, c, h => by
    have : c = 0 := by simp at h; exact h
    subst this
    rw [rS, gN, xr_zero]
  | k + 1, s, c, h => by
    have hc : c / 2 < 2 ^ k := by rw [Nat.pow_succ] at h; omega
    rw [rS, gN, rS_eq p k _ _ hc]
    congr 1
    unfold gS
    rw [xr_odd, xr_half]
    split
    · rw [xr_swap]; rfl
    · rfl
attribute [-simp] bin_xor
theorem xor64 (q : EqK) (a b : Nat) (ha : a < 18446744073709551616) (hb : b < 18446744073709551616) : binV .xor q (.int .u64 (a : Int)) (.int .u64 (b : Int)) = some (.int .u64 ((xr a b : Nat) : Int)) := by
  rw [bin_xor]
  show some (V.int .u64 (IntKind.u64.wrap ((BitVec.ofInt 64 (a : Int) ^^^ BitVec.ofInt 64 (b : Int)).toNat : Int))) = _
  have hx : xr a b < 18446744073709551616 := xr_lt 64 ha hb
  have e1 : (BitVec.ofInt 64 (a : Int) ^^^ BitVec.ofInt 64 (b : Int)).toNat = xr a b := by
    rw [BitVec.ofInt_natCast, BitVec.ofInt_natCast, BitVec.toNat_xor, BitVec.toNat_ofNat, BitVec.toNat_ofNat, Nat.mod_eq_of_lt ha, Nat.mod_eq_of_lt hb]
    rfl
  rw [e1, wrap_u64 (by omega) (by omega)]
theorem S_loop1 (B : V) (p all i : Nat) (hp : p < 4294967296) (h : Heap) : ∀ (m k : Nat), k + m = 8 → ∀ (s c : Nat), s < 4294967296 → c < 256 → ∀ ks Q (e : Env),
    (∀ e, Xk T ks (.x 4) ([(0, B), (2, .int .u64 p), (7, .int .u64 all), (9, .int .u64 (rS p m s c : Nat)), (10, .int .i64 i)] ++ e) h Q) →
    Xc T l_ref03_Sum_1 ks ([(0, B), (2, .int .u64 p), (7, .int .u64 all), (9, .int .u64 s), (10, .int .i64 i), (11, .int .u64 c), (12, .int .i64 k)] ++ e) h Q := by
  intro m
  induction m with
  | zero =>
    intro k hk s c hs hc ks Q e hQ
    rw [L_ref03_Sum_1]; unfold bl_ref03_Sum_1
    have e0 : k = 8 := by omega
    subst e0
    simp (disch := omega)
    exact hQ _
  | succ m ih =>
    intro k hk s c hs hc ks Q e hQ
    rw [L_ref03_Sum_1]; unfold bl_ref03_Sum_1
    have e1 : (k : Int) < 8 := by omega
    have er : ((s : Int) + c).tmod 2 = (((s + c) % 2 : Nat) : Int) := by rw [Int.tmod_eq_emod_of_nonneg (by omega)]; omega
    have es : (s : Int).tdiv 2 = ((s / 2 : Nat) : Int) := by rw [Int.tdiv_eq_ediv_of_nonneg (by omega)]; omega
    have ec : (c : Int).tdiv 2 = ((c / 2 : Nat) : Int) := by rw [Int.tdiv_eq_ediv_of_nonneg (by omega)]; omega
    have hx : xr (s / 2) p < 4294967296 := xr_lt 32 (by omega) hp
    have i1 := ih (k + 1) (by omega) (xr (s / 2) p) (c / 2) hx (by omega) ks Q []
    have i2 := ih (k + 1) (by omega) (s / 2) (c / 2) (by omega) (by omega) ks Q []
    rw [rS] at hQ
    have hs2 : s / 2 < 18446744073709551616 := by omega
    have hc2 : c / 2 < 256 := by omega
    generalize s / 2 = s2 at *
    generalize c / 2 = c2 at *
    generalize hb : (s + c) % 2 = b at *
    simp (disch := omega) [e1, er, es, ec]
    refine Xb_dec (fun c1 => ?_) (fun c1 => ?_)
    · rw [if_pos (by omega)] at hQ
      have := i1 hQ
      simp (disch := omega) [xor64]
      simpa using this
    · rw [if_neg (by omega)] at hQ
      have := i2 hQ
      simp (disch := omega)
      simpa using this
theorem S_loop0 (B : V) (n p : Nat) (hn : n ≤ 32) (h : Heap) : ∀ (m i : Nat), i + m = n → ∀ ks Q (e : Env),
    (∀ e, Xk T ks (.x 0) ([(0, B), (1, .int .i64 n), (2, .int .u64 p), (7, .int .u64 (2 ^ n : Nat))] ++ e) h Q) →
    Xc T l_ref03_Sum_0 ks ([(0, B), (1, .int .i64 n), (2, .int .u64 p), (7, .int .u64 ((2 ^ i : Nat) : Int)), (8, .int .i64 i)] ++ e) h Q := by
  intro m
  induction m with
  | zero =>
    intro i hi ks Q e hQ
    rw [L_ref03_Sum_0]; unfold bl_ref03_Sum_0
    have e0 : i = n := by omega
    subst e0
    generalize 2 ^ i = q at *
    simp (disch := omega)
    exact hQ _
  | succ m ih =>
    intro i hi ks Q e hQ
    rw [L_ref03_Sum_0]; unfold bl_ref03_Sum_0
    have e1 : (i : Int) < n := by omega
    have hq : 2 ^ i ≤ 2 ^ 32 := Nat.pow_le_pow_right (by omega) (by omega)
    have e2 : 2 ^ (i + 1) = 2 * 2 ^ i := by rw [Nat.pow_succ]; omega
    have := ih (i + 1) (by omega) ks Q [] hQ
    rw [e2] at this
    generalize 2 ^ i = q at *
    simp (disch := omega) [e1]
    simpa using this
theorem conv64b (h : Heap) (c : UInt8) : convV h (.i .u64) (byteV c) = some (.int .u64 (c.toNat : Int)) := by
  have := u8_lt c
  rw [conv_byte, wrap_u64 (by omega) (by omega)]
theorem rS_on (p s : Nat) (c : UInt8) : rS p 8 s c.toNat = onS p s c := rS_eq p 8 s c.toNat c.toNat_lt
theorem S_loop2 (b : List UInt8) (p all : Nat) (hp : p < 4294967296) (hb : b.length < 4611686018427387904) (h : Heap) : ∀ (m i : Nat), i + m = b.length → ∀ (s : Nat), s < 4294967296 → ∀ ks Q (e : Env),
    (∀ e, Xk T ks (.x 2) ([(0, .ps 1 (bys b)), (2, .int .u64 p), (7, .int .u64 all), (9, .int .u64 (thrS p s (b.drop i) : Nat))] ++ e) h Q) →
    Xc T l_ref03_Sum_2 ks ([(0, .ps 1 (bys b)), (2, .int .u64 p), (7, .int .u64 all), (9, .int .u64 s), (10, .int .i64 i)] ++ e) h Q := by
  intro m
  induction m with
  | zero =>
    intro i hi s hs ks Q e hQ
    rw [L_ref03_Sum_2]; unfold bl_ref03_Sum_2
    have e0 : i = b.length := by omega
    subst e0
    rw [List.drop_length, thrS_nil] at hQ
    simp (disch := omega) [bys_len]
    exact hQ _
  | succ m ih =>
    intro i hi s hs ks Q e hQ
    rw [L_ref03_Sum_2]; unfold bl_ref03_Sum_2
    have e1 : i < b.length := by omega
    have e3 : (i : Int) < b.length := by omega
    have g := List.getElem?_eq_getElem e1
    have da : b.drop i = b[i] :: b.drop (i + 1) := List.drop_eq_getElem_cons e1
    rw [da, thrS_cons] at hQ
    have hg : onS p s b[i] < 4294967296 := onS_lt 32 (by omega) hp hs _
    have := ih (i + 1) (by omega) (onS p s b[i]) hg ks Q [] hQ
    have hc := b[i].toNat_lt
    simp (disch := omega) [e3, bys_len, bys_get, g, conv64b]
    refine S_loop1 (.ps 1 (bys b)) p all i hp h 8 0 rfl s b[i].toNat hs (by omega) _ _ [] (fun e => ?_)
    rw [rS_on]
    generalize onS p s b[i] = z at *
    simp (disch := omega)
    simpa using this
theorem Sum_run (b : List UInt8) (n p : Nat) (hn : 8 ≤ n) (hn2 : n ≤ 32) (hp : p < 2 ^ n) (hb : b.length < 4611686018427387904) (h : Heap) : Run T f_ref03_Sum [.ps 1 (bys b), .int .i64 n, .int .u64 p] h (.int .u64 (xr (thrS p (2 ^ n - 1) b) (2 ^ n - 1) : Nat)) h := by
  refine Run.start t_ref03_Sum ?_
  unfold k_ref03_Sum
  have hq : 2 ^ n ≤ 2 ^ 32 := Nat.pow_le_pow_right (by omega) hn2
  have hq1 : 1 ≤ 2 ^ n := Nat.one_le_two_pow
  have ht : thrS p (2 ^ n - 1) b < 2 ^ n := thrS_lt n hn hp b _ (by omega)
  simp (disch := omega)
  have L0 := S_loop0 (.ps 1 (bys b)) n p hn2 h n 0 (by omega)
  simp at L0
  refine L0 _ _ [] (fun e => ?_)
  have ec : (((2 ^ n - 1 : Nat) : Nat) : Int) = (2 : Int) ^ n - 1 := by
    rw [Int.natCast_sub hq1]; push_cast; rfl
  have L2 := S_loop2 b p (2 ^ n - 1) (by omega) hb h b.length 0 (by omega) (2 ^ n - 1) (by omega)
  have hm : (((2 ^ n : Nat) : Nat) : Int) = ((2 ^ n - 1 : Nat) : Int) + 1 := by omega
  generalize 2 ^ n - 1 = q at *
  generalize 2 ^ n = q2 at *
  simp (disch := omega)
  simp only [← ec]
  simp at L2
  refine L2 _ _ [] (fun e => ?_)
  generalize thrS p q b = z at *
  simp (disch := omega) [xor64]
theorem xr_comm (a b : Nat) : xr a b = xr b a := Nat.xor_comm a b
section
variable {ks : List Kt} {ops : List AOpr} {K : Kp} {e : Env} {h : Heap} {Q : Ex → Env → Heap → Prop} {d : Nat} {lent : Bool}
theorem Sum_s (b : List UInt8) (hb : b.length < 4611686018427387904) : Xp T f_ref03_Sum (some ([.ps 1 (bys b), .int .i64 16, .int .u64 33800], lent)) h (some d) ops K ks e Q = Xo T ops K ks ((d, .int .u64 (crcN 1 b : Nat)) :: e) h Q := by
  have r := Sum_run b 16 33800 (by omega) (by omega) (by omega) hb []
  rw [xr_comm, show (2 ^ 16 - 1 : Nat) = 65535 from rfl] at r
  have e1 : crcN 1 b = xr 65535 (thrS 33800 65535 b) := by unfold crcN; rw [if_pos rfl]
  rw [e1]
  exact Xp_run r (by simp [bys_hfs]) rfl (by simp [scalar])
theorem Sum_l (b : List UInt8) (hb : b.length < 4611686018427387904) : Xp T f_ref03_Sum (some ([.ps 1 (bys b), .int .i64 32, .int .u64 2197175160], lent)) h (some d) ops K ks e Q = Xo T ops K ks ((d, .int .u64 (crcN 2 b : Nat)) :: e) h Q := by
  have r := Sum_run b 32 2197175160 (by omega) (by omega) (by omega) hb []
  rw [xr_comm, show (2 ^ 32 - 1 : Nat) = 4294967295 from rfl] at r
  have e1 : crcN 2 b = xr 4294967295 (thrS 2197175160 4294967295 b) := by unfold crcN; rw [if_neg (by omega), if_pos rfl]
  rw [e1]
  exact Xp_run r (by simp [bys_hfs]) rfl (by simp [scalar])
end
theorem R3Of_run (kind : Nat) (b : List UInt8) (h : Heap) (hb : b.length < 4611686018427387904) : Run T f_ref03_Of [.int .i64 kind, .ps 1 (bys b)] h (.int .u64 (crcN kind b : Nat)) h := by
  refine Run.start t_ref03_Of ?_
  unfold k_ref03_Of
  simp (disch := omega)
  refine Xb_dec (fun c1 => ?_) (fun c1 => ?_)
  · have e1 : kind = 1 := by omega
    subst e1
    simp (disch := omega) [Sum_s]
  · have e1 : ¬ kind = 1 := by omega
    simp (disch := omega)
    refine Xb_dec (fun c2 => ?_) (fun c2 => ?_)
    · have e2 : kind = 2 := by omega
      subst e2
      simp (disch := omega) [Sum_l]
    · have e2 : ¬ kind = 2 := by omega
      simp (disch := omega) [crcN, e1, e2]
end Ev
