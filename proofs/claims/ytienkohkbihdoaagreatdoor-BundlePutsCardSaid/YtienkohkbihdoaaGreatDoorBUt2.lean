/- Which bytes are a text: rune by rune. Each theorem states its own conditions. -/
import Derived.Test.YtienkohkbihdoaaGreatDoorBCode
import Derived.Test.YtienkohkbihdoaaGreatDoorBUt
set_option linter.all false
namespace Ev
open Go
set_option maxRecDepth 10000
attribute [-simp] getElem?_pos getElem?_neg bin_or bin_and bin_shl bin_shr List.drop_one load_rp
def ct (b : Nat) : Prop := 128 ≤ b ∧ b < 192
instance (b : Nat) : Decidable (ct b) := by unfold ct; infer_instance
def byt (s : List UInt8) (i : Nat) : Nat := (s.getD i 0).toNat
theorem byt_lt (s : List UInt8) (i : Nat) : byt s i < 256 := UInt8.toNat_lt _
def r2 (a b : Nat) : Nat := 64 * (a - 192) + (b - 128)
def r3 (a b c : Nat) : Nat := 4096 * (a - 224) + 64 * (b - 128) + (c - 128)
def r4 (a b c d : Nat) : Nat := 262144 * (a - 240) + 4096 * (b - 128) + 64 * (c - 128) + (d - 128)
/-- How many bytes the rune has that a text begins with; 0: it begins with none. -/
def rsz (s : List UInt8) : Nat :=
  if s = [] then 0 else
  if byt s 0 < 128 then 1 else
  if 192 ≤ byt s 0 ∧ byt s 0 < 224 then (if 2 ≤ s.length ∧ ct (byt s 1) ∧ 128 ≤ r2 (byt s 0) (byt s 1) then 2 else 0) else
  if 224 ≤ byt s 0 ∧ byt s 0 < 240 then (if 3 ≤ s.length ∧ ct (byt s 1) ∧ ct (byt s 2) ∧ 2048 ≤ r3 (byt s 0) (byt s 1) (byt s 2) ∧ (r3 (byt s 0) (byt s 1) (byt s 2) < 55296 ∨ 57344 ≤ r3 (byt s 0) (byt s 1) (byt s 2)) then 3 else 0) else
  if 240 ≤ byt s 0 ∧ byt s 0 < 248 then (if 4 ≤ s.length ∧ ct (byt s 1) ∧ ct (byt s 2) ∧ ct (byt s 3) ∧ 65536 ≤ r4 (byt s 0) (byt s 1) (byt s 2) (byt s 3) ∧ r4 (byt s 0) (byt s 1) (byt s 2) (byt s 3) ≤ 1114111 then 4 else 0) else 0
/-- Is it a text? -/
def valid (s : List UInt8) : Bool := if s = [] then true else if rsz s = 0 then false else valid (s.drop (rsz s))
termination_by s.length
decreasing_by
  rename_i h1 h2
  have : s.length ≠ 0 := by simpa using h1
  simp
  omega
theorem valid_nil : valid [] = true := by rw [valid]; simp
theorem valid_bad (s : List UInt8) (h : s ≠ []) (k : rsz s = 0) : valid s = false := by rw [valid, if_neg h, if_pos k]
theorem valid_step (s : List UInt8) (k : rsz s ≠ 0) : valid s = valid (s.drop (rsz s)) := by
  have h : s ≠ [] := by intro h; subst h; exact k rfl
  rw [valid, if_neg h, if_neg k]
theorem valid_asc : ∀ (k : Nat) (s : List UInt8), k ≤ s.length → Asc k s → valid (s.drop k) = valid s
  | 0, s, _, _ => by simp
  | k + 1, s, hk, ha => by
    have h1 : s ≠ [] := by intro h; subst h; simp at hk
    have h2 : rsz s = 1 := by
      unfold rsz
      rw [if_neg h1, if_pos (show byt s 0 < 128 from ha 0 (by omega))]
    rw [valid_step s (by omega), h2, ← valid_asc k (s.drop 1) (by simp; omega) (fun i hi => by rw [getD_drop]; exact ha _ (by omega)), List.drop_drop, Nat.add_comm]
theorem Asc.add {n m : Nat} {s : List UInt8} (h : Asc n s) (k : Asc m (s.drop n)) : Asc (n + m) s := fun i hi => by
  rcases Nat.lt_or_ge i n with c | c
  · exact h i c
  · have := k (i - n) (by omega)
    rw [getD_drop] at this
    rwa [show n + (i - n) = i by omega] at this
theorem VS0 (h : Heap) : ∀ (n : Nat) (s : List UInt8), s.length ≤ n → ∀ ks Q,
    (∀ k e, k ≤ s.length → Asc k s → Xk T ks (.x 2) ((0, .str (s.drop k)) :: e) h Q) → Xc T l_unicode_utf8_ValidString_0 ks [(0, .str s)] h Q := by
  intro n
  induction n with
  | zero =>
    intro s hs ks Q hQ
    rw [L_unicode_utf8_ValidString_0]; unfold bl_unicode_utf8_ValidString_0
    have e1 : s.length = 0 := by omega
    have := hQ 0 [(62, .bool false)] (by omega) (fun i hi => by omega)
    simp (disch := omega) [e1]
    simpa using this
  | succ n ih =>
    intro s hs ks Q hQ
    rw [L_unicode_utf8_ValidString_0]; unfold bl_unicode_utf8_ValidString_0
    simp (disch := omega)
    refine Xg_dec (fun c1 => ?_) (fun c1 => ?_)
    · have e8 : 8 ≤ (s.drop 8).length := by simp; omega
      have e16 : 8 ≤ (s.drop 16).length := by simp; omega
      have e24 : 8 ≤ (s.drop 24).length := by simp; omega
      simp (disch := first | omega | assumption) [c1, word_p, orN_def, and64m]
      refine Xb_dec (fun c2 => ?_) (fun c2 => ?_)
      · have c3 := asc32 s c2
        simp (disch := omega)
        refine ih _ (by simp; omega) ks Q fun k e hk ha => ?_
        rw [List.drop_drop]
        exact hQ _ _ (by simp at hk; omega) (c3.add ha)
      · simp (disch := omega)
        simpa using hQ 0 _ (by omega) (fun i hi => by omega)
    · simp (disch := omega) [c1]
      simpa using hQ 0 _ (by omega) (fun i hi => by omega)
/-- The two numbers that the second byte lies between, by the first one. -/
def tabF (a : Nat) : Nat := Go.Pinned.utf8FirstZ.getD a 0
theorem tab_first (a : Nat) (h : a < 256) : (u8s Go.Pinned.utf8FirstZ)[a]? = some (.int .u8 (tabF a : Nat)) := by
  have hl : Go.Pinned.utf8FirstZ.length = 256 := by decide +kernel
  unfold u8s tabF
  rw [List.getElem?_map, List.getD_eq_getElem?_getD, List.getElem?_eq_getElem (by omega)]
  rfl
def lo3 (x : Nat) : Nat := x % 8
def hi4 (x : Nat) : Nat := x / 16
theorem tabF_lt (a : Nat) : tabF a < 256 := by
  have h : ∀ x ∈ Go.Pinned.utf8FirstZ, x < 256 := by decide +kernel
  unfold tabF
  rw [List.getD_eq_getElem?_getD]
  cases hx : Go.Pinned.utf8FirstZ[a]? with
  | none => simp
  | some x => exact h x (List.mem_of_getElem? hx)
theorem gl0 : GL.lookup 0 = some (u8s Go.Pinned.utf8FirstZ) := rfl
theorem gl1 : GL.lookup 1 = some (u8s acceptZ) := rfl
theorem ld_first (n : Nat) (h : Heap) (hn : n < 256) : loadV h 0 (.rp ((u8s Go.Pinned.utf8FirstZ).drop n)) = some (.int .u8 (tabF n : Nat)) := by
  rw [load_rp]
  unfold partV
  simp only [List.getElem?_drop, Nat.add_zero, if_true, tab_first n hn]
def accL (i : Nat) : Nat := acceptZ.getD (i * 2) 0
def accH (i : Nat) : Nat := acceptZ.getD (i * 2 + 1) 0
theorem ld_acc (i : Nat) (h : Heap) (hi : i < 16) : loadV h 2 (.rp ((u8s acceptZ).drop (i * 2))) = some (.agg [.int .u8 (accL i : Nat), .int .u8 (accH i : Nat)]) := by
  rw [load_rp]
  match i, hi with
  | 0, _ => rfl
  | 1, _ => rfl
  | 2, _ => rfl
  | 3, _ => rfl
  | 4, _ => rfl
  | 5, _ => rfl
  | 6, _ => rfl
  | 7, _ => rfl
  | 8, _ => rfl
  | 9, _ => rfl
  | 10, _ => rfl
  | 11, _ => rfl
  | 12, _ => rfl
  | 13, _ => rfl
  | 14, _ => rfl
  | 15, _ => rfl
  | n + 16, hn => exact absurd hn (by omega)
theorem tabP (a : Nat) (h : 128 ≤ a) (h2 : a < 256) : (lo3 (tabF a) = 2 → 194 ≤ a ∧ a ≤ 223 ∧ accL (hi4 (tabF a)) = 128 ∧ accH (hi4 (tabF a)) = 191) ∧
    (lo3 (tabF a) = 3 → 224 ≤ a ∧ a ≤ 239 ∧ accL (hi4 (tabF a)) = (if a = 224 then 160 else 128) ∧ accH (hi4 (tabF a)) = (if a = 237 then 159 else 191)) ∧
    (lo3 (tabF a) = 4 → 240 ≤ a ∧ a ≤ 244 ∧ accL (hi4 (tabF a)) = (if a = 240 then 144 else 128) ∧ accH (hi4 (tabF a)) = (if a = 244 then 143 else 191)) ∧
    (lo3 (tabF a) ≠ 2 → lo3 (tabF a) ≠ 3 → lo3 (tabF a) ≠ 4 → a < 194 ∨ 244 < a) := by
  have k : ∀ a : Fin 256, 128 ≤ a.val → (lo3 (tabF a) = 2 → 194 ≤ a.val ∧ a.val ≤ 223 ∧ accL (hi4 (tabF a)) = 128 ∧ accH (hi4 (tabF a)) = 191) ∧
    (lo3 (tabF a) = 3 → 224 ≤ a.val ∧ a.val ≤ 239 ∧ accL (hi4 (tabF a)) = (if a.val = 224 then 160 else 128) ∧ accH (hi4 (tabF a)) = (if a.val = 237 then 159 else 191)) ∧
    (lo3 (tabF a) = 4 → 240 ≤ a.val ∧ a.val ≤ 244 ∧ accL (hi4 (tabF a)) = (if a.val = 240 then 144 else 128) ∧ accH (hi4 (tabF a)) = (if a.val = 244 then 143 else 191)) ∧
    (lo3 (tabF a) ≠ 2 → lo3 (tabF a) ≠ 3 → lo3 (tabF a) ≠ 4 → a.val < 194 ∨ 244 < a.val) := by decide +kernel
  exact k ⟨a, h2⟩ h
theorem and8 (q : EqK) (x : Nat) (h : x < 256) : binV .and q (.int .u8 (x : Int)) (.int .u8 7) = some (.int .u8 ((lo3 x : Nat) : Int)) := by
  have k : ∀ x : Fin 256, binV .and .int (.int .u8 (x.val : Int)) (.int .u8 7) = some (.int .u8 ((lo3 x.val : Nat) : Int)) := by
    intro x
    rw [bin_and]
    congr 2
    revert x
    decide +kernel
  exact k ⟨x, h⟩
theorem shr4 (q : EqK) (x : Nat) (h : x < 256) : binV .shr q (.int .u8 (x : Int)) (.int .u64 4) = some (.int .u8 ((hi4 x : Nat) : Int)) := by
  rw [bin_shr (h := by omega)]
  rw [show min (Int.toNat 4) IntKind.u8.bits = 4 from rfl, Int.fdiv_eq_ediv_of_nonneg _ (by omega)]
  rfl
theorem byt_ne {s : List UInt8} {n : Nat} (h : byt s 0 = n) (k : n ≠ 0) : s ≠ [] := by
  intro e; subst e; simp [byt] at h; omega
theorem val1 (s : List UInt8) (h : 128 ≤ byt s 0) (k : byt s 0 < 194 ∨ 244 < byt s 0) : valid s = false := by
  refine valid_bad s (byt_ne rfl (by omega)) ?_
  have h1 := byt_lt s 1
  have h2 := byt_lt s 2
  have h3 := byt_lt s 3
  unfold rsz ct r2 r3 r4
  (repeat' split) <;> omega
theorem val2 (s : List UInt8) (h : 194 ≤ byt s 0) (k : byt s 0 ≤ 223) : (2 ≤ s.length → 128 ≤ byt s 1 → byt s 1 ≤ 191 → valid s = valid (s.drop 2)) ∧ (s.length < 2 ∨ byt s 1 < 128 ∨ 191 < byt s 1 → valid s = false) := by
  constructor
  · intro a b c
    have : rsz s = 2 := by
      unfold rsz ct r2
      rw [if_neg (byt_ne rfl (by omega)), if_neg (by omega), if_pos (by omega), if_pos (by omega)]
    rw [valid_step s (by omega), this]
  · intro a
    refine valid_bad s (byt_ne rfl (by omega)) ?_
    unfold rsz ct r2
    rw [if_neg (byt_ne rfl (by omega)), if_neg (by omega), if_pos (by omega), if_neg (by omega)]
theorem val3 (s : List UInt8) (h : 224 ≤ byt s 0) (k : byt s 0 ≤ 239) (lo hi : Nat) (hl : lo = if byt s 0 = 224 then 160 else 128) (hh : hi = if byt s 0 = 237 then 159 else 191) :
    (3 ≤ s.length → lo ≤ byt s 1 → byt s 1 ≤ hi → 128 ≤ byt s 2 → byt s 2 ≤ 191 → valid s = valid (s.drop 3)) ∧ (s.length < 3 ∨ byt s 1 < lo ∨ hi < byt s 1 ∨ byt s 2 < 128 ∨ 191 < byt s 2 → valid s = false) := by
  constructor
  · intro a b c d e
    have : rsz s = 3 := by
      unfold rsz ct r3
      rw [if_neg (byt_ne rfl (by omega)), if_neg (by omega), if_neg (by omega), if_pos (by omega), if_pos]
      (repeat' split at hl) <;> (repeat' split at hh) <;> omega
    rw [valid_step s (by omega), this]
  · intro a
    refine valid_bad s (byt_ne rfl (by omega)) ?_
    unfold rsz ct r3
    rw [if_neg (byt_ne rfl (by omega)), if_neg (by omega), if_neg (by omega), if_pos (by omega), if_neg]
    (repeat' split at hl) <;> (repeat' split at hh) <;> omega
theorem val4 (s : List UInt8) (h : 240 ≤ byt s 0) (k : byt s 0 ≤ 244) (lo hi : Nat) (hl : lo = if byt s 0 = 240 then 144 else 128) (hh : hi = if byt s 0 = 244 then 143 else 191) :
    (4 ≤ s.length → lo ≤ byt s 1 → byt s 1 ≤ hi → 128 ≤ byt s 2 → byt s 2 ≤ 191 → 128 ≤ byt s 3 → byt s 3 ≤ 191 → valid s = valid (s.drop 4)) ∧ (s.length < 4 ∨ byt s 1 < lo ∨ hi < byt s 1 ∨ byt s 2 < 128 ∨ 191 < byt s 2 ∨ byt s 3 < 128 ∨ 191 < byt s 3 → valid s = false) := by
  constructor
  · intro a b c d e f g
    have : rsz s = 4 := by
      unfold rsz ct r4
      rw [if_neg (byt_ne rfl (by omega)), if_neg (by omega), if_neg (by omega), if_neg (by omega), if_pos (by omega), if_pos]
      (repeat' split at hl) <;> (repeat' split at hh) <;> omega
    rw [valid_step s (by omega), this]
  · intro a
    refine valid_bad s (byt_ne rfl (by omega)) ?_
    unfold rsz ct r4
    rw [if_neg (byt_ne rfl (by omega)), if_neg (by omega), if_neg (by omega), if_neg (by omega), if_pos (by omega), if_neg]
    (repeat' split at hl) <;> (repeat' split at hh) <;> omega
theorem VS1 : ∀ (n : Nat) (s : List UInt8), s.length ≤ n → ∀ ks Q (h : Heap),
    (valid s = true → ∀ e h', Xk T ks (.x 0) e h' Q) → (valid s = false → ∀ e h', Xk T ks .r ((2, .bool false) :: e) h' Q) → ∀ e0, Xc T l_unicode_utf8_ValidString_1 ks ((0, .str s) :: e0) h Q := by
  intro n
  induction n with
  | zero =>
    intro s hs ks Q h h1 h2 e0
    rw [L_unicode_utf8_ValidString_1]; unfold bl_unicode_utf8_ValidString_1
    have e1 : s = [] := List.eq_nil_of_length_eq_zero (by omega)
    subst e1
    simp (disch := omega)
    exact h1 valid_nil _ _
  | succ n ih =>
    intro s hs ks Q h h1 h2 e0
    rw [L_unicode_utf8_ValidString_1]; unfold bl_unicode_utf8_ValidString_1
    simp (disch := omega)
    refine Xb_dec (fun c0 => ?_) (fun c0 => ?_)
    · have e0 : s[0]? = some (s.getD 0 0) := by rw [List.getD_eq_getElem?_getD, List.getElem?_eq_getElem (by omega)]; rfl
      generalize hb : s.getD 0 0 = b at *
      have lt0 := u8_lt b
      simp (disch := omega) [e0, byteV_def]
      refine Xb_dec (fun c1 => ?_) (fun c1 => ?_)
      · have a1 : Asc 1 s := fun i hi => by
          have : i = 0 := by omega
          subst this
          rw [hb]; omega
        have again : ∀ k, 1 ≤ k → k ≤ s.length → Asc k s → ∀ h e, Xc T l_unicode_utf8_ValidString_1 ks ((0, .str (s.drop k)) :: e) h Q := fun k hk hk2 ha h =>
          ih _ (by simp; omega) ks Q h (by rw [valid_asc k s hk2 ha]; exact h1) (by rw [valid_asc k s hk2 ha]; exact h2)
        have l1 : ((s.length : Int) - 1) = (((s.drop 1).length : Nat) : Int) := by simp; omega
        simp (disch := omega)
        refine Xg_dec (fun c2 => ?_) (fun c2 => ?_)
        · have e1 : 8 ≤ (s.drop 1).length := by simp; omega
          simp (disch := first | omega | assumption) [c2, word_p, and64m]
          refine Xb_dec (fun c3 => ?_) (fun c3 => ?_)
          · have a9 := a1.add (asc8 _ c3)
            simp (disch := omega)
            refine Xg_dec (fun c4 => ?_) (fun c4 => ?_)
            · have e9 : 8 ≤ (s.drop 9).length := by simp; omega
              have e17 : 8 ≤ (s.drop 17).length := by simp; omega
              simp (disch := first | omega | assumption) [c4, word_p, orN_def, and64m]
              refine Xb_dec (fun c5 => ?_) (fun c5 => ?_)
              · have a25 := a9.add (asc16 (s.drop 9) (by rw [List.drop_drop]; exact c5))
                simp (disch := omega)
                refine VS0 _ _ _ (Nat.le_refl _) _ _ fun k e hk ha => ?_
                have a3 := a25.add ha
                have hk2 : k ≤ s.length - 25 := by simpa using hk
                simp (disch := omega)
                exact again (25 + k) (by omega) (by omega) a3 _ _
              · simp (disch := omega)
                exact again 9 (by omega) (by omega) a9 _ _
            · simp (disch := omega) [c4]
              exact again 9 (by omega) (by omega) a9 _ _
          · simp (disch := omega)
            exact again 1 (by omega) (by omega) a1 _ _
        · simp (disch := omega) [c2]
          exact again 1 (by omega) (by omega) a1 _ _
      · have tl := tabF_lt b.toNat
        have tp := tabP b.toNat (by omega) (by omega)
        have lh : hi4 (tabF b.toNat) < 16 := by unfold hi4; omega
        have ll : lo3 (tabF b.toNat) < 8 := by unfold lo3; omega
        simp (disch := omega) [gl0, gl1, ld_first, ld_acc, and8, shr4]
        generalize accL (hi4 (tabF b.toNat)) = lo at *
        generalize accH (hi4 (tabF b.toNat)) = hi at *
        have hb0 : byt s 0 = b.toNat := by unfold byt; rw [hb]
        have gd : ∀ i, i < s.length → s[i]? = some (s.getD i 0) := fun i hi => by rw [List.getD_eq_getElem?_getD, List.getElem?_eq_getElem hi]; rfl
        have again : ∀ k, 1 ≤ k → k ≤ s.length → valid s = valid (s.drop k) → ∀ h e, Xc T l_unicode_utf8_ValidString_1 ks ((0, .str (s.drop k)) :: e) h Q := fun k hk hk2 ha h =>
          ih _ (by simp; omega) ks Q h (by rw [← ha]; exact h1) (by rw [← ha]; exact h2)
        refine Xb_dec (fun c2 => ?_) (fun c2 => ?_)
        · obtain ⟨t1, t2, rfl, rfl⟩ := tp.1 (by omega)
          have vv := val2 s (by omega) (by omega)
          simp (disch := omega)
          refine Xg_decn (fun d0 => ?_) (fun d0 => ?_)
          · have g1 := gd 1 (by omega)
            have hb1 : byt s 1 = (s.getD 1 0).toNat := rfl
            generalize s.getD 1 0 = b1 at *
            simp (disch := omega) [d0, g1, byteV_def]
            refine Xg_decn (fun d1 => ?_) (fun d1 => ?_)
            · simp (disch := omega) [d0, g1, byteV_def, d1]
              refine Xb_dec (fun d2 => ?_) (fun d2 => ?_)
              · simp (disch := omega)
                exact h2 (vv.2 (by omega)) _ _
              · simp (disch := omega)
                exact again 2 (by omega) (by omega) (vv.1 (by omega) (by omega) (by omega)) _ _
            · simp (disch := omega) [d0, d1]
              exact h2 (vv.2 (by omega)) _ _
          · simp (disch := omega) [d0]
            exact h2 (vv.2 (by omega)) _ _
        · simp (disch := omega)
          refine Xb_dec (fun c3 => ?_) (fun c3 => ?_)
          · obtain ⟨t1, t2, t3, t4⟩ := tp.2.1 (by omega)
            have vv := val3 s (by omega) (by omega) lo hi (by rw [hb0]; exact t3) (by rw [hb0]; exact t4)
            simp (disch := omega)
            refine Xg_decn (fun d0 => ?_) (fun d0 => ?_)
            · have g1 := gd 1 (by omega)
              have hb1 : byt s 1 = (s.getD 1 0).toNat := rfl
              generalize s.getD 1 0 = b1 at *
              have g2 := gd 2 (by omega)
              have hb2 : byt s 2 = (s.getD 2 0).toNat := rfl
              generalize s.getD 2 0 = b2 at *
              simp (disch := omega) [d0, g1, g2, byteV_def]
              refine Xg_decn (fun d1 => ?_) (fun d1 => ?_)
              · simp (disch := omega) [d0, g1, g2, byteV_def, d1]
                refine Xg_decn (fun d2 => ?_) (fun d2 => ?_)
                · simp (disch := omega) [d0, g1, g2, byteV_def, d1, d2]
                  refine Xg_decn (fun d3 => ?_) (fun d3 => ?_)
                  · simp (disch := omega) [d0, g1, g2, byteV_def, d1, d2, d3]
                    refine Xb_dec (fun d4 => ?_) (fun d4 => ?_)
                    · simp (disch := omega)
                      exact h2 (vv.2 (by omega)) _ _
                    · simp (disch := omega)
                      exact again 3 (by omega) (by omega) (vv.1 (by omega) (by omega) (by omega) (by omega) (by omega)) _ _
                  · simp (disch := omega) [d0, d1, d2, d3]
                    exact h2 (vv.2 (by omega)) _ _
                · simp (disch := omega) [d0, d1, d2]
                  exact h2 (vv.2 (by omega)) _ _
              · simp (disch := omega) [d0, d1]
                exact h2 (vv.2 (by omega)) _ _
            · simp (disch := omega) [d0]
              exact h2 (vv.2 (by omega)) _ _
          · simp (disch := omega)
            refine Xb_dec (fun c4 => ?_) (fun c4 => ?_)
            · obtain ⟨t1, t2, t3, t4⟩ := tp.2.2.1 (by omega)
              have vv := val4 s (by omega) (by omega) lo hi (by rw [hb0]; exact t3) (by rw [hb0]; exact t4)
              simp (disch := omega)
              refine Xg_decn (fun d0 => ?_) (fun d0 => ?_)
              · have g1 := gd 1 (by omega)
                have hb1 : byt s 1 = (s.getD 1 0).toNat := rfl
                generalize s.getD 1 0 = b1 at *
                have g2 := gd 2 (by omega)
                have hb2 : byt s 2 = (s.getD 2 0).toNat := rfl
                generalize s.getD 2 0 = b2 at *
                have g3 := gd 3 (by omega)
                have hb3 : byt s 3 = (s.getD 3 0).toNat := rfl
                generalize s.getD 3 0 = b3 at *
                simp (disch := omega) [d0, g1, g2, g3, byteV_def]
                refine Xg_decn (fun d1 => ?_) (fun d1 => ?_)
                · simp (disch := omega) [d0, g1, g2, g3, byteV_def, d1]
                  refine Xg_decn (fun d2 => ?_) (fun d2 => ?_)
                  · simp (disch := omega) [d0, g1, g2, g3, byteV_def, d1, d2]
                    refine Xg_decn (fun d3 => ?_) (fun d3 => ?_)
                    · simp (disch := omega) [d0, g1, g2, g3, byteV_def, d1, d2, d3]
                      refine Xg_decn (fun d4 => ?_) (fun d4 => ?_)
                      · simp (disch := omega) [d0, g1, g2, g3, byteV_def, d1, d2, d3, d4]
                        refine Xg_decn (fun d5 => ?_) (fun d5 => ?_)
                        · simp (disch := omega) [d0, g1, g2, g3, byteV_def, d1, d2, d3, d4, d5]
                          refine Xb_dec (fun d6 => ?_) (fun d6 => ?_)
                          · simp (disch := omega)
                            exact h2 (vv.2 (by omega)) _ _
                          · simp (disch := omega)
                            exact again 4 (by omega) (by omega) (vv.1 (by omega) (by omega) (by omega) (by omega) (by omega) (by omega) (by omega)) _ _
                        · simp (disch := omega) [d0, d1, d2, d3, d4, d5]
                          exact h2 (vv.2 (by omega)) _ _
                      · simp (disch := omega) [d0, d1, d2, d3, d4]
                        exact h2 (vv.2 (by omega)) _ _
                    · simp (disch := omega) [d0, d1, d2, d3]
                      exact h2 (vv.2 (by omega)) _ _
                  · simp (disch := omega) [d0, d1, d2]
                    exact h2 (vv.2 (by omega)) _ _
                · simp (disch := omega) [d0, d1]
                  exact h2 (vv.2 (by omega)) _ _
              · simp (disch := omega) [d0]
                exact h2 (vv.2 (by omega)) _ _
            · have t := tp.2.2.2 (by omega) (by omega) (by omega)
              simp (disch := omega)
              exact h2 (val1 s (by omega) (by omega)) _ _
    · have e1 : s = [] := List.eq_nil_of_length_eq_zero (by omega)
      subst e1
      simp (disch := omega)
      exact h1 valid_nil _ _
theorem ValidString_run (s : List UInt8) : ∃ h', Run T f_unicode_utf8_ValidString [.str s] [] (.bool (valid s)) h' := by
  refine Run.startE t_unicode_utf8_ValidString ?_
  unfold k_unicode_utf8_ValidString
  simp (disch := omega)
  refine VS1 s.length s (Nat.le_refl _) _ _ _ (fun hv e h' => ?_) (fun hv e h' => ?_) _
  · simp (disch := omega) [hv]
  · simp (disch := omega) [hv]
section
variable {ks : List Kt} {ops : List AOpr} {K : Kp} {e : Env} {h : Heap} {Q : Ex → Env → Heap → Prop} {d : Nat} {lent : Bool}
theorem ValidString_p (s : List UInt8) : Xp T f_unicode_utf8_ValidString (some ([.str s], lent)) h (some d) ops K ks e Q = Xo T ops K ks ((d, .bool (valid s)) :: e) h Q := by
  obtain ⟨h', r⟩ := ValidString_run s
  exact Xp_run r (by simp) rfl (by simp [scalar])
end
end Ev
