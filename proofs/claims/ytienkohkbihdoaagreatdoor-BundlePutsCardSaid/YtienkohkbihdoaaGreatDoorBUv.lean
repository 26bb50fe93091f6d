/- Which bytes are a text, of slices. Each theorem states its own conditions. -/
import Derived.Test.YtienkohkbihdoaaGreatDoorBCode
import Derived.Test.YtienkohkbihdoaaGreatDoorBUt2
set_option linter.all false
namespace Ev
open Go
set_option maxRecDepth 10000
attribute [-simp] getElem?_pos getElem?_neg bin_or bin_and bin_shl bin_shr List.drop_one load_rp
theorem ld_one (h : Heap) (x : V) : loadV h 0 (.rp [x]) = some x := rfl
theorem take_bys (s : List UInt8) : (bys s).take s.length = bys s := by rw [bys_take, List.take_length]
theorem wordb_run (s : List UInt8) (h : Heap) (hs : 8 ≤ s.length) : Run T f_unicode_utf8_word_byte [.ps 1 (bys s)] h (.int .u64 (wordS s)) h := by
  refine Run.start t_unicode_utf8_word_byte ?_
  unfold k_unicode_utf8_word_byte
  have g : ∀ i, i < 8 → s[i]? = some (s.getD i 0) := fun i hi => by
    rw [List.getD_eq_getElem?_getD, List.getElem?_eq_getElem (by omega)]; rfl
  have g0 := g 0 (by omega)
  have g1 := g 1 (by omega)
  have g2 := g 2 (by omega)
  have g3 := g 3 (by omega)
  have g4 := g 4 (by omega)
  have g5 := g 5 (by omega)
  have g6 := g 6 (by omega)
  have g7 := g 7 (by omega)
  clear g
  unfold wordS
  generalize s.getD 0 0 = b0 at *
  generalize s.getD 1 0 = b1 at *
  generalize s.getD 2 0 = b2 at *
  generalize s.getD 3 0 = b3 at *
  generalize s.getD 4 0 = b4 at *
  generalize s.getD 5 0 = b5 at *
  generalize s.getD 6 0 = b6 at *
  generalize s.getD 7 0 = b7 at *
  simp (disch := omega) [bys_len, bys_get, bys_drop, ld_one, bys_get, ld_one, g0, g1, g2, g3, g4, g5, g6, g7, conv64, orN_def, shN8, shN16, shN24, shN32, shN40, shN48, shN56, -conv_byte]
section
variable {ks : List Kt} {ops : List AOpr} {K : Kp} {e : Env} {h : Heap} {Q : Ex → Env → Heap → Prop} {d : Nat} {lent : Bool}
theorem wordb_p (s : List UInt8) (hs : 8 ≤ s.length) : Xp T f_unicode_utf8_word_byte (some ([.ps 1 (bys s)], lent)) h (some d) ops K ks e Q = Xo T ops K ks ((d, .int .u64 (wordS s)) :: e) h Q :=
  Xp_run (wordb_run s [] hs) (by simp [bys_hfs]) rfl (by simp [scalar])
end
theorem VB0 (h : Heap) : ∀ (n : Nat) (s : List UInt8), s.length ≤ n → ∀ ks Q,
    (∀ k e, k ≤ s.length → Asc k s → Xk T ks (.x 2) ((0, .ps 1 (bys (s.drop k))) :: e) h Q) → Xc T l_unicode_utf8_Valid_0 ks [(0, .ps 1 (bys s))] h Q := by
  intro n
  induction n with
  | zero =>
    intro s hs ks Q hQ
    rw [L_unicode_utf8_Valid_0]; unfold bl_unicode_utf8_Valid_0
    have e1 : s.length = 0 := by omega
    have := hQ 0 [(69, .bool false)] (by omega) (fun i hi => by omega)
    simp (disch := omega) [bys_len, bys_get, bys_drop, ld_one, e1]
    simpa using this
  | succ n ih =>
    intro s hs ks Q hQ
    rw [L_unicode_utf8_Valid_0]; unfold bl_unicode_utf8_Valid_0
    simp (disch := omega) [bys_len, bys_get, bys_drop, ld_one]
    refine Xg_dec (fun c1 => ?_) (fun c1 => ?_)
    · have e8 : 8 ≤ (s.drop 8).length := by simp; omega
      have e16 : 8 ≤ (s.drop 16).length := by simp; omega
      have e24 : 8 ≤ (s.drop 24).length := by simp; omega
      simp (disch := first | omega | assumption) [bys_len, bys_get, bys_drop, ld_one, c1, wordb_p, orN_def, and64m]
      refine Xb_dec (fun c2 => ?_) (fun c2 => ?_)
      · have c3 := asc32 s c2
        simp (disch := omega) [bys_len, bys_get, bys_drop, ld_one]
        refine ih _ (by simp; omega) ks Q fun k e hk ha => ?_
        rw [List.drop_drop]
        exact hQ _ _ (by simp at hk; omega) (c3.add ha)
      · simp (disch := omega) [bys_len, bys_get, bys_drop, ld_one]
        simpa using hQ 0 _ (by omega) (fun i hi => by omega)
    · simp (disch := omega) [bys_len, bys_get, bys_drop, ld_one, c1]
      simpa using hQ 0 _ (by omega) (fun i hi => by omega)
theorem VB1 : ∀ (n : Nat) (s : List UInt8), s.length ≤ n → ∀ ks Q (h : Heap),
    (valid s = true → ∀ e h', Xk T ks (.x 0) e h' Q) → (valid s = false → ∀ e h', Xk T ks .r ((2, .bool false) :: e) h' Q) → ∀ e0, Xc T l_unicode_utf8_Valid_1 ks ((0, .ps 1 (bys s)) :: e0) h Q := by
  intro n
  induction n with
  | zero =>
    intro s hs ks Q h h1 h2 e0
    rw [L_unicode_utf8_Valid_1]; unfold bl_unicode_utf8_Valid_1
    have e1 : s = [] := List.eq_nil_of_length_eq_zero (by omega)
    subst e1
    simp (disch := omega) [bys_len, bys_get, bys_drop, ld_one]
    exact h1 valid_nil _ _
  | succ n ih =>
    intro s hs ks Q h h1 h2 e0
    rw [L_unicode_utf8_Valid_1]; unfold bl_unicode_utf8_Valid_1
    simp (disch := omega) [bys_len, bys_get, bys_drop, ld_one]
    refine Xb_dec (fun c0 => ?_) (fun c0 => ?_)
    · have e0 : s[0]? = some (s.getD 0 0) := by rw [List.getD_eq_getElem?_getD, List.getElem?_eq_getElem (by omega)]; rfl
      generalize hb : s.getD 0 0 = b at *
      have lt0 := u8_lt b
      simp (disch := omega) [bys_len, bys_get, bys_drop, ld_one, e0, byteV_def]
      refine Xb_dec (fun c1 => ?_) (fun c1 => ?_)
      · have a1 : Asc 1 s := fun i hi => by
          have : i = 0 := by omega
          subst this
          rw [hb]; omega
        have again : ∀ k, 1 ≤ k → k ≤ s.length → Asc k s → ∀ h e, Xc T l_unicode_utf8_Valid_1 ks ((0, .ps 1 (bys (s.drop k))) :: e) h Q := fun k hk hk2 ha h =>
          ih _ (by simp; omega) ks Q h (by rw [valid_asc k s hk2 ha]; exact h1) (by rw [valid_asc k s hk2 ha]; exact h2)
        have l1 : ((s.length : Int) - 1) = (((s.drop 1).length : Nat) : Int) := by simp; omega
        simp (disch := omega) [bys_len, bys_get, bys_drop, ld_one]
        refine Xg_dec (fun c2 => ?_) (fun c2 => ?_)
        · have e1 : 8 ≤ (s.drop 1).length := by simp; omega
          simp (disch := first | omega | assumption) [bys_len, bys_get, bys_drop, ld_one, c2, wordb_p, and64m]
          refine Xb_dec (fun c3 => ?_) (fun c3 => ?_)
          · have a9 := a1.add (asc8 _ c3)
            simp (disch := omega) [bys_len, bys_get, bys_drop, ld_one]
            refine Xg_dec (fun c4 => ?_) (fun c4 => ?_)
            · have e9 : 8 ≤ (s.drop 9).length := by simp; omega
              have e17 : 8 ≤ (s.drop 17).length := by simp; omega
              simp (disch := first | omega | assumption) [bys_len, bys_get, bys_drop, ld_one, c4, wordb_p, orN_def, and64m]
              refine Xb_dec (fun c5 => ?_) (fun c5 => ?_)
              · have a25 := a9.add (asc16 (s.drop 9) (by rw [List.drop_drop]; exact c5))
                simp (disch := omega) [bys_len, bys_get, bys_drop, ld_one]
                refine VB0 _ _ _ (Nat.le_refl _) _ _ fun k e hk ha => ?_
                have a3 := a25.add ha
                have hk2 : k ≤ s.length - 25 := by simpa using hk
                simp (disch := omega) [bys_len, bys_get, bys_drop, ld_one]
                exact again (25 + k) (by omega) (by omega) a3 _ _
              · simp (disch := omega) [bys_len, bys_get, bys_drop, ld_one]
                exact again 9 (by omega) (by omega) a9 _ _
            · simp (disch := omega) [bys_len, bys_get, bys_drop, ld_one, c4]
              exact again 9 (by omega) (by omega) a9 _ _
          · simp (disch := omega) [bys_len, bys_get, bys_drop, ld_one]
            exact again 1 (by omega) (by omega) a1 _ _
        · simp (disch := omega) [bys_len, bys_get, bys_drop, ld_one, c2]
          exact again 1 (by omega) (by omega) a1 _ _
      · have tl := tabF_lt b.toNat
        have tp := tabP b.toNat (by omega) (by omega)
        have lh : hi4 (tabF b.toNat) < 16 := by unfold hi4; omega
        have ll : lo3 (tabF b.toNat) < 8 := by unfold lo3; omega
        simp (disch := omega) [bys_len, bys_get, bys_drop, ld_one, gl0, gl1, ld_first, ld_acc, and8, shr4]
        generalize accL (hi4 (tabF b.toNat)) = lo at *
        generalize accH (hi4 (tabF b.toNat)) = hi at *
        have hb0 : byt s 0 = b.toNat := by unfold byt; rw [hb]
        have gd : ∀ i, i < s.length → s[i]? = some (s.getD i 0) := fun i hi => by rw [List.getD_eq_getElem?_getD, List.getElem?_eq_getElem hi]; rfl
        have again : ∀ k, 1 ≤ k → k ≤ s.length → valid s = valid (s.drop k) → ∀ h e, Xc T l_unicode_utf8_Valid_1 ks ((0, .ps 1 (bys (s.drop k))) :: e) h Q := fun k hk hk2 ha h =>
          ih _ (by simp; omega) ks Q h (by rw [← ha]; exact h1) (by rw [← ha]; exact h2)
        refine Xb_dec (fun c2 => ?_) (fun c2 => ?_)
        · obtain ⟨t1, t2, rfl, rfl⟩ := tp.1 (by omega)
          have vv := val2 s (by omega) (by omega)
          simp (disch := omega) [bys_len, bys_get, bys_drop, ld_one]
          refine Xg_decn (fun d0 => ?_) (fun d0 => ?_)
          · have g1 := gd 1 (by omega)
            have hb1 : byt s 1 = (s.getD 1 0).toNat := rfl
            generalize s.getD 1 0 = b1 at *
            simp (disch := omega) [bys_len, bys_get, bys_drop, ld_one, d0, g1, byteV_def]
            refine Xg_decn (fun d1 => ?_) (fun d1 => ?_)
            · simp (disch := omega) [bys_len, bys_get, bys_drop, ld_one, d0, g1, byteV_def, d1]
              refine Xb_dec (fun d2 => ?_) (fun d2 => ?_)
              · simp (disch := omega) [bys_len, bys_get, bys_drop, ld_one]
                exact h2 (vv.2 (by omega)) _ _
              · simp (disch := omega) [bys_len, bys_get, bys_drop, ld_one]
                exact again 2 (by omega) (by omega) (vv.1 (by omega) (by omega) (by omega)) _ _
            · simp (disch := omega) [bys_len, bys_get, bys_drop, ld_one, d0, d1]
              exact h2 (vv.2 (by omega)) _ _
          · simp (disch := omega) [bys_len, bys_get, bys_drop, ld_one, d0]
            exact h2 (vv.2 (by omega)) _ _
        · simp (disch := omega) [bys_len, bys_get, bys_drop, ld_one]
          refine Xb_dec (fun c3 => ?_) (fun c3 => ?_)
          · obtain ⟨t1, t2, t3, t4⟩ := tp.2.1 (by omega)
            have vv := val3 s (by omega) (by omega) lo hi (by rw [hb0]; exact t3) (by rw [hb0]; exact t4)
            simp (disch := omega) [bys_len, bys_get, bys_drop, ld_one]
            refine Xg_decn (fun d0 => ?_) (fun d0 => ?_)
            · have g1 := gd 1 (by omega)
              have hb1 : byt s 1 = (s.getD 1 0).toNat := rfl
              generalize s.getD 1 0 = b1 at *
              have g2 := gd 2 (by omega)
              have hb2 : byt s 2 = (s.getD 2 0).toNat := rfl
              generalize s.getD 2 0 = b2 at *
              simp (disch := omega) [bys_len, bys_get, bys_drop, ld_one, d0, g1, g2, byteV_def]
              refine Xg_decn (fun d1 => ?_) (fun d1 => ?_)
              · simp (disch := omega) [bys_len, bys_get, bys_drop, ld_one, d0, g1, g2, byteV_def, d1]
                refine Xg_decn (fun d2 => ?_) (fun d2 => ?_)
                · simp (disch := omega) [bys_len, bys_get, bys_drop, ld_one, d0, g1, g2, byteV_def, d1, d2]
                  refine Xg_decn (fun d3 => ?_) (fun d3 => ?_)
                  · simp (disch := omega) [bys_len, bys_get, bys_drop, ld_one, d0, g1, g2, byteV_def, d1, d2, d3]
                    refine Xb_dec (fun d4 => ?_) (fun d4 => ?_)
                    · simp (disch := omega) [bys_len, bys_get, bys_drop, ld_one]
                      exact h2 (vv.2 (by omega)) _ _
                    · simp (disch := omega) [bys_len, bys_get, bys_drop, ld_one]
                      exact again 3 (by omega) (by omega) (vv.1 (by omega) (by omega) (by omega) (by omega) (by omega)) _ _
                  · simp (disch := omega) [bys_len, bys_get, bys_drop, ld_one, d0, d1, d2, d3]
                    exact h2 (vv.2 (by omega)) _ _
                · simp (disch := omega) [bys_len, bys_get, bys_drop, ld_one, d0, d1, d2]
                  exact h2 (vv.2 (by omega)) _ _
              · simp (disch := omega) [bys_len, bys_get, bys_drop, ld_one, d0, d1]
                exact h2 (vv.2 (by omega)) _ _
            · simp (disch := omega) [bys_len, bys_get, bys_drop, ld_one, d0]
              exact h2 (vv.2 (by omega)) _ _
          · simp (disch := omega) [bys_len, bys_get, bys_drop, ld_one]
            refine Xb_dec (fun c4 => ?_) (fun c4 => ?_)
            · obtain ⟨t1, t2, t3, t4⟩ := tp.2.2.1 (by omega)
              have vv := val4 s (by omega) (by omega) lo hi (by rw [hb0]; exact t3) (by rw [hb0]; exact t4)
              simp (disch := omega) [bys_len, bys_get, bys_drop, ld_one]
              refine Xg_decn (fun d0 => ?_) (fun d0 => ?_)
              · have g1 := gd 1 (by omega)
                have hb1 : byt s 1 = (s.getD 1 0).toNat := rfl
                generalize s.getD 1 0 = b1 at *
                have g2 := gd 2 (by omega)
                have hb2 : byt s 2 = (s.getD 2 0).toNat := rfl
                generalize s.getD 2 0 = b2 at *
                have g3 := gd 3 (by omega)
                have hb3 : byt s 3 = (s.getD 3 0).toNat := rfl
                generalize s.getD 3 0 = b3 at *
                simp (disch := omega) [bys_len, bys_get, bys_drop, ld_one, d0, g1, g2, g3, byteV_def]
                refine Xg_decn (fun d1 => ?_) (fun d1 => ?_)
                · simp (disch := omega) [bys_len, bys_get, bys_drop, ld_one, d0, g1, g2, g3, byteV_def, d1]
                  refine Xg_decn (fun d2 => ?_) (fun d2 => ?_)
                  · simp (disch := omega) [bys_len, bys_get, bys_drop, ld_one, d0, g1, g2, g3, byteV_def, d1, d2]
                    refine Xg_decn (fun d3 => ?_) (fun d3 => ?_)
                    · simp (disch := omega) [bys_len, bys_get, bys_drop, ld_one, d0, g1, g2, g3, byteV_def, d1, d2, d3]
                      refine Xg_decn (fun d4 => ?_) (fun d4 => ?_)
                      · simp (disch := omega) [bys_len, bys_get, bys_drop, ld_one, d0, g1, g2, g3, byteV_def, d1, d2, d3, d4]
                        refine Xg_decn (fun d5 => ?_) (fun d5 => ?_)
                        · simp (disch := omega) [bys_len, bys_get, bys_drop, ld_one, d0, g1, g2, g3, byteV_def, d1, d2, d3, d4, d5]
                          refine Xb_dec (fun d6 => ?_) (fun d6 => ?_)
                          · simp (disch := omega) [bys_len, bys_get, bys_drop, ld_one]
                            exact h2 (vv.2 (by omega)) _ _
                          · simp (disch := omega) [bys_len, bys_get, bys_drop, ld_one]
                            exact again 4 (by omega) (by omega) (vv.1 (by omega) (by omega) (by omega) (by omega) (by omega) (by omega) (by omega)) _ _
                        · simp (disch := omega) [bys_len, bys_get, bys_drop, ld_one, d0, d1, d2, d3, d4, d5]
                          exact h2 (vv.2 (by omega)) _ _
                      · simp (disch := omega) [bys_len, bys_get, bys_drop, ld_one, d0, d1, d2, d3, d4]
                        exact h2 (vv.2 (by omega)) _ _
                    · simp (disch := omega) [bys_len, bys_get, bys_drop, ld_one, d0, d1, d2, d3]
                      exact h2 (vv.2 (by omega)) _ _
                  · simp (disch := omega) [bys_len, bys_get, bys_drop, ld_one, d0, d1, d2]
                    exact h2 (vv.2 (by omega)) _ _
                · simp (disch := omega) [bys_len, bys_get, bys_drop, ld_one, d0, d1]
                  exact h2 (vv.2 (by omega)) _ _
              · simp (disch := omega) [bys_len, bys_get, bys_drop, ld_one, d0]
                exact h2 (vv.2 (by omega)) _ _
            · have t := tp.2.2.2 (by omega) (by omega) (by omega)
              simp (disch := omega) [bys_len, bys_get, bys_drop, ld_one]
              exact h2 (val1 s (by omega) (by omega)) _ _
    · have e1 : s = [] := List.eq_nil_of_length_eq_zero (by omega)
      subst e1
      simp (disch := omega) [bys_len, bys_get, bys_drop, ld_one]
      exact h1 valid_nil _ _
theorem Valid_run (s : List UInt8) : ∃ h', Run T f_unicode_utf8_Valid [.ps 1 (bys s)] [] (.bool (valid s)) h' := by
  refine Run.startE t_unicode_utf8_Valid ?_
  unfold k_unicode_utf8_Valid
  simp (disch := omega) [take_bys, bys_len, bys_get, bys_drop, ld_one]
  refine VB1 s.length s (Nat.le_refl _) _ _ _ (fun hv e h' => ?_) (fun hv e h' => ?_) _
  · simp (disch := omega) [bys_len, bys_get, bys_drop, ld_one, hv]
  · simp (disch := omega) [bys_len, bys_get, bys_drop, ld_one, hv]
section
variable {ks : List Kt} {ops : List AOpr} {K : Kp} {e : Env} {h : Heap} {Q : Ex → Env → Heap → Prop} {d : Nat} {lent : Bool}
theorem Valid_p (s : List UInt8) : Xp T f_unicode_utf8_Valid (some ([.ps 1 (bys s)], lent)) h (some d) ops K ks e Q = Xo T ops K ks ((d, .bool (valid s)) :: e) h Q := by
  obtain ⟨h', r⟩ := Valid_run s
  exact Xp_run r (by simp [bys_hfs]) rfl (by simp [scalar])
end
end Ev
