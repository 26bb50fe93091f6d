/- The law BlockGets: the block of any value, or what is wrong. Each theorem states its own conditions. -/
import Derived.Test.YtienkohkbihdoaaDoorLBlk8
set_option linter.all false
namespace Ev
open Go
set_option maxRecDepth 10000
attribute [-simp] getElem?_pos getElem?_neg List.drop_one

theorem refV_good {t : T6} (hw : t.w ≤ 1048576) (ok : t.ok) (h : shp1 t) : Good (refV t) := refT_good _ _ _ _ _ (shp_good hw ok h).1 (shp_good hw ok h).2
theorem el_at (t : T6) (i : Nat) (h : t.k = 4) (hi : i < t.l.length) : (T6.vs t.l)[i]? = some (el t i).v := by
  rw [T6.vs_get, el, if_pos h, List.getElem?_eq_getElem hi]; rfl
theorem R9Get_run (t : T6) (hw : t.w ≤ 1048576) (ok : t.ok) (hr : rgt t = true) : ∃ h', Run T f_ref09_Get [t.v] [] (getS t) h' := by
  have h6 := R6Put_run _ t (Nat.le_refl _) (by omega) ok hr
  have ve := v_eq t
  have vl := T6.vs_len t.l
  have vh := T6.v_hf t
  have b5 := T6.ws_len t.l
  have b6 := T6.lt_ws t
  have tc : t.v.cells = [.int .i64 t.k, .int .u64 t.n, .str t.s, .ps 4 (T6.vs t.l)] := by rw [ve]; rfl
  refine Run.startE t_ref09_Get ?_
  unfold k_ref09_Get
  by_cases k4' : t.k ≠ 4
  · have : ¬ shp2 t := fun h => k4' (shp_k4 h.1)
    unfold getS
    rw [if_neg this]
    simp (disch := first | omega | assumption) [tc, k4', zblk, blkV]
  have k4 : t.k = 4 := by omega
  obtain ⟨_, h6⟩ := h6
  rw [ve, k4] at h6
  have eL : asL t = t.l := by simp [asL, k4]
  by_cases l5 : t.l.length < 5
  · have : ¬ shp2 t := fun h => by
      have := h.1.2.2
      rw [eL] at this
      unfold manyN at this
      split at this <;> omega
    unfold getS
    rw [if_neg this]
    have l5' : (t.l.length : Int) < 5 := by omega
    simp (disch := first | omega | assumption) [tc, k4, vl, l5, l5', zblk, blkV]
  by_cases l6 : 6 < t.l.length
  · have : ¬ shp2 t := fun h => by
      have := h.1.2.2
      rw [eL] at this
      unfold manyN at this
      split at this <;> omega
    unfold getS
    rw [if_neg this]
    have l5' : ¬ (t.l.length : Int) < 5 := by omega
    have l6' : (6 : Int) < t.l.length := by omega
    simp (disch := first | omega | assumption) [tc, k4, vl, l5, l5', l6, l6', zblk, blkV]
  have l5' : ¬ (t.l.length : Int) < 5 := by omega
  have l6' : ¬ (6 : Int) < t.l.length := by omega
  have e0 := el_at t 0 k4 (by omega)
  have e1 := el_at t 1 k4 (by omega)
  have e2 := el_at t 2 k4 (by omega)
  have e3 := el_at t 3 k4 (by omega)
  have e4 := el_at t 4 k4 (by omega)
  have c0 : ∀ i, (el t i).v.cells[0]? = some (.int .i64 (el t i).k) := fun i => by rw [v_eq]; rfl
  have c1 : ∀ i, (el t i).v.cells[1]? = some (.int .u64 (el t i).n) := fun i => by rw [v_eq]; rfl
  have c2 : ∀ i, (el t i).v.cells[2]? = some (.str (el t i).s) := fun i => by rw [v_eq]; rfl
  have cl : ∀ i, (el t i).v.cells.length = 4 := fun i => T6.cells_len _
  simp (disch := first | omega | assumption) [tc, k4, vl, l5, l5', l6, l6']
  rw [L_ref09_Get_0]; unfold bl_ref09_Get_0
  simp (disch := first | omega | assumption) [vl, e0, c0, cl]
  by_cases d0' : (el t 0).k ≠ 0
  · have : ¬ shp2 t := fun h => d0' (by have := h.1.1; simp only [this])
    unfold getS
    rw [if_neg this]
    simp (disch := first | omega | assumption) [d0', zblk, blkV]
  have d0 : (el t 0).k = 0 := by omega
  simp (disch := first | omega | assumption) [d0]
  rw [L_ref09_Get_0]; unfold bl_ref09_Get_0
  simp (disch := first | omega | assumption) [vl, e1, c0, cl]
  by_cases d1' : (el t 1).k ≠ 0
  · have : ¬ shp2 t := fun h => d1' (by have := h.1.1; simp only [this])
    unfold getS
    rw [if_neg this]
    simp (disch := first | omega | assumption) [d1', zblk, blkV]
  have d1 : (el t 1).k = 0 := by omega
  simp (disch := first | omega | assumption) [d1]
  rw [L_ref09_Get_0]; unfold bl_ref09_Get_0
  simp (disch := first | omega | assumption) [vl, e2, c0, cl]
  by_cases d2' : (el t 2).k ≠ 0
  · have : ¬ shp2 t := fun h => d2' (by have := h.1.1; simp only [this])
    unfold getS
    rw [if_neg this]
    simp (disch := first | omega | assumption) [d2', zblk, blkV]
  have d2 : (el t 2).k = 0 := by omega
  simp (disch := first | omega | assumption) [d2]
  rw [L_ref09_Get_0]; unfold bl_ref09_Get_0
  simp (disch := first | omega | assumption) [vl, e3, c0, cl]
  by_cases d3' : (el t 3).k ≠ 0
  · have : ¬ shp2 t := fun h => d3' (by have := h.1.1; simp only [this])
    unfold getS
    rw [if_neg this]
    simp (disch := first | omega | assumption) [d3', zblk, blkV]
  have d3 : (el t 3).k = 0 := by omega
  simp (disch := first | omega | assumption) [d3]
  rw [L_ref09_Get_0]; unfold bl_ref09_Get_0
  simp (disch := first | omega | assumption) [vl, e3, e4, c0, c1, cl]
  have an : asN (el t 3) = (el t 3).n := by unfold asN; rw [if_pos d3]
  have n3 := el_n t 3 ok
  rw [an] at n3
  by_cases d4' : (el t 4).k ≠ 2
  · have : ¬ shp2 t := fun h => d4' h.1.1.2
    unfold getS
    rw [if_neg this]
    simp (disch := first | omega | assumption) [d4', zblk, blkV]
  have d4 : (el t 4).k = 2 := by omega
  by_cases kb : 2 < (el t 3).n
  · have : ¬ shp2 t := fun h => by have := h.1.2.1; omega
    unfold getS
    rw [if_neg this]
    simp (disch := first | omega | assumption) [d4, kb, zblk, blkV]
  have an0 : asN (el t 0) = (el t 0).n := by unfold asN; rw [if_pos d0]
  have an1 : asN (el t 1) = (el t 1).n := by unfold asN; rw [if_pos d1]
  have an2 : asN (el t 2) = (el t 2).n := by unfold asN; rw [if_pos d2]
  have bn : asB (el t 4) = (el t 4).s := by unfold asB; rw [if_pos d4]
  by_cases kz : (el t 3).n = 0
  · by_cases lb : t.l.length ≠ 5
    · have : ¬ shp2 t := fun h => by
        have := h.1.2.2
        rw [eL, manyN, an, if_neg (by omega)] at this
        omega
      unfold getS
      rw [if_neg this]
      have lb' : ¬ ((t.l.length : Int) = 5) := by omega
      simp (disch := first | omega | assumption) [d4, kb, kz, lb, lb', vl, zblk, blkV]
    have lb2 : t.l.length = 5 := by omega
    have lb' : ((t.l.length : Int) = 5) := by omega
    have hs : shp2 t := ⟨⟨⟨⟨⟨⟨d0, d1⟩, d2⟩, d3⟩, d4⟩, by rw [an]; omega, by rw [eL, manyN, an, if_neg (by omega)]; omega⟩, fun h => by rw [an] at h; omega⟩
    unfold getS
    rw [if_pos hs]
    obtain ⟨gl, k2⟩ := shp_good hw ok hs.1
    have gr := refV_good hw ok hs.1
    obtain ⟨_, rV⟩ := R9Value_run _ _ _ _ _ gl k2
    have fV : refT (asN (el t 0)) (asN (el t 1)) (asN (el t 2)) (kindN t) (asB (el t 4)) = refV t := rfl
    rw [fV] at rV
    obtain ⟨_, r6⟩ := R6Put_run _ (refV t) (Nat.le_refl _) gr.w gr.ok gr.r
    obtain ⟨_, rC⟩ := R9Check_run (asN (el t 0)) (asN (el t 1)) (asN (el t 2)) (asN (el t 3)) (asB (el t 4)) []
    have hkn : ((kindN t : Nat) : Int) = asN (el t 3) := by unfold kindN; rw [an]; omega
    rw [hkn] at rV
    unfold chkV
    rw [an, an0, an1, an2, bn] at *
    rw [kz] at rV rC
    have vhf := T6.v_hf (refV t)
    simp (disch := first | omega | assumption) [d4, kb, kz, lb2, vl,  zblk, blkV]
    apply Xc_regf
    simp (disch := first | omega | assumption) [vl, e0, e1, e2, e3, e4, c0, c1, c2, cl]
    simp (disch := first | omega | assumption) [flagsIn, flagP, evOp, vl, e0, e1, e2, e3, e4, c0, c1, c2, cl]
    simp only [blk_fold]
    rw [Xp_run rV (by simp [blk_hf]) vhf (by simp)]
    simp (disch := omega)
    rw [Xp_run r6 (by simp [vhf]) (by simp [bys_hfs]) (by simp)]
    simp (disch := omega) [bys_back]
    rw [Xp_run h6 (by simp [T6.vs_hfs]) (by simp [bys_hfs]) (by simp)]
    simp (disch := omega) [bys_back]
    generalize enc (refV t) = E1 at *
    generalize enc t = E2 at *
    by_cases q : E2 = E1
    · rw [if_pos q]
      subst q
      simp (disch := omega)
      simp only [blk_fold]
      rw [Xp_run rC (by simp [blk_hf]) (by simp) (by simp)]
      generalize chkS _ _ _ = CH at *
      by_cases hc : CH = 0
      · simp (disch := first | omega | assumption) [hc, blkV]
      · simp (disch := first | omega | assumption) [hc, blkV]
    · rw [if_neg q]
      have q' : ¬ E1 = E2 := fun k => q k.symm
      simp (disch := omega) [q', blkV]
  · have kp : 0 < (el t 3).n := by omega
    by_cases lb : t.l.length ≠ 6
    · have : ¬ shp2 t := fun h => by
        have := h.1.2.2
        rw [eL, manyN, an, if_pos (by omega)] at this
        omega
      unfold getS
      rw [if_neg this]
      have lb' : ¬ ((t.l.length : Int) = 6) := by omega
      simp (disch := first | omega | assumption) [d4, kb, kz, kp, lb, lb', vl, zblk, blkV]
    have lb2 : t.l.length = 6 := by omega
    have lb' : ((t.l.length : Int) = 6) := by omega
    have e5 := el_at t 5 k4 (by omega)
    by_cases d5' : (el t 5).k ≠ 2
    · have : ¬ shp2 t := fun h => d5' (h.2 (by rw [an]; omega))
      unfold getS
      rw [if_neg this]
      simp (disch := first | omega | assumption) [d4, kb, kz, kp, lb2, vl, e5, c0, cl, d5', zblk, blkV]
    have d5 : (el t 5).k = 2 := by omega
    have hs : shp2 t := ⟨⟨⟨⟨⟨⟨d0, d1⟩, d2⟩, d3⟩, d4⟩, by rw [an]; omega, by rw [eL, manyN, an, if_pos (by omega)]; omega⟩, fun _ => d5⟩
    unfold getS
    rw [if_pos hs]
    obtain ⟨gl, k2⟩ := shp_good hw ok hs.1
    have gr := refV_good hw ok hs.1
    obtain ⟨_, rV⟩ := R9Value_run _ _ _ _ _ gl k2
    have fV : refT (asN (el t 0)) (asN (el t 1)) (asN (el t 2)) (kindN t) (asB (el t 4)) = refV t := rfl
    rw [fV] at rV
    obtain ⟨_, r6⟩ := R6Put_run _ (refV t) (Nat.le_refl _) gr.w gr.ok gr.r
    obtain ⟨_, rC⟩ := R9Check_run (asN (el t 0)) (asN (el t 1)) (asN (el t 2)) (asN (el t 3)) (asB (el t 4)) []
    have hkn : ((kindN t : Nat) : Int) = asN (el t 3) := by unfold kindN; rw [an]; omega
    rw [hkn] at rV
    unfold chkV
    rw [an, an0, an1, an2, bn] at *
    have vhf := T6.v_hf (refV t)
    simp (disch := first | omega | assumption) [d4, kb, kz, kp, lb2, vl, e5, c0, cl, d5, zblk, blkV]
    apply Xc_regf
    simp (disch := first | omega | assumption) [vl, e0, e1, e2, e3, e4, c0, c1, c2, cl]
    simp (disch := first | omega | assumption) [flagsIn, flagP, evOp, vl, e0, e1, e2, e3, e4, c0, c1, c2, cl]
    simp only [blk_fold]
    rw [Xp_run rV (by simp [blk_hf]) vhf (by simp)]
    simp (disch := omega)
    rw [Xp_run r6 (by simp [vhf]) (by simp [bys_hfs]) (by simp)]
    simp (disch := omega) [bys_back]
    rw [Xp_run h6 (by simp [T6.vs_hfs]) (by simp [bys_hfs]) (by simp)]
    simp (disch := omega) [bys_back]
    generalize enc (refV t) = E1 at *
    generalize enc t = E2 at *
    by_cases q : E2 = E1
    · rw [if_pos q]
      subst q
      simp (disch := omega)
      simp only [blk_fold]
      rw [Xp_run rC (by simp [blk_hf]) (by simp) (by simp)]
      generalize chkS _ _ _ = CH at *
      by_cases hc : CH = 0
      · simp (disch := first | omega | assumption) [hc, blkV]
      · simp (disch := first | omega | assumption) [hc, blkV]
    · rw [if_neg q]
      have q' : ¬ E1 = E2 := fun k => q k.symm
      simp (disch := omega) [q', blkV]
theorem getS_shape (t : T6) : ∃ a b c k s e, getS t = .tup [blkV a b c k s, .int .i64 e] := by
  unfold getS chkV zblk
  (repeat' split) <;> exact ⟨_, _, _, _, _, _, rfl⟩
theorem Gets_run (t : T6) (hw : t.w ≤ 1048576) (ok : t.ok) : ∃ h', Run T f_law09_BlockGets [t.v] [] (.bool true) h' := by
  have ve := v_eq t
  have vh := T6.v_hf t
  have vc : t.v.cells.length = 4 := T6.cells_len t
  have ag : V.agg t.v.cells = t.v := by rw [ve]; rfl
  refine Run.startE t_law09_BlockGets ?_
  unfold k_law09_BlockGets
  have fz := T6.agg_v t
  have vone : ∀ x ∈ t.v.cells, x.one = true := by rw [ve]; simp
  have sz := fun {ks ops K e h Q d} => Sz_p t (by omega) (ks := ks) (ops := ops) (K := K) (e := e) (h := h) (Q := Q) (d := d)
  simp (disch := first | omega | assumption) [vc, fz, sz, vone]
  by_cases c1 : 10 < dp t
  · simp (disch := first | omega | assumption) [c1, awake9_p]
  simp (disch := first | omega | assumption) [c1]
  by_cases c2 : 100 < cnt t
  · have c2' : (100 : Int) < cnt t := by omega
    simp (disch := first | omega | assumption) [c2, c2', awake9_p]
  have c2' : ¬ (100 : Int) < cnt t := by omega
  have rt := fun {ks ops K e h Q d} => Rt_p t (by omega) (ks := ks) (ops := ops) (K := K) (e := e) (h := h) (Q := Q) (d := d) (lent := false) rfl
  simp (disch := first | omega | assumption) [c2, c2', vc, fz, rt]
  cases hr : rgt t with
  | false => simp (disch := first | omega | assumption) [awake9_p]
  | true =>
    obtain ⟨_, r1⟩ := GetS_run t hw ok
    obtain ⟨_, r2⟩ := R9Get_run t hw ok hr
    have gh := getS_hf t
    obtain ⟨a, b, c, k, s, e, eg⟩ := getS_shape t
    rw [eg] at r1 r2 gh
    simp (disch := first | omega | assumption) [vc, fz, Any_p]
    rw [Xp_run r1 (by simp [anyV_hf]) gh (by simp)]
    simp (disch := first | omega | assumption) [vc, fz, blkV]
    rw [Xp_run r2 (by simp [vh]) gh (by simp)]
    simp (disch := first | omega | assumption) [vc, fz, blkV, awake9_p]
theorem law_BlockGets (x : V) (hx : ∃ vs, x = .agg vs ∧ Row sh6 vs) (hb : V.bulk x ≤ 1048576) : ∃ h', Run T f_law09_BlockGets [x] [] (.bool true) h' := by
  obtain ⟨vs, rfl, hr⟩ := hx
  simp only [V.bulk] at hb
  obtain ⟨t, e, h1, h2⟩ := read6 _ vs (Nat.le_refl _) hr
  rw [e]
  exact Gets_run t (by omega) h1
end Ev
