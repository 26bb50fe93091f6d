/- First blocks read by the document's answer. The law PrimaryGets: the first block of any value, or what is wrong. Each theorem states its own conditions. -/
import Derived.Test.YtienkohkbihdoaaDoorQPri
set_option linter.all false
namespace Ev
open Go
set_option maxRecDepth 10000
attribute [-simp] getElem?_pos getElem?_neg List.drop_one
theorem num10_run (t : T6) (h : Heap) : ∃ h', Run T f_ref10_number [t.v] h (.bool (decide (t.k = 0))) h' := by
  have ve := v_eq t
  have tc : t.v.cells = [.int .i64 t.k, .int .u64 t.n, .str t.s, .ps 4 (T6.vs t.l)] := by rw [ve]; rfl
  refine Run.startE t_ref10_number ?_
  unfold k_ref10_number
  simp (disch := omega) [tc]
section
variable {ks : List Kt} {ops : List AOpr} {K : Kp} {e : Env} {h : Heap} {Q : Ex → Env → Heap → Prop} {d : Nat}
theorem num10_p (t : T6) : Xp T f_ref10_number (some ([t.v], false)) h (some d) ops K ks e Q = Xo T ops K ks ((d, .bool (decide (t.k = 0))) :: e) h Q := by
  obtain ⟨h', r⟩ := num10_run t []
  exact Xp_run r (by simp [T6.v_hf]) rfl (by simp)
end
def tl10 : ACode := match k_ref10_Get with
  | .seq _ (.seq _ (.seq _ (.seq _ (.seq _ (.seq _ t))))) => t
  | _ => .skip
def tl10b : ACode := match tl10 with
  | .seq _ t => t
  | _ => .skip
/-- A value whose first eight parts are a first block's. -/
structure Pre10 (t : T6) : Prop where
  k4 : t.k = 4
  l8 : 8 ≤ t.l.length
  d0 : (el t 0).k = 0
  d1 : (el t 1).k = 0
  d2 : (el t 2).k = 0
  d7 : (el t 7).k = 0
  n0 : (el t 0).n = 7
  n2 : (el t 2).n ≤ 2
def cells10 (t : T6) (o z : Int) : List V := [V.int IntKind.u64 (el t 1).n, V.int IntKind.i64 (el t 2).n, V.int IntKind.i64 0, V.str [], V.int IntKind.u64 0,
          V.int IntKind.u64 0, V.int IntKind.i64 0, V.str [], V.int IntKind.u64 0, V.int IntKind.u64 0,
          V.int IntKind.i64 0, V.str [], V.int IntKind.u64 0, V.int IntKind.u64 0, V.int IntKind.u64 0,
          V.int IntKind.u64 0, V.int IntKind.u64 (el t 7).n, V.int IntKind.u64 o, V.int IntKind.u64 z]
def hp10 (t : T6) (o z : Int) : Heap := [some [V.int IntKind.i64 4, V.int IntKind.u64 t.n, V.str t.s, V.ps 4 (T6.vs t.l)],
      some
        [V.int IntKind.u64 0, V.int IntKind.i64 0, V.int IntKind.i64 0, V.str [], V.int IntKind.u64 0,
          V.int IntKind.u64 0, V.int IntKind.i64 0, V.str [], V.int IntKind.u64 0, V.int IntKind.u64 0,
          V.int IntKind.i64 0, V.str [], V.int IntKind.u64 0, V.int IntKind.u64 0, V.int IntKind.u64 0,
          V.int IntKind.u64 0, V.int IntKind.u64 0, V.int IntKind.u64 0, V.int IntKind.u64 0],
      some (cells10 t o z)]
theorem tail10b (t : T6) (hw : t.w ≤ 1048576) (ok : t.ok) (hr : rgt t = true) (p : Pre10 t) (o z : Int) (ho : (if fragT t then asN (el t 8) else 0) = o) (hz : (if fragT t then asN (el t 9) else 0) = z) (m : Nat) (hm : (m : Int) = mny8 t + if 0 < kdT t then 1 else 0) (ty : typT t) :
    Xc T tl10b [] [(1, V.ptr 0 0), (2, V.ptr 1 0), (5, V.ptr 2 0), (6, V.int IntKind.i64 m)] (hp10 t o z) (RetE [RV.c 2 19, RV.t 3] [] (getPS t)) := by
  have h6 := R6Put_run _ t (Nat.le_refl _) (by omega) ok hr
  have ve := v_eq t
  have vl := T6.vs_len t.l
  have vh := T6.v_hf t
  have b5 := T6.ws_len t.l
  have b6 := T6.lt_ws t
  have l8 := p.l8
  have e3 := el_at t 3 p.k4 (by omega)
  have e4 := el_at t 4 p.k4 (by omega)
  have e5 := el_at t 5 p.k4 (by omega)
  have e6 := el_at t 6 p.k4 (by omega)
  have fz := fun i => T6.agg_v (el t i)
  have fy := fun i => T6.agg_v (el (el t 6) i)
  have cl : ∀ i, (el t i).v.cells.length = 4 := fun i => T6.cells_len _
  have tc : (el t 6).v.cells = [.int .i64 (el t 6).k, .int .u64 (el t 6).n, .str (el t 6).s, .ps 4 (T6.vs (el t 6).l)] := by rw [v_eq (el t 6)]; rfl
  have vl6 := T6.vs_len (el t 6).l
  have eL : asL t = t.l := by simp [asL, p.k4]
  have hl6 := T6.ws_len (el t 6).l
  have hw6 := el_w t 6 (show t.w ≤ 4194304 by omega)
  have hl6' := T6.lt_ws (el t 6)
  show Xc T (.seq _ _) _ _ _ _
  simp only [Xc_seq]
  unfold hp10
  simp (disch := first | omega | assumption) [vl, e6, cl, tc]
  by_cases c1 : t.l.length ≠ m
  · have : ¬ shpP t := fun h => c1 (by have := h.2.2.2.2; rw [eL] at this; omega)
    unfold getPS
    rw [if_neg this]
    have c1' : ¬ ((t.l.length : Int) = m) := by omega
    simp (disch := first | omega | assumption) [c1, c1', zP, PP.v]
  have c1' : t.l.length = m := by omega
  have c1'' : (t.l.length : Int) = m := by omega
  simp (disch := first | omega | assumption) [c1', vl6]
  by_cases c2' : (el t 6).k ≠ 4
  · have : ¬ shpP t := fun h => c2' h.2.1.1
    unfold getPS
    rw [if_neg this]
    simp (disch := first | omega | assumption) [c2', zP, PP.v]
  have c2 : (el t 6).k = 4 := by omega
  simp (disch := first | omega | assumption) [c2, vl6]
  by_cases c3' : (el t 6).l.length ≠ 2
  · have : ¬ shpP t := fun h => c3' h.2.1.2.1
    unfold getPS
    rw [if_neg this]
    have c3'' : ¬ ((el t 6).l.length : Int) = 2 := by omega
    simp (disch := first | omega | assumption) [c3', c3'', zP, PP.v]
  have c3 : (el t 6).l.length = 2 := by omega
  have s0 := el_at (el t 6) 0 c2 (by omega)
  have s1 := el_at (el t 6) 1 c2 (by omega)
  have cl6 : ∀ i, (el (el t 6) i).v.cells.length = 4 := fun i => T6.cells_len _
  have tc0 : ∀ i, (el (el t 6) i).v.cells[1]? = some (.int .u64 (el (el t 6) i).n) := fun i => by rw [v_eq]; rfl
  simp (disch := first | omega | assumption) [c3, vl6, s0, s1, cl6, fy, num10_p]
  by_cases c4' : (el (el t 6) 0).k ≠ 0
  · have : ¬ shpP t := fun h => c4' h.2.1.2.2.1
    unfold getPS
    rw [if_neg this]
    simp (disch := first | omega | assumption) [c4', zP, PP.v]
  have c4 : (el (el t 6) 0).k = 0 := by omega
  simp (disch := first | omega | assumption) [c4, vl6, s0, s1, cl6, fy, num10_p]
  by_cases c5' : (el (el t 6) 1).k ≠ 0
  · have : ¬ shpP t := fun h => c5' h.2.1.2.2.2
    unfold getPS
    rw [if_neg this]
    simp (disch := first | omega | assumption) [c5', zP, PP.v]
  have c5 : (el (el t 6) 1).k = 0 := by omega
  have hst : stOk (el t 6) := ⟨c2, c3, c4, c5⟩
  have an0 : asN (el t 0) = (el t 0).n := by unfold asN; rw [if_pos p.d0]
  have an2 : asN (el t 2) = (el t 2).n := by unfold asN; rw [if_pos p.d2]
  have hs : shpP t := ⟨ty, hst, by rw [an0]; exact p.n0, by unfold kdT; rw [an2]; exact p.n2, by rw [eL]; omega⟩
  obtain ⟨_, r3⟩ := R7Of_run (el t 3) (el_w t 3 (by omega)) (el_ok t 3 ok)
  obtain ⟨_, r4⟩ := R7Of_run (el t 4) (el_w t 4 (by omega)) (el_ok t 4 ok)
  obtain ⟨_, r5⟩ := R7Of_run (el t 5) (el_w t 5 (by omega)) (el_ok t 5 ok)
  rw [ofV_eq] at r3 r4 r5
  have p3 := fun {ks ops K e h Q d} => Xp_run (b := false) (ks := ks) (ops := ops) (K := K) (e := e) (h := h) (Q := Q) (d := d) r3 (by simp [T6.v_hf]) (by simp [E4.v, eid_hf]) (by simp)
  have p4 := fun {ks ops K e h Q d} => Xp_run (b := false) (ks := ks) (ops := ops) (K := K) (e := e) (h := h) (Q := Q) (d := d) r4 (by simp [T6.v_hf]) (by simp [E4.v, eid_hf]) (by simp)
  have p5 := fun {ks ops K e h Q d} => Xp_run (b := false) (ks := ks) (ops := ops) (K := K) (e := e) (h := h) (Q := Q) (d := d) r5 (by simp [T6.v_hf]) (by simp [E4.v, eid_hf]) (by simp)
  simp (disch := first | omega | assumption) [c5, vl, vl6, s0, s1, tc0, cl6, e3, e4, e5, cl, fz, p3, p4, p5, cells10, E4.v, eidV]
  by_cases q3 : (ofE (el t 3)).2 ≠ 0
  · have eT : errT t = (ofE (el t 3)).2 := by unfold errT; rw [if_neg q3]
    have : getPS t = .tup [zP, .int .i64 (ofE (el t 3)).2] := by unfold getPS; rw [if_pos hs, if_neg (by rw [eT]; exact q3), eT]
    rw [this]
    simp (disch := first | omega | assumption) [q3, zP, PP.v]
  have q3' : (ofE (el t 3)).2 = 0 := by omega
  simp (disch := first | omega | assumption) [q3']
  by_cases q4 : (ofE (el t 4)).2 ≠ 0
  · have eT : errT t = (ofE (el t 4)).2 := by unfold errT; rw [if_pos q3', if_neg q4]
    have : getPS t = .tup [zP, .int .i64 (ofE (el t 4)).2] := by unfold getPS; rw [if_pos hs, if_neg (by rw [eT]; exact q4), eT]
    rw [this]
    simp (disch := first | omega | assumption) [q4, zP, PP.v]
  have q4' : (ofE (el t 4)).2 = 0 := by omega
  simp (disch := first | omega | assumption) [q4']
  by_cases q5 : (ofE (el t 5)).2 ≠ 0
  · have eT : errT t = (ofE (el t 5)).2 := by unfold errT; rw [if_pos q3', if_pos q4']
    have : getPS t = .tup [zP, .int .i64 (ofE (el t 5)).2] := by unfold getPS; rw [if_pos hs, if_neg (by rw [eT]; exact q5), eT]
    rw [this]
    simp (disch := first | omega | assumption) [q5, zP, PP.v]
  have q5' : (ofE (el t 5)).2 = 0 := by omega
  have eT : errT t = 0 := by unfold errT; rw [if_pos q3', if_pos q4']; exact q5'
  have hB := pOf_B ok hs eT
  have gl := prim_good hB
  have k2 := hs.2.2.2.1
  obtain ⟨k, hk⟩ := Int.eq_ofNat_of_zero_le (show 0 ≤ kdT t from hB.c0)
  obtain ⟨_, rV⟩ := R10Value_run (pOf t) hB.ok k hk (by omega) hB.d.r hB.s.r hB.r.r gl
  have gt := refL_good gl (show k ≤ 2 by omega)
  obtain ⟨_, r6⟩ := R6Put_run _ _ (Nat.le_refl _) gt.w gt.ok gt.r
  obtain ⟨_, rC⟩ := CheckR_run (pOf t) hB.ok []
  obtain ⟨_, h6⟩ := h6
  rw [ve, p.k4] at h6
  have ek : (kdT t).toNat = k := by omega
  have eP : getPS t = if enc t = enc (refL (primL (pOf t)) k) then chkPV t else .tup [zP, .int .i64 7] := by
    unfold getPS; rw [if_pos hs, if_pos eT, ek]
  rw [eP]
  have an1 : asN (el t 1) = (el t 1).n := by unfold asN; rw [if_pos p.d1]
  have an7 : asN (el t 7) = (el t 7).n := by unfold asN; rw [if_pos p.d7]
  have t1 : st1 (el t 6) = (el (el t 6) 0).n := by unfold st1 asN; rw [if_pos hst, if_pos c4]
  have t2 : st2 (el t 6) = (el (el t 6) 1).n := by unfold st2 asN; rw [if_pos hst, if_pos c5]
  have hP : (pOf t).v = .agg [.int .u64 (el t 1).n, .int .i64 (el t 2).n, .int .i64 (ofE (el t 3)).1.sc, .str (ofE (el t 3)).1.nm, .int .u64 (ofE (el t 3)).1.nd, .int .u64 (ofE (el t 3)).1.sv, .int .i64 (ofE (el t 4)).1.sc, .str (ofE (el t 4)).1.nm, .int .u64 (ofE (el t 4)).1.nd, .int .u64 (ofE (el t 4)).1.sv, .int .i64 (ofE (el t 5)).1.sc, .str (ofE (el t 5)).1.nm, .int .u64 (ofE (el t 5)).1.nd, .int .u64 (ofE (el t 5)).1.sv, .int .u64 (el (el t 6) 0).n, .int .u64 (el (el t 6) 1).n, .int .u64 (el t 7).n, .int .u64 o, .int .u64 z] := by
    unfold pOf PP.v
    simp only [an1, an7, t1, t2, ho, hz, kdT, an2]
  rw [hP] at rV rC
  unfold chkPV
  rw [hP]
  have vhf := T6.v_hf (refL (primL (pOf t)) k)
  have gw := gt.w
  have el1 := enc_len (refL (primL (pOf t)) k)
  have el2 := enc_len t
  generalize refL (primL (pOf t)) k = R at *
  generalize chkP (pOf t) = CH at *
  simp (disch := first | omega | assumption) [q5']
  rw [Xp_run rV (by simp) vhf (by simp)]
  simp (disch := omega)
  rw [Xp_run r6 (by simp [vhf]) (by simp [bys_hfs]) (by simp)]
  simp (disch := omega) [bys_back]
  rw [Xp_run h6 (by simp [T6.vs_hfs]) (by simp [bys_hfs]) (by simp)]
  simp (disch := omega) [bys_back]
  generalize enc R = E1 at *
  generalize enc t = E2 at *
  by_cases q : E2 = E1
  · rw [if_pos q]
    subst q
    simp (disch := omega)
    rw [Xp_run rC (by simp) (by simp) (by simp)]
    by_cases hc : CH = 0
    · simp (disch := first | omega | assumption) [hc]
    · simp (disch := first | omega | assumption) [hc, zP, PP.v]
  · rw [if_neg q]
    have q' : ¬ E1 = E2 := fun k => q k.symm
    simp (disch := omega) [q', zP, PP.v]
theorem tail10 (t : T6) (hw : t.w ≤ 1048576) (ok : t.ok) (hr : rgt t = true) (p : Pre10 t) (o z : Int) (ho : (if fragT t then asN (el t 8) else 0) = o) (hz : (if fragT t then asN (el t 9) else 0) = z) (m : Nat) (hm : mny8 t = m) (d89 : fragT t = true → (el t 8).k = 0 ∧ (el t 9).k = 0) (X : Env) (hX : X = [] ∨ X = [(90, .bool false)]) :
    Xc T tl10 [] ((1, V.ptr 0 0) :: (2, V.ptr 1 0) :: (5, V.ptr 2 0) :: (6, V.int IntKind.i64 m) :: X) (hp10 t o z) (RetE [RV.c 2 19, RV.t 3] [] (getPS t)) := by
  have vl := T6.vs_len t.l
  have b5 := T6.ws_len t.l
  have b6 := T6.lt_ws t
  have l8 := p.l8
  have eL : asL t = t.l := by simp [asL, p.k4]
  have an2 : asN (el t 2) = (el t 2).n := by unfold asN; rw [if_pos p.d2]
  have c0 : ∀ i, (el t i).v.cells[0]? = some (.int .i64 (el t i).k) := fun i => by rw [v_eq]; rfl
  have cl : ∀ i, (el t i).v.cells.length = 4 := fun i => T6.cells_len _
  show Xc T (.seq _ tl10b) _ _ _ _
  by_cases c : 0 < (el t 2).n
  · have hp : 0 < kdT t := by unfold kdT; rw [an2]; exact c
    by_cases c1 : t.l.length ≤ m
    · have : ¬ shpP t := fun h => by have := h.2.2.2.2; rw [eL, if_pos hp, hm] at this; omega
      unfold getPS
      rw [if_neg this]
      have c1' : (t.l.length : Int) ≤ m := by omega
      rcases hX with rfl | rfl <;> simp (disch := first | omega | assumption) [hp10, cells10, c, vl, c1, c1', zP, PP.v]
    have c1' : ¬ (t.l.length : Int) ≤ m := by omega
    have em := el_at t m p.k4 (by omega)
    by_cases c2 : (el t m).k = 2
    · have tb := tail10b t hw ok hr p o z ho hz (m + 1) (by rw [if_pos hp, hm]; omega) ⟨p.d0, p.d1, p.d2, p.d7, d89, fun _ => by rw [hm]; exact c2⟩
      unfold hp10 cells10 at *
      have e1 : ((m + 1 : Nat) : Int) = (m : Int) + 1 := by omega
      rw [e1] at tb
      rcases hX with rfl | rfl <;> simp (disch := first | omega | assumption) [c, vl, c1, c1', em, c0, cl, c2] <;> exact tb
    · have : ¬ shpP t := fun h => c2 (by have := h.1.2.2.2.2.2 hp; rw [hm] at this; exact this)
      unfold getPS
      rw [if_neg this]
      rcases hX with rfl | rfl <;> simp (disch := first | omega | assumption) [hp10, cells10, c, vl, c1, c1', em, c0, cl, c2, zP, PP.v]
  · have hp : ¬ 0 < kdT t := by unfold kdT; rw [an2]; exact c
    have tb := tail10b t hw ok hr p o z ho hz m (by rw [if_neg hp, hm]; omega) ⟨p.d0, p.d1, p.d2, p.d7, d89, fun h => absurd h hp⟩
    have e6 := el_at t 6 p.k4 (by omega)
    have tc : (el t 6).v.cells = [.int .i64 (el t 6).k, .int .u64 (el t 6).n, .str (el t 6).s, .ps 4 (T6.vs (el t 6).l)] := by rw [v_eq (el t 6)]; rfl
    have step : ∀ (H : Heap) Q, H = hp10 t o z → Xc T tl10b [] [(1, V.ptr 0 0), (2, V.ptr 1 0), (5, V.ptr 2 0), (6, V.int IntKind.i64 m), (126, .bool false)] H Q = Xc T tl10b [] [(1, V.ptr 0 0), (2, V.ptr 1 0), (5, V.ptr 2 0), (6, V.int IntKind.i64 m)] H Q := fun H Q hH => by
      subst hH
      unfold hp10
      show Xc T (.seq _ _) _ _ _ _ = Xc T (.seq _ _) _ _ _ _
      simp only [Xc_seq]
      simp (disch := first | omega | assumption) [vl, e6, cl, tc]
    unfold hp10 cells10 at *
    rcases hX with rfl | rfl <;> simp (disch := first | omega | assumption) [c] <;> rw [step _ _ rfl] <;> exact tb
theorem R10Get_run (t : T6) (hw : t.w ≤ 1048576) (ok : t.ok) (hr : rgt t = true) : ∃ h', Run T f_ref10_Get [t.v] [] (getPS t) h' := by
  have h6 := R6Put_run _ t (Nat.le_refl _) (by omega) ok hr
  have ve := v_eq t
  have vl := T6.vs_len t.l
  have vh := T6.v_hf t
  have b5 := T6.ws_len t.l
  have b6 := T6.lt_ws t
  have tc : t.v.cells = [.int .i64 t.k, .int .u64 t.n, .str t.s, .ps 4 (T6.vs t.l)] := by rw [ve]; rfl
  refine Run.startE t_ref10_Get ?_
  unfold k_ref10_Get
  show Xc T (.seq _ (.seq _ (.seq _ (.seq _ (.seq _ (.seq _ tl10)))))) _ _ _ _
  by_cases k4' : t.k ≠ 4
  · have : ¬ shpP t := fun h => k4' (shpP_k4 h)
    unfold getPS
    rw [if_neg this]
    simp (disch := first | omega | assumption) [tc, k4', zP, PP.v]
  have k4 : t.k = 4 := by omega
  obtain ⟨_, h6⟩ := h6
  rw [ve, k4] at h6
  have eL : asL t = t.l := by simp [asL, k4]
  by_cases l8 : t.l.length < 8
  · have : ¬ shpP t := fun h => by
      have := h.2.2.2.2
      rw [eL] at this
      unfold mny8 at this
      split at this <;> split at this <;> omega
    unfold getPS
    rw [if_neg this]
    have l8' : (t.l.length : Int) < 8 := by omega
    simp (disch := first | omega | assumption) [tc, k4, vl, l8, l8', zP, PP.v]
  have l8' : ¬ (t.l.length : Int) < 8 := by omega
  have e0 := el_at t 0 k4 (by omega)
  have e1 := el_at t 1 k4 (by omega)
  have e2 := el_at t 2 k4 (by omega)
  have e7 := el_at t 7 k4 (by omega)
  have c0 : ∀ i, (el t i).v.cells[0]? = some (.int .i64 (el t i).k) := fun i => by rw [v_eq]; rfl
  have c1 : ∀ i, (el t i).v.cells[1]? = some (.int .u64 (el t i).n) := fun i => by rw [v_eq]; rfl
  have cl : ∀ i, (el t i).v.cells.length = 4 := fun i => T6.cells_len _
  have fz := fun i => T6.agg_v (el t i)
  simp (disch := first | omega | assumption) [tc, k4, vl, l8, l8', e0, e1, e2, e7, c0, c1, cl, fz, num10_p]
  by_cases d0' : (el t 0).k ≠ 0
  · have : ¬ shpP t := fun h => d0' (by have := h.1; unfold typT at this; simp only [this])
    unfold getPS
    rw [if_neg this]
    simp (disch := first | omega | assumption) [tc, vl, e0, e1, e2, e7, c0, c1, cl, fz, num10_p, d0', zP, PP.v]
  have d0 : (el t 0).k = 0 := by omega
  simp (disch := first | omega | assumption) [tc, vl, e0, e1, e2, e7, c0, c1, cl, fz, num10_p, d0]
  by_cases d1' : (el t 1).k ≠ 0
  · have : ¬ shpP t := fun h => d1' (by have := h.1; unfold typT at this; simp only [this])
    unfold getPS
    rw [if_neg this]
    simp (disch := first | omega | assumption) [tc, vl, e0, e1, e2, e7, c0, c1, cl, fz, num10_p, d1', zP, PP.v]
  have d1 : (el t 1).k = 0 := by omega
  simp (disch := first | omega | assumption) [tc, vl, e0, e1, e2, e7, c0, c1, cl, fz, num10_p, d1]
  by_cases d2' : (el t 2).k ≠ 0
  · have : ¬ shpP t := fun h => d2' (by have := h.1; unfold typT at this; simp only [this])
    unfold getPS
    rw [if_neg this]
    simp (disch := first | omega | assumption) [tc, vl, e0, e1, e2, e7, c0, c1, cl, fz, num10_p, d2', zP, PP.v]
  have d2 : (el t 2).k = 0 := by omega
  simp (disch := first | omega | assumption) [tc, vl, e0, e1, e2, e7, c0, c1, cl, fz, num10_p, d2]
  by_cases d7' : (el t 7).k ≠ 0
  · have : ¬ shpP t := fun h => d7' (by have := h.1; unfold typT at this; simp only [this])
    unfold getPS
    rw [if_neg this]
    simp (disch := first | omega | assumption) [tc, vl, e0, e1, e2, e7, c0, c1, cl, fz, num10_p, d7', zP, PP.v]
  have d7 : (el t 7).k = 0 := by omega
  simp (disch := first | omega | assumption) [tc, vl, e0, e1, e2, e7, c0, c1, cl, fz, num10_p, d7]
  have an0 : asN (el t 0) = (el t 0).n := by unfold asN; rw [if_pos d0]
  have an1 : asN (el t 1) = (el t 1).n := by unfold asN; rw [if_pos d1]
  have an2 : asN (el t 2) = (el t 2).n := by unfold asN; rw [if_pos d2]
  have an7 : asN (el t 7) = (el t 7).n := by unfold asN; rw [if_pos d7]
  by_cases n0' : (el t 0).n ≠ 7
  · have : ¬ shpP t := fun h => n0' (by have := h.2.2.1; rw [an0] at this; exact this)
    unfold getPS
    rw [if_neg this]
    simp (disch := first | omega | assumption) [tc, vl, e0, e1, e2, e7, c0, c1, cl, fz, n0', zP, PP.v]
  have n0 : (el t 0).n = 7 := by omega
  simp (disch := first | omega | assumption) [tc, vl, e0, e1, e2, e7, c0, c1, cl, fz, n0]
  by_cases n2 : 2 < (el t 2).n
  · have : ¬ shpP t := fun h => (by have := h.2.2.2.1; unfold kdT at this; rw [an2] at this; omega)
    unfold getPS
    rw [if_neg this]
    simp (disch := first | omega | assumption) [n2, zP, PP.v]
  have nn1 := el_n t 1 ok
  have nn2 := el_n t 2 ok
  rw [an1] at nn1
  rw [an2] at nn2
  obtain ⟨b0, b1⟩ := nn1
  obtain ⟨b2, b3⟩ := nn2
  obtain ⟨_, bt⟩ := Bit_run (el t 1).n 1 b0 (by omega) (by omega) b1 []
  rw [Int.ediv_one] at bt
  have eF : decide ((el t 1).n % 2 = 1) = fragT t := by unfold fragT fragB; rw [an1]
  rw [eF] at bt
  have w2 : IntKind.i64.wrap (el t 2).n = (el t 2).n := wrap_i64 (by omega) (by omega)
  simp (disch := first | omega | assumption) [n2]
  apply Xc_regf
  simp (disch := first | omega | assumption) [tc, vl, e0, e1, e2, e7, c0, c1, cl, fz, w2]
  simp (disch := first | omega | assumption) [tc, flagsIn, flagP, evOp, vl, e0, e1, e2, e7, c0, c1, cl]
  have pr : Pre10 t := ⟨k4, by omega, d0, d1, d2, d7, n0, by omega⟩
  cases hF : fragT t with
  | false =>
    rw [hF] at bt
    rw [Xp_run bt (by simp) rfl (by simp)]
    simp (disch := first | omega | assumption)
    exact tail10 t hw ok hr pr 0 0 (by rw [hF]; rfl) (by rw [hF]; rfl) 8 (by unfold mny8; rw [hF]; rfl) (fun h => by rw [hF] at h; cases h) _ (.inr rfl)
  | true =>
    rw [hF] at bt
    rw [Xp_run bt (by simp) rfl (by simp)]
    simp (disch := first | omega | assumption) [tc, vl]
    have m8 : mny8 t = 10 := by unfold mny8; rw [hF]; rfl
    by_cases l10 : t.l.length < 10
    · have : ¬ shpP t := fun h => by have := h.2.2.2.2; rw [eL, m8] at this; split at this <;> omega
      unfold getPS
      rw [if_neg this]
      have l10' : (t.l.length : Int) < 10 := by omega
      simp (disch := first | omega | assumption) [l10, l10', zP, PP.v]
    have l10' : ¬ (t.l.length : Int) < 10 := by omega
    have e8 := el_at t 8 k4 (by omega)
    have e9 := el_at t 9 k4 (by omega)
    simp (disch := first | omega | assumption) [l10', vl, e8, cl, fz, num10_p]
    by_cases d8' : (el t 8).k ≠ 0
    · have : ¬ shpP t := fun h => d8' (h.1.2.2.2.2.1 hF).1
      unfold getPS
      rw [if_neg this]
      simp (disch := first | omega | assumption) [d8', zP, PP.v]
    have d8 : (el t 8).k = 0 := by omega
    simp (disch := first | omega | assumption) [d8, vl, e9, cl, fz, num10_p]
    by_cases d9' : (el t 9).k ≠ 0
    · have : ¬ shpP t := fun h => d9' (h.1.2.2.2.2.1 hF).2
      unfold getPS
      rw [if_neg this]
      simp (disch := first | omega | assumption) [d9', zP, PP.v]
    have d9 : (el t 9).k = 0 := by omega
    simp (disch := first | omega | assumption) [d9, vl, e8, e9, c1, cl]
    exact tail10 t hw ok hr pr (el t 8).n (el t 9).n (by rw [hF, if_pos rfl]; unfold asN; rw [if_pos d8]) (by rw [hF, if_pos rfl]; unfold asN; rw [if_pos d9]) 10 m8 (fun _ => ⟨d8, d9⟩) _ (.inl rfl)
theorem GetsP_run (t : T6) (hw : t.w ≤ 1048576) (ok : t.ok) : ∃ h', Run T f_law10_PrimaryGets [t.v] [] (.bool true) h' := by
  have ve := v_eq t
  have vh := T6.v_hf t
  have vc : t.v.cells.length = 4 := T6.cells_len t
  have ag : V.agg t.v.cells = t.v := by rw [ve]; rfl
  refine Run.startE t_law10_PrimaryGets ?_
  unfold k_law10_PrimaryGets
  have fz := T6.agg_v t
  have vone : ∀ x ∈ t.v.cells, x.one = true := by rw [ve]; simp
  have sz := fun {ks ops K e h Q d} => Sz_p t (by omega) (ks := ks) (ops := ops) (K := K) (e := e) (h := h) (Q := Q) (d := d)
  simp (disch := first | omega | assumption) [vc, fz, sz, vone]
  by_cases c1 : 10 < dp t
  · simp (disch := first | omega | assumption) [c1, awake10_p]
  simp (disch := first | omega | assumption) [c1]
  by_cases c2 : 100 < cnt t
  · have c2' : (100 : Int) < cnt t := by omega
    simp (disch := first | omega | assumption) [c2, c2', awake10_p]
  have c2' : ¬ (100 : Int) < cnt t := by omega
  have rt := fun {ks ops K e h Q d} => Rt_p t (by omega) (ks := ks) (ops := ops) (K := K) (e := e) (h := h) (Q := Q) (d := d) (lent := false) rfl
  simp (disch := first | omega | assumption) [c2, c2', vc, fz, rt]
  cases hr : rgt t with
  | false => simp (disch := first | omega | assumption) [awake10_p]
  | true =>
    obtain ⟨_, r1⟩ := GetPS_run t hw ok
    obtain ⟨_, r2⟩ := R10Get_run t hw ok hr
    obtain ⟨p, e, eg⟩ := getPS_shape t
    rw [eg] at r1 r2
    unfold PP.v at r1 r2
    simp (disch := first | omega | assumption) [vc, fz, Any_p]
    rw [Xp_run r1 (by simp [anyV_hf]) (by simp) (by simp)]
    simp (disch := first | omega | assumption) [vc, fz]
    rw [Xp_run r2 (by simp [vh]) (by simp) (by simp)]
    simp (disch := first | omega | assumption) [vc, fz, awake10_p]
theorem law_PrimaryGets (x : V) (hx : ∃ vs, x = .agg vs ∧ Row sh6 vs) (hb : V.bulk x ≤ 1048576) : ∃ h', Run T f_law10_PrimaryGets [x] [] (.bool true) h' := by
  obtain ⟨vs, rfl, hr⟩ := hx
  simp only [V.bulk] at hb
  obtain ⟨t, e, h1, h2⟩ := read6 _ vs (Nat.le_refl _) hr
  rw [e]
  exact GetsP_run t (by omega) h1
end Ev
