/- Blocks of any value. Each theorem states its own conditions. -/
import Derived.Test.YtienkohkbihdoaaDoorLBlk6
set_option linter.all false
namespace Ev
open Go
set_option maxRecDepth 10000
attribute [-simp] getElem?_pos getElem?_neg List.drop_one

abbrev nil6 : T6 := .mk 7 0 [] []
/-- The value at a place, nil where there is none. -/
def el (t : T6) (i : Nat) : T6 := if t.k = 4 then (t.l[i]?).getD nil6 else nil6
theorem nil_any : anyV nil6 = .nili := rfl
theorem at_el (t : T6) (i : Nat) : atV t i = anyV (el t i) := by
  unfold el
  by_cases c : t.k = 4
  · rw [if_pos c]
    cases g : t.l[i]? with
    | some x => exact atV_some t i x c (by omega) (by simpa using g)
    | none =>
      have : t.l.length ≤ i := by
        rcases Nat.lt_or_ge i t.l.length with h | h
        · rw [List.getElem?_eq_getElem h] at g; cases g
        · exact h
      rw [atV_none t i (by omega)]; rfl
  · rw [if_neg c, atV_none t i (by omega)]; rfl
theorem el_mem (t : T6) (i : Nat) : el t i = nil6 ∨ el t i ∈ t.l := by
  unfold el
  split
  · cases g : t.l[i]? with
    | some x => exact .inr (List.mem_of_getElem? g)
    | none => exact .inl rfl
  · exact .inl rfl
theorem GetG1_run (t : T6) (i : Nat) (b : Bool) (Z : List V) (g : Heap) : Run T f_block_Get_1 [.int .i64 i, .ptr 0 0, .ptr 2 0] (some [anyV t] :: some Z :: some [.bool b] :: g) (.int .u64 (asN (el t i))) (some [anyV t] :: some Z :: some [.bool (b && decide ((el t i).k = 0))] :: g) := by
  refine Run.start t_block_Get_1 ?_
  unfold k_block_Get_1
  have ha := at_el t i
  have r0 : ∀ v, Heap.row (some [anyV t] :: some Z :: some [v] :: g) 0 = some [anyV t] := fun v => rfl
  have r2 : ∀ v, Heap.row (some [anyV t] :: some Z :: some [v] :: g) 2 = some [v] := fun v => rfl
  cases b with
  | true => simp (disch := omega) [At_p, ha, Uint_p, r0, r2]
  | false => simp (disch := omega) [At_p, ha, Uint_p, r0, r2]
theorem gG1 (t : T6) (z : Int) (i : Nat) (hz : z = i) (b : Bool) (Z : List V) (g : Heap) {ks : List Kt} {ops : List AOpr} {K : Kp} {e : Env} {Q : Ex → Env → Heap → Prop} {d : Nat} : Xf T f_block_Get_1 (some [.int .i64 z, .ptr 0 0, .ptr 2 0]) (some [anyV t] :: some Z :: some [.bool b] :: g) (some d) ops K ks e Q = Xo T ops K ks ((d, .int .u64 (asN (el t i))) :: e) (some [anyV t] :: some Z :: some [.bool (b && decide ((el t i).k = 0))] :: g) Q :=
  hz ▸ Xf_run (GetG1_run t i b Z g)
/-- Has a value a block's shape? -/
def manyN (t : T6) : Int := if 0 < asN (el t 3) then 6 else 5
def shp1 (t : T6) : Prop := (((((el t 0).k = 0 ∧ (el t 1).k = 0) ∧ (el t 2).k = 0) ∧ (el t 3).k = 0) ∧ (el t 4).k = 2) ∧ asN (el t 3) ≤ 2 ∧ ((asL t).length : Int) = manyN t
def zblk : V := blkV 0 0 0 0 []
theorem zblk_eq : zblk = .agg [.int .u64 0, .int .u64 0, .int .u64 0, .int .i64 0, .str []] := rfl
theorem el_w (t : T6) (i : Nat) (hw : t.w ≤ 4194304) : (el t i).w ≤ 4194304 := by
  rcases el_mem t i with h | h
  · rw [h]; decide
  · have := T6.ws_mem h
    have := T6.lt_ws t
    omega
theorem el_n (t : T6) (i : Nat) (ok : t.ok) : 0 ≤ asN (el t i) ∧ asN (el t i) ≤ 18446744073709551615 := by
  rcases el_mem t i with h | h
  · rw [h]; decide
  · have : T6.oks t.l := by cases t; exact ok.2.2.2
    have o := T6.oks_mem this h
    generalize el t i = x at *
    obtain ⟨k, n, s, l⟩ := x
    have := o.2.1
    unfold asN
    split
    · exact ⟨this.1, this.2⟩
    · omega
def chkV (t : T6) : V := if chkS (asN (el t 1)) (asN (el t 3)) (asB (el t 4)) = 0 then .tup [blkV (asN (el t 0)) (asN (el t 1)) (asN (el t 2)) (asN (el t 3)) (asB (el t 4)), .int .i64 0]
  else .tup [zblk, .int .i64 (chkS (asN (el t 1)) (asN (el t 3)) (asB (el t 4)))]
/-- What block.Get answers, if block.Open answers j and e. -/
noncomputable def getV (t : T6) (j e : Int) : V := open Classical in if shp1 t then (if 0 < asN (el t 3) then (if (el t 5).k = 2 then (if e = 0 ∧ j = asN (el t 3) then chkV t else .tup [zblk, .int .i64 7]) else .tup [zblk, .int .i64 18]) else chkV t) else .tup [zblk, .int .i64 18]
theorem zblk_hf : V.hf zblk = true := by simp [zblk, blkV]
theorem chkV_hf (t : T6) : V.hf (chkV t) = true := by
  unfold chkV
  split <;> simp [blk_hf, zblk_hf]
theorem getV_hf (t : T6) (j e : Int) : V.hf (getV t j e) = true := by
  unfold getV
  (repeat' split) <;> first | exact chkV_hf t | simp [zblk_hf]
theorem GetG_run (t : T6) (hw : t.w ≤ 4194304) (ok : t.ok) (L : List V) (j eO : Int) (hO : Heap) (hL : V.hfs L = true) (rO : shp1 t → 0 < asN (el t 3) → (el t 5).k = 2 → Run T f_block_Open [anyV t] [] (.tup [.ps 1 L, .int .i64 j, .int .i64 eO]) hO) : ∃ h', Run T f_block_Get [anyV t] [] (getV t j eO) h' := by
  have n0 := fun {ks ops K e Q d} b Z g => gG1 (ks := ks) (ops := ops) (K := K) (e := e) (Q := Q) (d := d) t 0 0 rfl b Z g
  have n1 := fun {ks ops K e Q d} b Z g => gG1 (ks := ks) (ops := ops) (K := K) (e := e) (Q := Q) (d := d) t 1 1 rfl b Z g
  have n2 := fun {ks ops K e Q d} b Z g => gG1 (ks := ks) (ops := ops) (K := K) (e := e) (Q := Q) (d := d) t 2 2 rfl b Z g
  have n3 := fun {ks ops K e Q d} b Z g => gG1 (ks := ks) (ops := ops) (K := K) (e := e) (Q := Q) (d := d) t 3 3 rfl b Z g
  have pA := fun {ks ops K e h Q d} i => At_p (ks := ks) (ops := ops) (K := K) (e := e) (h := h) (Q := Q) (d := d) t i
  have pl := fun {ks ops K e h Q d} => List_p (ks := ks) (ops := ops) (K := K) (e := e) (h := h) (Q := Q) (d := d) t hw
  have pB := fun {ks ops K e h Q d} => Bytes_p (ks := ks) (ops := ops) (K := K) (e := e) (h := h) (Q := Q) (d := d) (el t 4) (el_w t 4 hw)
  have pB5 := fun {ks ops K e h Q d} => Bytes_p (ks := ks) (ops := ops) (K := K) (e := e) (h := h) (Q := Q) (d := d) (el t 5) (el_w t 5 hw)
  have a4 : atV t 4 = anyV (el t 4) := at_el t 4
  have hf : T.free f_block_Get_1 = true := rfl
  have any1 := anyV_one t
  have anyc := anyV_cells t
  have anyh := anyV_hf t
  have any5 := anyV_one (el t 5)
  have anyc5 := anyV_cells (el t 5)
  obtain ⟨x0, x1⟩ := el_n t 3 ok
  have alen : (anys (asL t)).length = (asL t).length := anys_len _
  have a5 : shp1 t → 0 < asN (el t 3) → (anys (asL t))[5]? = some (anyV (el t 5)) := fun hs hp => by
    have hl := hs.2.2
    unfold manyN at hl
    rw [if_pos hp] at hl
    have h4 : t.k = 4 := by
      rcases Decidable.em (t.k = 4) with c | c
      · exact c
      · simp [asL, c] at hl
    have e5 : asL t = t.l := by simp [asL, h4]
    rw [e5] at hl ⊢
    have g := List.getElem?_eq_getElem (l := t.l) (i := 5) (by omega)
    rw [anys_get, el, if_pos h4, g]
    rfl
  obtain ⟨hC, rC⟩ := Check_run (asN (el t 0)) (asN (el t 1)) (asN (el t 2)) (asN (el t 3)) (asB (el t 4)) []
  unfold getV chkV
  have hs1 : shp1 t ↔ ((((decide ((el t 0).k = 0) && decide ((el t 1).k = 0)) && decide ((el t 2).k = 0)) && decide ((el t 3).k = 0)) = true ∧ decide ((el t 4).k = 2) = true) ∧ asN (el t 3) ≤ 2 ∧ ((asL t).length : Int) = if 0 < asN (el t 3) then 6 else 5 := by
    unfold shp1 manyN; simp
  generalize anys (asL t) = A at *
  generalize anyV t = X at *
  generalize anyV (el t 4) = Y at *
  generalize anyV (el t 5) = Y5 at *
  generalize asN (el t 0) = N0 at *
  generalize asN (el t 1) = N1 at *
  generalize asN (el t 2) = N2 at *
  generalize asN (el t 3) = N3 at *
  generalize asB (el t 4) = B at *
  generalize (asL t).length = AL at *
  generalize decide ((el t 0).k = 0) = D0 at *
  generalize decide ((el t 1).k = 0) = D1 at *
  generalize decide ((el t 2).k = 0) = D2 at *
  generalize decide ((el t 3).k = 0) = D3 at *
  generalize decide ((el t 4).k = 2) = D4 at *
  generalize chkS N1 N3 B = CH at *
  refine Run.startE t_block_Get ?_
  unfold k_block_Get
  simp (disch := first | omega | assumption) [any1, anyc, n0, n1, n2, n3, pA, a4, pB]
  generalize (D0 && D1 && D2 && D3) = R at *
  by_cases hs : shp1 t
  · rw [if_pos hs]
    obtain ⟨⟨rfl, rfl⟩, hk2, hln⟩ := hs1.1 hs
    by_cases c : 0 < N3
    · rw [if_pos c] at hln ⊢
      have hA : (A.length : Int) = 6 := by omega
      have hA' : A.length = 6 := by omega
      have k2 : ¬ (2 < N3) := by omega
      have a5' := a5 hs c
      simp (disch := first | omega | assumption) [c, pl, hA, hA', k2, bys_back]
      apply Xc_regf
      simp (disch := first | omega | assumption) [bys_back]
      simp (disch := first | omega | assumption) [flagsIn, flagP, evOp, bys_back, c, a5', anyc5, any5, pB5]
      by_cases k5 : (el t 5).k = 2
      · rw [if_pos k5]
        simp (disch := first | omega | assumption) [k5]
        rw [Xp_run (rO hs c k5) (by simp [anyh]) (by simp [hL]) (by simp)]
        by_cases he : eO = 0
        · by_cases hj : j = N3
          · rw [if_pos ⟨he, hj⟩]
            simp (disch := first | omega | assumption) [he, hj]
            simp only [blk_fold]
            rw [Xp_run rC (by simp [blk_hf]) (by simp) (by simp)]
            by_cases hc : CH = 0
            · simp (disch := first | omega | assumption) [hc, blkV]
            · simp (disch := first | omega | assumption) [hc, blkV, zblk]
          · rw [if_neg (fun k => hj k.2)]
            simp (disch := first | omega | assumption) [he, hj, zblk, blkV]
        · rw [if_neg (fun k => he k.1)]
          simp (disch := first | omega | assumption) [he, zblk, blkV]
      · rw [if_neg k5]
        simp (disch := first | omega | assumption) [k5, zblk, blkV]
    · rw [if_neg c] at hln ⊢
      have hA : (A.length : Int) = 5 := by omega
      have hA' : A.length = 5 := by omega
      have k2 : ¬ (2 < N3) := by omega
      simp (disch := first | omega | assumption) [c, pl, hA, hA', k2, bys_back]
      apply Xc_regf
      simp (disch := first | omega | assumption) [bys_back]
      simp (disch := first | omega | assumption) [flagsIn, flagP, evOp, bys_back, c]
      simp only [blk_fold]
      rw [Xp_run rC (by simp [blk_hf]) (by simp) (by simp)]
      by_cases hc : CH = 0
      · simp (disch := first | omega | assumption) [hc, blkV]
      · simp (disch := first | omega | assumption) [hc, blkV, zblk]
  · rw [if_neg hs]
    rw [hs1] at hs
    by_cases c : 0 < N3
    · rw [if_pos c] at hs
      simp (disch := first | omega | assumption) [c, pl]
      cases R with
      | false => simp (disch := first | omega | assumption) [zblk, blkV]
      | true =>
        cases D4 with
        | false => simp (disch := first | omega | assumption) [zblk, blkV]
        | true =>
          by_cases k2 : 2 < N3
          · simp (disch := first | omega | assumption) [k2, zblk, blkV]
          · have hA : ¬ ((A.length : Int) = 6) := fun k => hs ⟨⟨rfl, rfl⟩, by omega, by omega⟩
            have hA' : ¬ (A.length = 6) := by omega
            simp (disch := first | omega | assumption) [k2, hA, hA', zblk, blkV]
    · rw [if_neg c] at hs
      simp (disch := first | omega | assumption) [c, pl]
      cases R with
      | false => simp (disch := first | omega | assumption) [zblk, blkV]
      | true =>
        cases D4 with
        | false => simp (disch := first | omega | assumption) [zblk, blkV]
        | true =>
          by_cases k2 : 2 < N3
          · simp (disch := first | omega | assumption) [k2, zblk, blkV]
          · have hA : ¬ ((A.length : Int) = 5) := fun k => hs ⟨⟨rfl, rfl⟩, by omega, by omega⟩
            have hA' : ¬ (A.length = 5) := by omega
            simp (disch := first | omega | assumption) [k2, hA, hA', zblk, blkV]
end Ev
