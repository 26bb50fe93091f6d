/- First blocks read: the parts. First blocks read. First blocks read: what the sum says. The law PrimaryPuts: the bytes of any first block, or what is wrong; read it is that block. The law PrimaryPuts: the bytes of any first block, or what is wrong; read it is that block. Bundles: their cells; whether they are light. Bundles: numbers that are unlike; what is wrong with a bundle. Bundles: what is wrong with one, told by the program. Bundles: what is wrong with one, as the document says. Bundles: the program and the document tell the same. Bundles: the same ones are told to be the same; a block added. Bundles: the least number that no block has; a block added. A block added to a bundle. The law BundleAdds: any block added to any bundle. The law BundleAdds: a bundle and a block, read out of what is handed over. Bundles laid. Bundles read: the blocks behind the first one. Bundles read: the blocks behind the first one, one by one. Each theorem states its own conditions. -/
import Derived.Test.YtienkohkbihdoaaGreatDoorBCode
import Derived.Test.YtienkohkbihdoaaGreatDoorBR9
set_option linter.all false
namespace Ev
open Go
set_option maxRecDepth 10000
attribute [-simp] getElem?_pos getElem?_neg List.drop_one
def stOk (x : T6) : Prop := x.k = 4 ∧ x.l.length = 2 ∧ (el x 0).k = 0 ∧ (el x 1).k = 0
instance (x : T6) : Decidable (stOk x) := by unfold stOk; infer_instance
def stV (x : T6) : V := if stOk x then .tup [.agg [.int .u64 (asN (el x 0)), .int .u64 (asN (el x 1))], .int .i64 0] else .tup [.agg [.int .u64 0, .int .u64 0], .int .i64 18]
theorem stampOf1_run (x : T6) (i : Nat) (z : Int) (hz : z = i) (A : List V) (hA : A[i]? = some (anyV x)) (b : Bool) (Z : List V) (g : Heap) : Run T f_stamp_Of_1 [.int .i64 z, .ptr 1 0, .ptr 2 0] (some Z :: some [.ps 1 A] :: some [.bool b] :: g) (.int .u64 (asN x)) (some Z :: some [.ps 1 A] :: some [.bool (b && decide (x.k = 0))] :: g) := by
  subst hz
  refine Run.start t_stamp_Of_1 ?_
  unfold k_stamp_Of_1
  have r0 : ∀ v, Heap.row (some Z :: some [.ps 1 A] :: some [v] :: g) 1 = some [.ps 1 A] := fun v => rfl
  have r2 : ∀ v, Heap.row (some Z :: some [.ps 1 A] :: some [v] :: g) 2 = some [v] := fun v => rfl
  have xc := anyV_cells x
  have xo := anyV_one x
  cases b with
  | true => simp (disch := omega) [Uint_p, r0, r2, hA, xc, xo]
  | false => simp (disch := omega) [Uint_p, r0, r2, hA, xc, xo]
theorem stampOf_run (x : T6) (hw : x.w ≤ 4194304) : ∃ h', Run T f_stamp_Of [anyV x] [] (stV x) h' := by
  refine Run.startE t_stamp_Of ?_
  unfold k_stamp_Of stV
  have pl := fun {ks ops K e h Q d} => List_p (ks := ks) (ops := ops) (K := K) (e := e) (h := h) (Q := Q) (d := d) x hw
  have al := anys_len (asL x)
  have hf : T.free f_stamp_Of_1 = true := rfl
  have eL : x.k = 4 → asL x = x.l := fun k4 => by simp [asL, k4]
  have g0 : x.k = 4 → x.l.length = 2 → (anys (asL x))[0]? = some (anyV (el x 0)) := fun k4 l2 => by
    rw [eL k4, anys_get, el, if_pos k4, List.getElem?_eq_getElem (by omega)]; rfl
  have g1 : x.k = 4 → x.l.length = 2 → (anys (asL x))[1]? = some (anyV (el x 1)) := fun k4 l2 => by
    rw [eL k4, anys_get, el, if_pos k4, List.getElem?_eq_getElem (by omega)]; rfl
  generalize anys (asL x) = A at *
  by_cases k4 : x.k = 4
  · rw [eL k4] at al
    by_cases l2 : x.l.length = 2
    · have l2' : (A.length : Int) = 2 := by omega
      have l3' : A.length = 2 := by omega
      have p0 := fun {ks ops K e Q d} b Z g => Xf_run (ks := ks) (ops := ops) (K := K) (e := e) (Q := Q) (d := d) (stampOf1_run (el x 0) 0 0 rfl A (g0 k4 l2) b Z g)
      have p1 := fun {ks ops K e Q d} b Z g => Xf_run (ks := ks) (ops := ops) (K := K) (e := e) (Q := Q) (d := d) (stampOf1_run (el x 1) 1 1 rfl A (g1 k4 l2) b Z g)
      by_cases d0 : (el x 0).k = 0
      · by_cases d1 : (el x 1).k = 0
        · rw [if_pos (show stOk x from ⟨k4, l2, d0, d1⟩)]
          simp (disch := first | omega | assumption) [pl, k4, l2, l2', l3', p0, p1, d0, d1]
        · rw [if_neg (fun k : stOk x => d1 k.2.2.2)]
          simp (disch := first | omega | assumption) [pl, k4, l2, l2', l3', p0, p1, d0, d1]
      · rw [if_neg (fun k : stOk x => d0 k.2.2.1)]
        simp (disch := first | omega | assumption) [pl, k4, l2, l2', l3', p0, p1, d0]
    · have l2' : ¬ (A.length : Int) = 2 := by omega
      have l3' : ¬ A.length = 2 := by omega
      rw [if_neg (fun k : stOk x => l2 k.2.1)]
      simp (disch := first | omega | assumption) [pl, k4, l2, l2', l3']
  · rw [if_neg (fun k : stOk x => k4 k.1)]
    simp (disch := first | omega | assumption) [pl, k4]
def stE (x : T6) : Int := if stOk x then 0 else 18
def st1 (x : T6) : Int := if stOk x then asN (el x 0) else 0
def st2 (x : T6) : Int := if stOk x then asN (el x 1) else 0
theorem stV_eq (x : T6) : stV x = .tup [.agg [.int .u64 (st1 x), .int .u64 (st2 x)], .int .i64 (stE x)] := by
  unfold stV stE st1 st2
  split <;> rfl
theorem stV_hf (x : T6) : V.hf (stV x) = true := by unfold stV; split <;> simp
theorem rn_run (t : T6) (i : Nat) (z : Int) (hz : z = i) (b : Bool) (e : Int) (Z : List V) (g : Heap) : Run T f_primary_reader_n [.ptr 1 0, .int .i64 z] (some Z :: some [anyV t, .bool b, .int .i64 e] :: g) (.int .u64 (asN (el t i))) (some Z :: some [anyV t, .bool (b || !decide ((el t i).k = 0)), .int .i64 e] :: g) := by
  subst hz
  refine Run.start t_primary_reader_n ?_
  unfold k_primary_reader_n
  have ha := at_el t i
  have r0 : ∀ x, Heap.row (some Z :: some x :: g) 1 = some x := fun v => rfl
  have s0 : ∀ x y, List.set (some Z :: some x :: g) 1 y = some Z :: y :: g := fun x y => rfl
  cases b with
  | true => simp (disch := omega) [At_p, ha, Uint_p, r0, s0]
  | false => simp (disch := omega) [At_p, ha, Uint_p, r0, s0]
theorem rname_run (t : T6) (hw : t.w ≤ 4194304) (i : Nat) (z : Int) (hz : z = i) (b : Bool) (e : Int) (Z : List V) (g : Heap) : Run T f_primary_reader_name [.ptr 1 0, .int .i64 z] (some Z :: some [anyV t, .bool b, .int .i64 e] :: g) (ofE (el t i)).1.v (some Z :: some [anyV t, .bool b, .int .i64 (if e = 0 then (ofE (el t i)).2 else e)] :: g ++ [some (ofE (el t i)).1.cells, some (ofE (el t i)).1.cells]) := by
  subst hz
  refine Run.start t_primary_reader_name ?_
  unfold k_primary_reader_name
  have ha := at_el t i
  have ah := anyV_hf (el t i)
  obtain ⟨_, rO⟩ := eidOf_run (el t i) (el_w t i hw)
  have oh := ofV_hf (el t i)
  rw [ofV_eq] at rO oh
  have r0 : ∀ x (g : Heap), Heap.row (some Z :: some x :: g) 1 = some x := fun v g => rfl
  have s0 : ∀ x y (g : Heap), List.set (some Z :: some x :: g) 1 y = some Z :: y :: g := fun x y g => rfl
  generalize (ofE (el t i)).1 = E at *
  generalize (ofE (el t i)).2 = er at *
  simp (disch := omega) [At_p, ha, r0, s0]
  rw [Xp_run rO (by simp [ah]) oh (by simp)]
  simp (disch := omega) [E4.v, eidV, r0, s0]
  by_cases c : e = 0
  · simp (disch := omega) [c, r0, s0, E4.cells]
  · simp (disch := omega) [c, r0, s0, E4.cells]
def fragT (t : T6) : Bool := fragB (asN (el t 1))
def kdT (t : T6) : Int := asN (el t 2)
def mny8 (t : T6) : Nat := if fragT t then 10 else 8
def typT (t : T6) : Prop := (el t 0).k = 0 ∧ (el t 1).k = 0 ∧ (el t 2).k = 0 ∧ (el t 7).k = 0 ∧ (fragT t = true → (el t 8).k = 0 ∧ (el t 9).k = 0) ∧ (0 < kdT t → (el t (mny8 t)).k = 2)
def shpP (t : T6) : Prop := typT t ∧ stOk (el t 6) ∧ asN (el t 0) = 7 ∧ kdT t ≤ 2 ∧ ((asL t).length : Int) = mny8 t + (if 0 < kdT t then 1 else 0)
/-- The first block of a value that has its shape. -/
def pOf (t : T6) : PP := ⟨asN (el t 1), kdT t, (ofE (el t 3)).1, (ofE (el t 4)).1, (ofE (el t 5)).1, st1 (el t 6), st2 (el t 6), asN (el t 7), if fragT t then asN (el t 8) else 0, if fragT t then asN (el t 9) else 0⟩
def errT (t : T6) : Int := if (ofE (el t 3)).2 = 0 then (if (ofE (el t 4)).2 = 0 then (ofE (el t 5)).2 else (ofE (el t 4)).2) else (ofE (el t 3)).2
def zP : V := PP.v ⟨0, 0, ⟨0, [], 0, 0⟩, ⟨0, [], 0, 0⟩, ⟨0, [], 0, 0⟩, 0, 0, 0, 0, 0⟩
def chkPV (t : T6) : V := if chkP (pOf t) = 0 then .tup [(pOf t).v, .int .i64 0] else .tup [zP, .int .i64 (chkP (pOf t))]
noncomputable def getPV (t : T6) (j e : Int) : V := open Classical in
  if shpP t then (if errT t = 0 then (if 0 < kdT t ∧ ¬ (e = 0 ∧ j = kdT t) then .tup [zP, .int .i64 7] else chkPV t) else .tup [zP, .int .i64 (errT t)]) else .tup [zP, .int .i64 18]
theorem stE0 {x : T6} (h : stE x = 0) : stOk x := by
  unfold stE at h
  split at h
  · assumption
  · cases h
theorem stE1 {x : T6} (h : stOk x) : stE x = 0 := if_pos h
theorem errEq (a b c : Int) : (if (if a = 0 then b else a) = 0 then c else (if a = 0 then b else a)) = if a = 0 then (if b = 0 then c else b) else a := by
  by_cases h : a = 0
  · simp [h]
  · simp [h]
theorem PPB.ok {p : PP} (b : PPB p) : PPok p where
  f0 := b.fl.1
  f1 := b.fl.2
  o0 := b.off.1
  t0 := b.tot.1
  n1 := b.d.len
  n2 := b.s.len
  n3 := b.r.len
theorem pOf_B {t : T6} (ok : t.ok) (hs : shpP t) (e : errT t = 0) : PPB (pOf t) := by
  have n1 := el_n t 1 ok
  have n2 := el_n t 2 ok
  have n7 := el_n t 7 ok
  have n8 := el_n t 8 ok
  have n9 := el_n t 9 ok
  have s0 := el_n (el t 6) 0 (el_ok t 6 ok)
  have s1 := el_n (el t 6) 1 (el_ok t 6 ok)
  have k2 := hs.2.2.2.1
  have eS1 : st1 (el t 6) = asN (el (el t 6) 0) := if_pos hs.2.1
  have eS2 : st2 (el t 6) = asN (el (el t 6) 1) := if_pos hs.2.1
  have e1 : (ofE (el t 3)).2 = 0 ∧ (ofE (el t 4)).2 = 0 ∧ (ofE (el t 5)).2 = 0 := by
    unfold errT at e
    by_cases a : (ofE (el t 3)).2 = 0
    · rw [if_pos a] at e
      by_cases b : (ofE (el t 4)).2 = 0
      · rw [if_pos b] at e; exact ⟨a, b, e⟩
      · rw [if_neg b] at e; exact absurd e b
    · rw [if_neg a] at e; exact absurd e a
  exact ⟨n1, n2.1, k2, (ofE_spec _ (el_ok t 3 ok) e1.1).1, (ofE_spec _ (el_ok t 4 ok) e1.2.1).1, (ofE_spec _ (el_ok t 5 ok) e1.2.2).1, by show u64B (st1 (el t 6)); rw [eS1]; exact s0, by show u64B (st2 (el t 6)); rw [eS2]; exact s1, n7,
    by show u64B (if fragT t then asN (el t 8) else 0); split; exact n8; exact u0, by show u64B (if fragT t then asN (el t 9) else 0); split; exact n9; exact u0⟩
theorem GetPG_run (t : T6) (hw : t.w ≤ 1048576) (ok : t.ok) (L : List V) (j eO : Int) (hO : Heap) (hL : V.hfs L = true) (rO : shpP t → errT t = 0 → 0 < kdT t → Run T f_block_Open [anyV t] [] (.tup [.ps 1 L, .int .i64 j, .int .i64 eO]) hO) : ∃ h', Run T f_primary_Get [anyV t] [] (getPV t j eO) h' := by
  have n0 := fun {ks ops K e Q d} b er Z g => Xf_run (ks := ks) (ops := ops) (K := K) (e := e) (Q := Q) (d := d) (rn_run t 0 0 rfl b er Z g)
  have n1 := fun {ks ops K e Q d} b er Z g => Xf_run (ks := ks) (ops := ops) (K := K) (e := e) (Q := Q) (d := d) (rn_run t 1 1 rfl b er Z g)
  have n2 := fun {ks ops K e Q d} b er Z g => Xf_run (ks := ks) (ops := ops) (K := K) (e := e) (Q := Q) (d := d) (rn_run t 2 2 rfl b er Z g)
  have n7 := fun {ks ops K e Q d} b er Z g => Xf_run (ks := ks) (ops := ops) (K := K) (e := e) (Q := Q) (d := d) (rn_run t 7 7 rfl b er Z g)
  have n8 := fun {ks ops K e Q d} b er Z g => Xf_run (ks := ks) (ops := ops) (K := K) (e := e) (Q := Q) (d := d) (rn_run t 8 8 rfl b er Z g)
  have n9 := fun {ks ops K e Q d} b er Z g => Xf_run (ks := ks) (ops := ops) (K := K) (e := e) (Q := Q) (d := d) (rn_run t 9 9 rfl b er Z g)
  have m3 := fun {ks ops K e Q d} b er Z g => Xf_run (ks := ks) (ops := ops) (K := K) (e := e) (Q := Q) (d := d) (rname_run t (by omega) 3 3 rfl b er Z g)
  have m4 := fun {ks ops K e Q d} b er Z g => Xf_run (ks := ks) (ops := ops) (K := K) (e := e) (Q := Q) (d := d) (rname_run t (by omega) 4 4 rfl b er Z g)
  have m5 := fun {ks ops K e Q d} b er Z g => Xf_run (ks := ks) (ops := ops) (K := K) (e := e) (Q := Q) (d := d) (rname_run t (by omega) 5 5 rfl b er Z g)
  have pA := fun {ks ops K e h Q d} i => At_p (ks := ks) (ops := ops) (K := K) (e := e) (h := h) (Q := Q) (d := d) t i
  have pl := fun {ks ops K e h Q d} => List_p (ks := ks) (ops := ops) (K := K) (e := e) (h := h) (Q := Q) (d := d) t (by omega)
  have pB8 := fun {ks ops K e h Q d} => Bytes_p (ks := ks) (ops := ops) (K := K) (e := e) (h := h) (Q := Q) (d := d) (el t 8) (el_w t 8 (by omega))
  have pB10 := fun {ks ops K e h Q d} => Bytes_p (ks := ks) (ops := ops) (K := K) (e := e) (h := h) (Q := Q) (d := d) (el t 10) (el_w t 10 (by omega))
  have a6 : atV t 6 = anyV (el t 6) := at_el t 6
  have a8 : atV t 8 = anyV (el t 8) := at_el t 8
  have a10 : atV t 10 = anyV (el t 10) := at_el t 10
  obtain ⟨_, rS⟩ := stampOf_run (el t 6) (el_w t 6 (by omega))
  have hS := stV_hf (el t 6)
  rw [stV_eq] at rS hS
  have h6 := anyV_hf (el t 6)
  have pS := fun {ks ops K e h Q d} => Xp_run (b := false) (ks := ks) (ops := ops) (K := K) (e := e) (h := h) (Q := Q) (d := d) rS (by simp [h6]) hS (by simp)
  have any1 := anyV_one t
  have anyc := anyV_cells t
  have anyh := anyV_hf t
  obtain ⟨f0, f1⟩ := el_n t 1 ok
  obtain ⟨k0, k1⟩ := el_n t 2 ok
  have o1 := op_and1 .int (asN (el t 1)) f0 f1
  have alen : (anys (asL t)).length = (asL t).length := anys_len _
  refine Run.startE t_primary_Get ?_
  unfold k_primary_Get
  simp (disch := first | omega | assumption) [any1, anyc, n0, n1, n2, n7, pl, o1]
  cases hF : fragB (asN (el t 1)) with
  | false =>
    rw [hF] at o1
    have hP : (pOf t).v = .agg [.int .u64 (asN (el t 1)), .int .i64 (asN (el t 2)), .int .i64 (ofE (el t 3)).1.sc, .str (ofE (el t 3)).1.nm, .int .u64 (ofE (el t 3)).1.nd, .int .u64 (ofE (el t 3)).1.sv, .int .i64 (ofE (el t 4)).1.sc, .str (ofE (el t 4)).1.nm, .int .u64 (ofE (el t 4)).1.nd, .int .u64 (ofE (el t 4)).1.sv, .int .i64 (ofE (el t 5)).1.sc, .str (ofE (el t 5)).1.nm, .int .u64 (ofE (el t 5)).1.nd, .int .u64 (ofE (el t 5)).1.sv, .int .u64 (st1 (el t 6)), .int .u64 (st2 (el t 6)), .int .u64 (asN (el t 7)), .int .u64 0, .int .u64 0] := by simp [pOf, PP.v, fragT, hF, kdT]
    have m8 : mny8 t = 8 := by unfold mny8 fragT; rw [hF]; rfl
    generalize hTB : (!decide ((el t 0).k = 0) || !decide ((el t 1).k = 0) || !decide ((el t 2).k = 0) || !decide ((el t 7).k = 0)) = TB
    cases TB with
    | true =>
      have hs : ¬ shpP t := fun k => by
        obtain ⟨⟨q0, q1, q2, q7, _⟩, _⟩ := k
        simp [q0, q1, q2, q7] at hTB
      rw [show getPV t j eO = .tup [zP, .int .i64 18] from if_neg hs]
      by_cases c : 0 < asN (el t 2)
      · simp (disch := first | omega | assumption) [c, pA, a8, pB8, a6, pS, zP, PP.v]
      · simp (disch := first | omega | assumption) [c, pA, a6, pS, zP, PP.v]
    | false =>
      simp only [Bool.or_eq_false_iff, Bool.not_eq_false', decide_eq_true_eq] at hTB
      obtain ⟨⟨⟨q0, q1⟩, q2⟩, q7⟩ := hTB
      by_cases c : 0 < asN (el t 2)
      · simp (disch := first | omega | assumption) [c, pA, a8, pB8]
        by_cases d8 : (el t 8).k = 2
        · simp (disch := first | omega | assumption) [d8]
          by_cases se : stE (el t 6) = 0
          · by_cases b7 : asN (el t 0) = 7
            · by_cases b2 : 2 < asN (el t 2)
              · have hs : ¬ shpP t := fun k => by have := k.2.2.2.1; unfold kdT at this; omega
                rw [show getPV t j eO = .tup [zP, .int .i64 18] from if_neg hs]
                simp (disch := first | omega | assumption) [a6, pS, pA, se, b7, b2, d8, c, zP, PP.v]
              · by_cases bl : ((asL t).length : Int) = 9
                · have hs : shpP t := ⟨⟨q0, q1, q2, q7, fun k => (by unfold fragT at k; rw [hF] at k; cases k), fun _ => by rw [m8]; exact d8⟩, stE0 se, b7, by unfold kdT; omega, by rw [m8, if_pos (show 0 < kdT t from c)]; omega⟩
                  have bl2 : (asL t).length = 9 := by omega
                  simp (disch := first | omega | assumption) [a6, pS, pA, se, b7, b2, bl, bl2, alen, d8, c, m3, m4, m5]
                  simp only [errEq]
                  have hE : errT t = if (ofE (el t 3)).2 = 0 then (if (ofE (el t 4)).2 = 0 then (ofE (el t 5)).2 else (ofE (el t 4)).2) else (ofE (el t 3)).2 := rfl
                  rw [← hE]
                  simp (disch := first | omega | assumption) [E4.v, eidV]
                  by_cases eT : errT t = 0
                  · have hB := pOf_B ok hs eT
                    obtain ⟨_, rC⟩ := CheckP_run (pOf t) hB.ok []
                    rw [hP] at rC
                    simp (disch := first | omega | assumption) [eT, c]
                    rw [Xp_run (rO hs eT c) (by simp [anyh]) (by simp [hL]) (by simp)]
                    by_cases q1 : eO = 0
                    · by_cases q2 : j = asN (el t 2)
                      · rw [show getPV t j eO = chkPV t from by unfold getPV; rw [if_pos hs, if_pos eT, if_neg (fun k => k.2 ⟨q1, q2⟩)]]
                        simp (disch := first | omega | assumption) [q1, q2]
                        rw [Xp_run rC (by simp) rfl (by simp)]
                        unfold chkPV
                        rw [hP]
                        generalize chkP (pOf t) = CH at *
                        by_cases hc : CH = 0
                        · simp (disch := first | omega | assumption) [hc]
                        · simp (disch := first | omega | assumption) [hc, zP, PP.v]
                      · rw [show getPV t j eO = .tup [zP, .int .i64 7] from by unfold getPV; rw [if_pos hs, if_pos eT, if_pos ⟨c, fun k => q2 k.2⟩]]
                        simp (disch := first | omega | assumption) [q1, q2, zP, PP.v]
                    · rw [show getPV t j eO = .tup [zP, .int .i64 7] from by unfold getPV; rw [if_pos hs, if_pos eT, if_pos ⟨c, fun k => q1 k.1⟩]]
                      simp (disch := first | omega | assumption) [q1, zP, PP.v]
                  · rw [show getPV t j eO = .tup [zP, .int .i64 (errT t)] from by unfold getPV; rw [if_pos hs, if_neg eT]]
                    simp (disch := first | omega | assumption) [eT]
                    apply Xc_regf
                    simp (disch := first | omega | assumption)
                    simp (disch := first | omega | assumption) [flagsIn, flagP, evOp, zP, PP.v]
                · have hs : ¬ shpP t := fun k => bl (by have := k.2.2.2.2; rw [m8, if_pos (show 0 < kdT t from c)] at this; omega)
                  have bl2 : ¬ (asL t).length = 9 := by omega
                  rw [show getPV t j eO = .tup [zP, .int .i64 18] from if_neg hs]
                  simp (disch := first | omega | assumption) [a6, pS, pA, se, b7, b2, bl, bl2, alen, d8, c, zP, PP.v]
            · have hs : ¬ shpP t := fun k => b7 k.2.2.1
              rw [show getPV t j eO = .tup [zP, .int .i64 18] from if_neg hs]
              simp (disch := first | omega | assumption) [a6, pS, pA, se, b7, d8, c, zP, PP.v]
          · have hs : ¬ shpP t := fun k => se (stE1 k.2.1)
            rw [show getPV t j eO = .tup [zP, .int .i64 18] from if_neg hs]
            simp (disch := first | omega | assumption) [a6, pS, pA, se, d8, c, zP, PP.v]
        · have hs : ¬ shpP t := fun k => d8 (by have := k.1.2.2.2.2.2 c; rw [m8] at this; exact this)
          rw [show getPV t j eO = .tup [zP, .int .i64 18] from if_neg hs]
          simp (disch := first | omega | assumption) [a6, pS, pA, d8, c, zP, PP.v]
      · simp (disch := first | omega | assumption) [c]
        by_cases se : stE (el t 6) = 0
        · by_cases b7 : asN (el t 0) = 7
          · by_cases b2 : 2 < asN (el t 2)
            · have hs : ¬ shpP t := fun k => by have := k.2.2.2.1; unfold kdT at this; omega
              rw [show getPV t j eO = .tup [zP, .int .i64 18] from if_neg hs]
              simp (disch := first | omega | assumption) [a6, pS, pA, se, b7, b2, c, zP, PP.v]
            · by_cases bl : ((asL t).length : Int) = 8
              · have hs : shpP t := ⟨⟨q0, q1, q2, q7, fun k => (by unfold fragT at k; rw [hF] at k; cases k), fun k => absurd k c⟩, stE0 se, b7, by unfold kdT; omega, by rw [m8, if_neg (show ¬ 0 < kdT t from c)]; omega⟩
                have bl2 : (asL t).length = 8 := by omega
                simp (disch := first | omega | assumption) [a6, pS, pA, se, b7, b2, bl, bl2, alen, c, m3, m4, m5]
                simp only [errEq]
                have hE : errT t = if (ofE (el t 3)).2 = 0 then (if (ofE (el t 4)).2 = 0 then (ofE (el t 5)).2 else (ofE (el t 4)).2) else (ofE (el t 3)).2 := rfl
                rw [← hE]
                simp (disch := first | omega | assumption) [E4.v, eidV]
                by_cases eT : errT t = 0
                · have hB := pOf_B ok hs eT
                  obtain ⟨_, rC⟩ := CheckP_run (pOf t) hB.ok []
                  rw [hP] at rC
                  simp (disch := first | omega | assumption) [eT, c]
                  rw [show getPV t j eO = chkPV t from by unfold getPV; rw [if_pos hs, if_pos eT, if_neg (fun k => c k.1)]]
                  rw [Xp_run rC (by simp) rfl (by simp)]
                  unfold chkPV
                  rw [hP]
                  generalize chkP (pOf t) = CH at *
                  by_cases hc : CH = 0
                  · simp (disch := first | omega | assumption) [hc]
                  · simp (disch := first | omega | assumption) [hc, zP, PP.v]
                · rw [show getPV t j eO = .tup [zP, .int .i64 (errT t)] from by unfold getPV; rw [if_pos hs, if_neg eT]]
                  simp (disch := first | omega | assumption) [eT]
                  apply Xc_regf
                  simp (disch := first | omega | assumption)
                  simp (disch := first | omega | assumption) [flagsIn, flagP, evOp, zP, PP.v]
              · have hs : ¬ shpP t := fun k => bl (by have := k.2.2.2.2; rw [m8, if_neg (show ¬ 0 < kdT t from c)] at this; omega)
                have bl2 : ¬ (asL t).length = 8 := by omega
                rw [show getPV t j eO = .tup [zP, .int .i64 18] from if_neg hs]
                simp (disch := first | omega | assumption) [a6, pS, pA, se, b7, b2, bl, bl2, alen, c, zP, PP.v]
          · have hs : ¬ shpP t := fun k => b7 k.2.2.1
            rw [show getPV t j eO = .tup [zP, .int .i64 18] from if_neg hs]
            simp (disch := first | omega | assumption) [a6, pS, pA, se, b7, c, zP, PP.v]
        · have hs : ¬ shpP t := fun k => se (stE1 k.2.1)
          rw [show getPV t j eO = .tup [zP, .int .i64 18] from if_neg hs]
          simp (disch := first | omega | assumption) [a6, pS, pA, se, c, zP, PP.v]
  | true =>
    rw [hF] at o1
    have hP : (pOf t).v = .agg [.int .u64 (asN (el t 1)), .int .i64 (asN (el t 2)), .int .i64 (ofE (el t 3)).1.sc, .str (ofE (el t 3)).1.nm, .int .u64 (ofE (el t 3)).1.nd, .int .u64 (ofE (el t 3)).1.sv, .int .i64 (ofE (el t 4)).1.sc, .str (ofE (el t 4)).1.nm, .int .u64 (ofE (el t 4)).1.nd, .int .u64 (ofE (el t 4)).1.sv, .int .i64 (ofE (el t 5)).1.sc, .str (ofE (el t 5)).1.nm, .int .u64 (ofE (el t 5)).1.nd, .int .u64 (ofE (el t 5)).1.sv, .int .u64 (st1 (el t 6)), .int .u64 (st2 (el t 6)), .int .u64 (asN (el t 7)), .int .u64 (asN (el t 8)), .int .u64 (asN (el t 9))] := by simp [pOf, PP.v, fragT, hF, kdT]
    have m8 : mny8 t = 10 := by unfold mny8 fragT; rw [hF]; rfl
    simp (disch := first | omega | assumption) [n8, n9]
    generalize hTB : (!decide ((el t 0).k = 0) || !decide ((el t 1).k = 0) || !decide ((el t 2).k = 0) || !decide ((el t 7).k = 0) || !decide ((el t 8).k = 0) || !decide ((el t 9).k = 0)) = TB
    cases TB with
    | true =>
      have hs : ¬ shpP t := fun k => by
        obtain ⟨⟨q0, q1, q2, q7, q89, _⟩, _⟩ := k
        obtain ⟨q8, q9⟩ := q89 hF
        simp [q0, q1, q2, q7, q8, q9] at hTB
      rw [show getPV t j eO = .tup [zP, .int .i64 18] from if_neg hs]
      by_cases c : 0 < asN (el t 2)
      · simp (disch := first | omega | assumption) [c, pA, a10, pB10, a6, pS, zP, PP.v]
      · simp (disch := first | omega | assumption) [c, pA, a6, pS, zP, PP.v]
    | false =>
      simp only [Bool.or_eq_false_iff, Bool.not_eq_false', decide_eq_true_eq] at hTB
      obtain ⟨⟨⟨⟨⟨q0, q1⟩, q2⟩, q7⟩, q8⟩, q9⟩ := hTB
      by_cases c : 0 < asN (el t 2)
      · simp (disch := first | omega | assumption) [c, pA, a10, pB10]
        by_cases d8 : (el t 10).k = 2
        · simp (disch := first | omega | assumption) [d8]
          by_cases se : stE (el t 6) = 0
          · by_cases b7 : asN (el t 0) = 7
            · by_cases b2 : 2 < asN (el t 2)
              · have hs : ¬ shpP t := fun k => by have := k.2.2.2.1; unfold kdT at this; omega
                rw [show getPV t j eO = .tup [zP, .int .i64 18] from if_neg hs]
                simp (disch := first | omega | assumption) [a6, pS, pA, se, b7, b2, d8, c, zP, PP.v]
              · by_cases bl : ((asL t).length : Int) = 11
                · have hs : shpP t := ⟨⟨q0, q1, q2, q7, fun _ => ⟨q8, q9⟩, fun _ => by rw [m8]; exact d8⟩, stE0 se, b7, by unfold kdT; omega, by rw [m8, if_pos (show 0 < kdT t from c)]; omega⟩
                  have bl2 : (asL t).length = 11 := by omega
                  simp (disch := first | omega | assumption) [a6, pS, pA, se, b7, b2, bl, bl2, alen, d8, c, m3, m4, m5]
                  simp only [errEq]
                  have hE : errT t = if (ofE (el t 3)).2 = 0 then (if (ofE (el t 4)).2 = 0 then (ofE (el t 5)).2 else (ofE (el t 4)).2) else (ofE (el t 3)).2 := rfl
                  rw [← hE]
                  simp (disch := first | omega | assumption) [E4.v, eidV]
                  by_cases eT : errT t = 0
                  · have hB := pOf_B ok hs eT
                    obtain ⟨_, rC⟩ := CheckP_run (pOf t) hB.ok []
                    rw [hP] at rC
                    simp (disch := first | omega | assumption) [eT, c]
                    rw [Xp_run (rO hs eT c) (by simp [anyh]) (by simp [hL]) (by simp)]
                    by_cases q1 : eO = 0
                    · by_cases q2 : j = asN (el t 2)
                      · rw [show getPV t j eO = chkPV t from by unfold getPV; rw [if_pos hs, if_pos eT, if_neg (fun k => k.2 ⟨q1, q2⟩)]]
                        simp (disch := first | omega | assumption) [q1, q2]
                        rw [Xp_run rC (by simp) rfl (by simp)]
                        unfold chkPV
                        rw [hP]
                        generalize chkP (pOf t) = CH at *
                        by_cases hc : CH = 0
                        · simp (disch := first | omega | assumption) [hc]
                        · simp (disch := first | omega | assumption) [hc, zP, PP.v]
                      · rw [show getPV t j eO = .tup [zP, .int .i64 7] from by unfold getPV; rw [if_pos hs, if_pos eT, if_pos ⟨c, fun k => q2 k.2⟩]]
                        simp (disch := first | omega | assumption) [q1, q2, zP, PP.v]
                    · rw [show getPV t j eO = .tup [zP, .int .i64 7] from by unfold getPV; rw [if_pos hs, if_pos eT, if_pos ⟨c, fun k => q1 k.1⟩]]
                      simp (disch := first | omega | assumption) [q1, zP, PP.v]
                  · rw [show getPV t j eO = .tup [zP, .int .i64 (errT t)] from by unfold getPV; rw [if_pos hs, if_neg eT]]
                    simp (disch := first | omega | assumption) [eT]
                    apply Xc_regf
                    simp (disch := first | omega | assumption)
                    simp (disch := first | omega | assumption) [flagsIn, flagP, evOp, zP, PP.v]
                · have hs : ¬ shpP t := fun k => bl (by have := k.2.2.2.2; rw [m8, if_pos (show 0 < kdT t from c)] at this; omega)
                  have bl2 : ¬ (asL t).length = 11 := by omega
                  rw [show getPV t j eO = .tup [zP, .int .i64 18] from if_neg hs]
                  simp (disch := first | omega | assumption) [a6, pS, pA, se, b7, b2, bl, bl2, alen, d8, c, zP, PP.v]
            · have hs : ¬ shpP t := fun k => b7 k.2.2.1
              rw [show getPV t j eO = .tup [zP, .int .i64 18] from if_neg hs]
              simp (disch := first | omega | assumption) [a6, pS, pA, se, b7, d8, c, zP, PP.v]
          · have hs : ¬ shpP t := fun k => se (stE1 k.2.1)
            rw [show getPV t j eO = .tup [zP, .int .i64 18] from if_neg hs]
            simp (disch := first | omega | assumption) [a6, pS, pA, se, d8, c, zP, PP.v]
        · have hs : ¬ shpP t := fun k => d8 (by have := k.1.2.2.2.2.2 c; rw [m8] at this; exact this)
          rw [show getPV t j eO = .tup [zP, .int .i64 18] from if_neg hs]
          simp (disch := first | omega | assumption) [a6, pS, pA, d8, c, zP, PP.v]
      · simp (disch := first | omega | assumption) [c]
        by_cases se : stE (el t 6) = 0
        · by_cases b7 : asN (el t 0) = 7
          · by_cases b2 : 2 < asN (el t 2)
            · have hs : ¬ shpP t := fun k => by have := k.2.2.2.1; unfold kdT at this; omega
              rw [show getPV t j eO = .tup [zP, .int .i64 18] from if_neg hs]
              simp (disch := first | omega | assumption) [a6, pS, pA, se, b7, b2, c, zP, PP.v]
            · by_cases bl : ((asL t).length : Int) = 10
              · have hs : shpP t := ⟨⟨q0, q1, q2, q7, fun _ => ⟨q8, q9⟩, fun k => absurd k c⟩, stE0 se, b7, by unfold kdT; omega, by rw [m8, if_neg (show ¬ 0 < kdT t from c)]; omega⟩
                have bl2 : (asL t).length = 10 := by omega
                simp (disch := first | omega | assumption) [a6, pS, pA, se, b7, b2, bl, bl2, alen, c, m3, m4, m5]
                simp only [errEq]
                have hE : errT t = if (ofE (el t 3)).2 = 0 then (if (ofE (el t 4)).2 = 0 then (ofE (el t 5)).2 else (ofE (el t 4)).2) else (ofE (el t 3)).2 := rfl
                rw [← hE]
                simp (disch := first | omega | assumption) [E4.v, eidV]
                by_cases eT : errT t = 0
                · have hB := pOf_B ok hs eT
                  obtain ⟨_, rC⟩ := CheckP_run (pOf t) hB.ok []
                  rw [hP] at rC
                  simp (disch := first | omega | assumption) [eT, c]
                  rw [show getPV t j eO = chkPV t from by unfold getPV; rw [if_pos hs, if_pos eT, if_neg (fun k => c k.1)]]
                  rw [Xp_run rC (by simp) rfl (by simp)]
                  unfold chkPV
                  rw [hP]
                  generalize chkP (pOf t) = CH at *
                  by_cases hc : CH = 0
                  · simp (disch := first | omega | assumption) [hc]
                  · simp (disch := first | omega | assumption) [hc, zP, PP.v]
                · rw [show getPV t j eO = .tup [zP, .int .i64 (errT t)] from by unfold getPV; rw [if_pos hs, if_neg eT]]
                  simp (disch := first | omega | assumption) [eT]
                  apply Xc_regf
                  simp (disch := first | omega | assumption)
                  simp (disch := first | omega | assumption) [flagsIn, flagP, evOp, zP, PP.v]
              · have hs : ¬ shpP t := fun k => bl (by have := k.2.2.2.2; rw [m8, if_neg (show ¬ 0 < kdT t from c)] at this; omega)
                have bl2 : ¬ (asL t).length = 10 := by omega
                rw [show getPV t j eO = .tup [zP, .int .i64 18] from if_neg hs]
                simp (disch := first | omega | assumption) [a6, pS, pA, se, b7, b2, bl, bl2, alen, c, zP, PP.v]
          · have hs : ¬ shpP t := fun k => b7 k.2.2.1
            rw [show getPV t j eO = .tup [zP, .int .i64 18] from if_neg hs]
            simp (disch := first | omega | assumption) [a6, pS, pA, se, b7, c, zP, PP.v]
        · have hs : ¬ shpP t := fun k => se (stE1 k.2.1)
          rw [show getPV t j eO = .tup [zP, .int .i64 18] from if_neg hs]
          simp (disch := first | omega | assumption) [a6, pS, pA, se, c, zP, PP.v]
/-- Lists whose values are the same, and their bytes. -/
def Sims (l m : List T6) : Prop := anys l = anys m ∧ encs l = encs m ∧ l.length = m.length
theorem Sims.nil : Sims [] [] := ⟨rfl, rfl, rfl⟩
theorem Sims.cons {a b : T6} {l m : List T6} (h : anyV a = anyV b ∧ enc a = enc b) (k : Sims l m) : Sims (a :: l) (b :: m) :=
  ⟨by simp only [anys, h.1, k.1], by simp only [encs, h.2, k.2.1], by simp only [List.length_cons, k.2.2]⟩
theorem Sims.node {t : T6} {m : List T6} (h4 : t.k = 4) (h : Sims t.l m) : anyV t = anyV (Ev.node m) ∧ enc t = enc (Ev.node m) := by
  have q := any_eql t h4
  exact ⟨q.1.trans (by rw [any_node, any_node, h.1]), q.2.trans (by rw [enc_node, enc_node, h.2.1, h.2.2])⟩
theorem list_els (t : T6) (h : t.k = 4) : t.l = (List.range t.l.length).map (el t) := by
  apply List.ext_getElem?
  intro i
  rw [List.getElem?_map]
  rcases Nat.lt_or_ge i t.l.length with c | c
  · rw [List.getElem?_range c, List.getElem?_eq_getElem c]
    simp [el, h, List.getElem?_eq_getElem c]
  · rw [List.getElem?_eq_none c, List.getElem?_eq_none (by simpa using c)]; rfl
theorem st_sim {x : T6} (h : stOk x) : anyV x = anyV (stT (st1 x) (st2 x)) ∧ enc x = enc (stT (st1 x) (st2 x)) := by
  have l2 := list_el2 x h.1 h.2.1
  have q := any_eql x h.1
  rw [l2] at q
  have n := node2 (any_eq _ h.2.2.1) (any_eq _ h.2.2.2)
  have e1 : st1 x = asN (el x 0) := if_pos h
  have e2 : st2 x = asN (el x 1) := if_pos h
  rw [e1, e2]
  exact ⟨q.1.trans n.1, q.2.trans n.2⟩
theorem shpP_k4 {t : T6} (h : shpP t) : t.k = 4 := by
  rcases Decidable.em (t.k = 4) with c | c
  · exact c
  · have := h.2.2.2.2
    simp [asL, c, mny8] at this
    split at this <;> split at this <;> simp at this
theorem err3 {t : T6} (e : errT t = 0) : (ofE (el t 3)).2 = 0 ∧ (ofE (el t 4)).2 = 0 ∧ (ofE (el t 5)).2 = 0 := by
  unfold errT at e
  by_cases a : (ofE (el t 3)).2 = 0
  · rw [if_pos a] at e
    by_cases b : (ofE (el t 4)).2 = 0
    · rw [if_pos b] at e; exact ⟨a, b, e⟩
    · rw [if_neg b] at e; exact absurd e b
  · rw [if_neg a] at e; exact absurd e a
/-- A value of a first block's shape is that block's, with what stands in the place of its sum. -/
theorem shpP_sim {t : T6} (ok : t.ok) (h : shpP t) (e : errT t = 0) : anyV t = anyV (node (primL (pOf t) ++ (if 0 < kdT t then [byt6 (asB (el t (mny8 t)))] else []))) ∧ enc t = enc (node (primL (pOf t) ++ (if 0 < kdT t then [byt6 (asB (el t (mny8 t)))] else []))) := by
  have k4 := shpP_k4 h
  obtain ⟨⟨d0, d1, d2, d7, d89, dm⟩, hst, h7, hk2, hl⟩ := h
  have eL : asL t = t.l := by simp [asL, k4]
  rw [eL] at hl
  have le := list_els t k4
  obtain ⟨e3, e4, e5⟩ := err3 e
  have q3 := (ofE_spec _ (el_ok t 3 ok) e3).2
  have q4 := (ofE_spec _ (el_ok t 4 ok) e4).2
  have q5 := (ofE_spec _ (el_ok t 5 ok) e5).2
  have q0 := any_eq _ d0
  rw [h7] at q0
  have q1 := any_eq _ d1
  have q2 := any_eq _ d2
  have q7 := any_eq _ d7
  have q6 := st_sim hst
  refine Sims.node k4 ?_
  unfold primL primL8
  have eF : fragB (pOf t).fl = fragT t := rfl
  rw [eF]
  cases hF : fragT t with
  | false =>
    have m8 : mny8 t = 8 := by unfold mny8; rw [hF]; rfl
    rw [m8] at hl dm ⊢
    by_cases c : 0 < kdT t
    · rw [if_pos c] at hl ⊢
      have l9 : t.l.length = 9 := by omega
      rw [l9] at le
      rw [show t.l = [el t 0, el t 1, el t 2, el t 3, el t 4, el t 5, el t 6, el t 7, el t 8] from le]
      exact .cons q0 (.cons q1 (.cons q2 (.cons q3 (.cons q4 (.cons q5 (.cons q6 (.cons q7 (.cons (any_eqb _ (dm c)) .nil))))))))
    · rw [if_neg c] at hl ⊢
      have l9 : t.l.length = 8 := by omega
      rw [l9] at le
      rw [show t.l = [el t 0, el t 1, el t 2, el t 3, el t 4, el t 5, el t 6, el t 7] from le]
      exact .cons q0 (.cons q1 (.cons q2 (.cons q3 (.cons q4 (.cons q5 (.cons q6 (.cons q7 .nil)))))))
  | true =>
    have m8 : mny8 t = 10 := by unfold mny8; rw [hF]; rfl
    rw [m8] at hl dm ⊢
    obtain ⟨d8, d9⟩ := d89 hF
    have q8 := any_eq _ d8
    have q9 := any_eq _ d9
    have eo : (pOf t).off = asN (el t 8) := by show (if fragT t then _ else _) = _; rw [hF]; rfl
    have et : (pOf t).tot = asN (el t 9) := by show (if fragT t then _ else _) = _; rw [hF]; rfl
    rw [eo, et]
    by_cases c : 0 < kdT t
    · rw [if_pos c] at hl ⊢
      have l9 : t.l.length = 11 := by omega
      rw [l9] at le
      rw [show t.l = [el t 0, el t 1, el t 2, el t 3, el t 4, el t 5, el t 6, el t 7, el t 8, el t 9, el t 10] from le]
      exact .cons q0 (.cons q1 (.cons q2 (.cons q3 (.cons q4 (.cons q5 (.cons q6 (.cons q7 (.cons q8 (.cons q9 (.cons (any_eqb _ (dm c)) .nil))))))))))
    · rw [if_neg c] at hl ⊢
      have l9 : t.l.length = 10 := by omega
      rw [l9] at le
      rw [show t.l = [el t 0, el t 1, el t 2, el t 3, el t 4, el t 5, el t 6, el t 7, el t 8, el t 9] from le]
      exact .cons q0 (.cons q1 (.cons q2 (.cons q3 (.cons q4 (.cons q5 (.cons q6 (.cons q7 (.cons q8 (.cons q9 .nil)))))))))
/-- What is answered at any value. -/
noncomputable def getPS (t : T6) : V := open Classical in
  if shpP t then (if errT t = 0 then (if enc t = enc (refL (primL (pOf t)) (kdT t).toNat) then chkPV t else .tup [zP, .int .i64 7]) else .tup [zP, .int .i64 (errT t)]) else .tup [zP, .int .i64 18]
theorem GetPS_run (t : T6) (hw : t.w ≤ 1048576) (ok : t.ok) : ∃ h', Run T f_primary_Get [anyV t] [] (getPS t) h' := by
  by_cases c : shpP t ∧ errT t = 0 ∧ 0 < kdT t
  · obtain ⟨hs, he, hp⟩ := c
    have gl := prim_good (pOf_B ok hs he)
    have k2 := hs.2.2.2.1
    obtain ⟨k, hk⟩ := Int.eq_ofNat_of_zero_le (show 0 ≤ kdT t by omega)
    obtain ⟨ea, ee⟩ := shpP_sim ok hs he
    rw [if_pos hp] at ea ee
    have b5 := asB_le (el t (mny8 t))
    have := el_le t (mny8 t)
    have gw := gl.w
    obtain ⟨L, j, e, h', r, r1, r2⟩ := OpenG_run (primL (pOf t)) (asB (el t (mny8 t))) [] gl (by
      have : T6.ws (primL (pOf t)) ≤ 1000 := (prim_small (pOf_B ok hs he)).w
      simp only [T6.w, ws_app, T6.ws, List.length_nil]
      omega) (by omega) k (by omega)
    rw [any_node] at ea
    rw [← ea] at r
    obtain ⟨hG, rG⟩ := GetPG_run t hw ok L j e h' r1 (fun _ _ _ => r)
    refine ⟨hG, ?_⟩
    have eq : getPS t = getPV t j e := by
      unfold getPS getPV
      rw [if_pos hs, if_pos hs, if_pos he, if_pos he]
      have er := encRefL (primL (pOf t)) k (by omega)
      rw [er, ← ee] at r2
      have ek : (kdT t).toNat = k := by omega
      rw [ek]
      by_cases q : e = 0 ∧ j = kdT t
      · rw [if_pos (r2.1 ⟨q.1, by rw [q.2]; exact hk⟩).symm, if_neg (fun k => k.2 q)]
      · rw [if_neg (fun z => q (by have := r2.2 z.symm; exact ⟨this.1, by rw [this.2]; exact hk.symm⟩)), if_pos ⟨hp, q⟩]
    rw [eq]
    exact rG
  · obtain ⟨hG, rG⟩ := GetPG_run t hw ok [] 0 0 [] rfl (fun h1 h2 h3 => absurd ⟨h1, h2, h3⟩ c)
    refine ⟨hG, ?_⟩
    have eq : getPS t = getPV t 0 0 := by
      unfold getPS getPV
      by_cases hs : shpP t
      · rw [if_pos hs, if_pos hs]
        by_cases he : errT t = 0
        · rw [if_pos he, if_pos he]
          have hp : ¬ 0 < kdT t := fun k => c ⟨hs, he, k⟩
          have k0 : (kdT t).toNat = 0 := by omega
          have ee := (shpP_sim ok hs he).2
          rw [if_neg hp, List.append_nil] at ee
          rw [if_pos (show enc t = enc (refL (primL (pOf t)) (kdT t).toNat) from by rw [k0, ee]; unfold refL; rw [if_pos rfl]), if_neg (fun k : 0 < kdT t ∧ ¬ ((0 : Int) = 0 ∧ (0 : Int) = kdT t) => hp k.1)]
        · rw [if_neg he, if_neg he]
      · rw [if_neg hs, if_neg hs]
    rw [eq]
    exact rG
section
variable {ks : List Kt} {ops : List AOpr} {K : Kp} {e : Env} {h : Heap} {Q : Ex → Env → Heap → Prop} {d : Nat} {lent : Bool}
end
theorem ofE_eid {e : E4} (h : e.B) : ofE (eidT e.sc e.nm e.nd e.sv) = (e, 0) := by
  obtain ⟨sc, nm, nd, sv⟩ := e
  rcases rightE_cases h.r with ⟨e1, e2⟩ | ⟨e1, e2, e3, e4⟩
  · have e1 : sc = 2 := e1
    have e2 : nm = [] := e2
    subst e1 e2
    rfl
  · have e1 : sc = 1 := e1
    have e2 : nd = 0 := e2
    have e3 : sv = 0 := e3
    have e4 : nm = [] ∨ namedS nm = true := e4
    subst e1 e2 e3
    by_cases hz : nm = []
    · subst hz; rfl
    · have hr : rightE 1 nm 0 0 = true := h.r
      have e5 : eidT 1 nm 0 0 = node [num6 1, txt6 nm] := by unfold eidT; rw [if_neg (by omega), if_neg hz]
      show ofE (eidT 1 nm 0 0) = _
      rw [e5]
      have c1 : (node [num6 1, txt6 nm]).k = 4 ∧ (node [num6 1, txt6 nm]).l.length = 2 ∧ (el (node [num6 1, txt6 nm]) 0).k = 0 := ⟨rfl, rfl, rfl⟩
      have c2 : el (node [num6 1, txt6 nm]) 0 = num6 1 := rfl
      have c3 : el (node [num6 1, txt6 nm]) 1 = txt6 nm := rfl
      unfold ofE
      rw [if_pos c1, c2, c3, if_neg (fun k => absurd (show (3 : Int) = 0 from k.2) (by decide)), if_pos ⟨rfl, rfl⟩, if_pos ⟨hz, hr⟩]
      rfl
theorem refL_l (l : List T6) (k : Nat) : ∃ S, refL l k = node (l ++ (if k = 0 then [] else [byt6 S])) := by
  unfold refL
  by_cases c : k = 0
  · exact ⟨[], by rw [if_pos c, if_pos c, List.append_nil]⟩
  · exact ⟨_, by rw [if_neg c, if_neg c]⟩
theorem st_stT (a b : Int) : stOk (stT a b) ∧ st1 (stT a b) = a ∧ st2 (stT a b) = b := ⟨⟨rfl, rfl, rfl, rfl⟩, rfl, rfl⟩
theorem chk_frag {p : PP} (h : chkP p = 0) (hF : fragB p.fl = false) : p.off = 0 ∧ p.tot = 0 := by
  unfold chkP at h
  split at h
  · cases h
  · split at h
    · cases h
    · rename_i c
      exact ⟨Decidable.not_not.1 (fun k => c (.inr ⟨hF, .inl k⟩)), Decidable.not_not.1 (fun k => c (.inr ⟨hF, .inr k⟩))⟩
theorem get_ref (p : PP) (b : PPB p) (hc : chkP p = 0) : getPS (refL (primL p) p.crc.toNat) = .tup [p.v, .int .i64 0] := by
  obtain ⟨k, hk⟩ := Int.eq_ofNat_of_zero_le b.c0
  have c2 := b.c2
  have ek : p.crc.toNat = k := by omega
  rw [ek]
  obtain ⟨S, hS⟩ := refL_l (primL p) k
  have o1 := ofE_eid b.d
  have o2 := ofE_eid b.s
  have o3 := ofE_eid b.r
  obtain ⟨t1, t2, t3⟩ := st_stT p.st p.sq
  have main : ∀ t : T6, t = node (primL p ++ (if k = 0 then [] else [byt6 S])) → shpP t ∧ errT t = 0 ∧ pOf t = p ∧ kdT t = k := by
    intro t ht
    have e0 : el t 0 = num6 7 := by rw [ht]; rfl
    have e1 : el t 1 = num6 p.fl := by rw [ht]; rfl
    have e2 : el t 2 = num6 p.crc := by rw [ht]; rfl
    have e3 : el t 3 = eidT p.d.sc p.d.nm p.d.nd p.d.sv := by rw [ht]; rfl
    have e4 : el t 4 = eidT p.s.sc p.s.nm p.s.nd p.s.sv := by rw [ht]; rfl
    have e5 : el t 5 = eidT p.r.sc p.r.nm p.r.nd p.r.sv := by rw [ht]; rfl
    have e6 : el t 6 = stT p.st p.sq := by rw [ht]; rfl
    have e7 : el t 7 = num6 p.life := by rw [ht]; rfl
    have ekd : kdT t = k := by unfold kdT; rw [e2]; exact hk
    have efr : fragT t = fragB p.fl := by unfold fragT; rw [e1]; rfl
    have k4 : t.k = 4 := by rw [ht]; rfl
    have al : (asL t).length = (primL p).length + (if k = 0 then 0 else 1) := by
      rw [show asL t = t.l from by simp [asL, k4], ht]
      show (primL p ++ _).length = _
      rw [List.length_append]
      split <;> rfl
    have ee : errT t = 0 := by unfold errT; rw [e3, e4, e5, o1, o2, o3]; rfl
    cases hF : fragB p.fl with
    | false =>
      rw [hF] at efr
      have m8 : mny8 t = 8 := by unfold mny8; rw [efr]; rfl
      have pl : primL p = primL8 p := by unfold primL; rw [hF]; simp
      obtain ⟨z1, z2⟩ := chk_frag hc hF
      refine ⟨⟨⟨by rw [e0]; rfl, by rw [e1]; rfl, by rw [e2]; rfl, by rw [e7]; rfl, fun q => (by rw [efr] at q; cases q), fun q => ?_⟩, by rw [e6]; exact t1, by rw [e0]; rfl, by omega, ?_⟩, ee, ?_, ekd⟩
      · rw [m8, ht, pl, if_neg (by omega)]; rfl
      · rw [al, pl, m8, ekd]
        have : (primL8 p).length = 8 := rfl
        by_cases q : k = 0
        · rw [if_pos q, if_neg (by omega)]; omega
        · rw [if_neg q, if_pos (by omega)]; omega
      · unfold pOf
        rw [efr, ekd, e1, e3, e4, e5, e6, e7, o1, o2, o3, t2, t3, ← hk]
        obtain ⟨fl, crc, d, s, r, st, sq, life, off, tot⟩ := p
        have z1 : off = 0 := z1
        have z2 : tot = 0 := z2
        subst z1 z2
        rfl
    | true =>
      rw [hF] at efr
      have m8 : mny8 t = 10 := by unfold mny8; rw [efr]; rfl
      have pl : primL p = primL8 p ++ [num6 p.off, num6 p.tot] := by unfold primL; rw [hF]; simp
      have e8 : el t 8 = num6 p.off := by rw [ht, pl]; rfl
      have e9 : el t 9 = num6 p.tot := by rw [ht, pl]; rfl
      refine ⟨⟨⟨by rw [e0]; rfl, by rw [e1]; rfl, by rw [e2]; rfl, by rw [e7]; rfl, fun _ => ⟨by rw [e8]; rfl, by rw [e9]; rfl⟩, fun q => ?_⟩, by rw [e6]; exact t1, by rw [e0]; rfl, by omega, ?_⟩, ee, ?_, ekd⟩
      · rw [m8, ht, pl, if_neg (by omega)]; rfl
      · rw [al, pl, m8, ekd]
        have : (primL8 p ++ [num6 p.off, num6 p.tot]).length = 10 := rfl
        by_cases q : k = 0
        · rw [if_pos q, if_neg (by omega)]; omega
        · rw [if_neg q, if_pos (by omega)]; omega
      · unfold pOf
        rw [efr, ekd, e1, e3, e4, e5, e6, e7, e8, e9, o1, o2, o3, t2, t3, ← hk]
        rfl
  obtain ⟨m1, m2, m3, m4⟩ := main _ hS
  unfold getPS
  rw [if_pos m1, if_pos m2, m3, m4]
  rw [if_pos (show enc (refL (primL p) k) = enc (refL (primL p) ((k : Int)).toNat) from by rw [Int.toNat_natCast])]
  unfold chkPV
  rw [m3, if_pos hc]
/-- What a parameter's numbers are. -/
structure PPin (p : PP) : Prop where
  fl : u64B p.fl
  d1 : u64B p.d.nd
  d2 : u64B p.d.sv
  s1 : u64B p.s.nd
  s2 : u64B p.s.sv
  r1 : u64B p.r.nd
  r2 : u64B p.r.sv
  st : u64B p.st
  sq : u64B p.sq
  life : u64B p.life
  off : u64B p.off
  tot : u64B p.tot
  n1 : p.d.nm.length ≤ 140737488351232
  n2 : p.s.nm.length ≤ 140737488351232
  n3 : p.r.nm.length ≤ 140737488351232
theorem PPin.ok {p : PP} (h : PPin p) : PPok p := ⟨h.fl.1, h.fl.2, h.off.1, h.tot.1, h.n1, h.n2, h.n3⟩
theorem PPin.B {p : PP} (h : PPin p) (hc : chkP p = 0) : PPB p := by
  obtain ⟨c0, c2, h1, h2, h3⟩ := chk0_spec hc
  exact ⟨h.fl, c0, c2, ⟨h.d1, h.d2, h1⟩, ⟨h.s1, h.s2, h2⟩, ⟨h.r1, h.r2, h3⟩, h.st, h.sq, h.life, h.off, h.tot⟩
abbrev sh10 : List CS := [.i .u64, .i .i64, .i .i64, .s, .i .u64, .i .u64, .i .i64, .s, .i .u64, .i .u64, .i .i64, .s, .i .u64, .i .u64, .i .u64, .i .u64, .i .u64, .i .u64, .i .u64]
theorem readPP (vs : List V) (hr : Row sh10 vs) : ∃ p : PP, V.agg vs = p.v ∧ PPin p := by
  obtain ⟨v0, r0, rfl, t0, hr⟩ := hr.cons
  obtain ⟨v1, r1, rfl, t1, hr⟩ := hr.cons
  obtain ⟨v2, r2, rfl, t2, hr⟩ := hr.cons
  obtain ⟨v3, r3, rfl, t3, hr⟩ := hr.cons
  obtain ⟨v4, r4, rfl, t4, hr⟩ := hr.cons
  obtain ⟨v5, r5, rfl, t5, hr⟩ := hr.cons
  obtain ⟨v6, r6, rfl, t6, hr⟩ := hr.cons
  obtain ⟨v7, r7, rfl, t7, hr⟩ := hr.cons
  obtain ⟨v8, r8, rfl, t8, hr⟩ := hr.cons
  obtain ⟨v9, r9, rfl, t9, hr⟩ := hr.cons
  obtain ⟨v10, r10, rfl, t10, hr⟩ := hr.cons
  obtain ⟨v11, r11, rfl, t11, hr⟩ := hr.cons
  obtain ⟨v12, r12, rfl, t12, hr⟩ := hr.cons
  obtain ⟨v13, r13, rfl, t13, hr⟩ := hr.cons
  obtain ⟨v14, r14, rfl, t14, hr⟩ := hr.cons
  obtain ⟨v15, r15, rfl, t15, hr⟩ := hr.cons
  obtain ⟨v16, r16, rfl, t16, hr⟩ := hr.cons
  obtain ⟨v17, r17, rfl, t17, hr⟩ := hr.cons
  obtain ⟨v18, r18, rfl, t18, hr⟩ := hr.cons
  obtain rfl := hr.none
  obtain ⟨x0, rfl, a0, b0⟩ := t0.int
  obtain ⟨x1, rfl, a1, b1⟩ := t1.int
  obtain ⟨x2, rfl, a2, b2⟩ := t2.int
  obtain ⟨x3, rfl, a3⟩ := t3.str
  obtain ⟨x4, rfl, a4, b4⟩ := t4.int
  obtain ⟨x5, rfl, a5, b5⟩ := t5.int
  obtain ⟨x6, rfl, a6, b6⟩ := t6.int
  obtain ⟨x7, rfl, a7⟩ := t7.str
  obtain ⟨x8, rfl, a8, b8⟩ := t8.int
  obtain ⟨x9, rfl, a9, b9⟩ := t9.int
  obtain ⟨x10, rfl, a10, b10⟩ := t10.int
  obtain ⟨x11, rfl, a11⟩ := t11.str
  obtain ⟨x12, rfl, a12, b12⟩ := t12.int
  obtain ⟨x13, rfl, a13, b13⟩ := t13.int
  obtain ⟨x14, rfl, a14, b14⟩ := t14.int
  obtain ⟨x15, rfl, a15, b15⟩ := t15.int
  obtain ⟨x16, rfl, a16, b16⟩ := t16.int
  obtain ⟨x17, rfl, a17, b17⟩ := t17.int
  obtain ⟨x18, rfl, a18, b18⟩ := t18.int
  exact ⟨⟨x0, x1, ⟨x2, x3, x4, x5⟩, ⟨x6, x7, x8, x9⟩, ⟨x10, x11, x12, x13⟩, x14, x15, x16, x17, x18⟩, rfl, ⟨⟨a0, b0⟩, ⟨a4, b4⟩, ⟨a5, b5⟩, ⟨a8, b8⟩, ⟨a9, b9⟩, ⟨a12, b12⟩, ⟨a13, b13⟩, ⟨a14, b14⟩, ⟨a15, b15⟩, ⟨a16, b16⟩, ⟨a17, b17⟩, ⟨a18, b18⟩, a3, a7, a11⟩⟩
structure B5 where
  ty : Int
  nu : Int
  fl : Int
  k : Int
  s : List UInt8
def B5.v (x : B5) : V := blkV x.ty x.nu x.fl x.k x.s
def b5s (l : List B5) : List V := l.map B5.v
theorem b5s_len (l : List B5) : (b5s l).length = l.length := by simp [b5s]
theorem b5s_get (l : List B5) (i : Nat) (h : i < l.length) : (b5s l)[i]? = some (blkV l[i].ty l[i].nu l[i].fl l[i].k l[i].s) := by rw [b5s, List.getElem?_map, List.getElem?_eq_getElem h]; rfl
theorem b5_hf (x : B5) : V.hf x.v = true := by simp [B5.v, blkV]
theorem b5s_hfs (l : List B5) : V.hfs (b5s l) = true := by
  induction l with
  | nil => rfl
  | cons x l ih => show (x.v.hf && V.hfs (b5s l)) = true; rw [b5_hf, ih]; rfl
structure BB where
  p : PP
  bl : List B5
  pay : B5
def PP.cells (p : PP) : List V := [.int .u64 p.fl, .int .i64 p.crc, .int .i64 p.d.sc, .str p.d.nm, .int .u64 p.d.nd, .int .u64 p.d.sv, .int .i64 p.s.sc, .str p.s.nm, .int .u64 p.s.nd, .int .u64 p.s.sv, .int .i64 p.r.sc, .str p.r.nm, .int .u64 p.r.nd, .int .u64 p.r.sv, .int .u64 p.st, .int .u64 p.sq, .int .u64 p.life, .int .u64 p.off, .int .u64 p.tot]
def BB.cells (b : BB) : List V := [.int .u64 b.p.fl, .int .i64 b.p.crc, .int .i64 b.p.d.sc, .str b.p.d.nm, .int .u64 b.p.d.nd, .int .u64 b.p.d.sv, .int .i64 b.p.s.sc, .str b.p.s.nm, .int .u64 b.p.s.nd, .int .u64 b.p.s.sv, .int .i64 b.p.r.sc, .str b.p.r.nm, .int .u64 b.p.r.nd, .int .u64 b.p.r.sv, .int .u64 b.p.st, .int .u64 b.p.sq, .int .u64 b.p.life, .int .u64 b.p.off, .int .u64 b.p.tot, .ps 5 (b5s b.bl), .int .u64 b.pay.ty, .int .u64 b.pay.nu, .int .u64 b.pay.fl, .int .i64 b.pay.k, .str b.pay.s]
def BB.v (b : BB) : V := .agg b.cells
theorem BB.len (b : BB) : b.cells.length = 25 := rfl
theorem BB.c19 (b : BB) : b.cells[19]? = some (.ps 5 (b5s b.bl)) := rfl
theorem BB.c20 (b : BB) : b.cells[20]? = some (.int .u64 b.pay.ty) := rfl
theorem BB.c21 (b : BB) : b.cells[21]? = some (.int .u64 b.pay.nu) := rfl
theorem BB.c24 (b : BB) : b.cells[24]? = some (.str b.pay.s) := rfl
theorem BB.c3 (b : BB) : b.cells[3]? = some (.str b.p.d.nm) := rfl
theorem BB.c7 (b : BB) : b.cells[7]? = some (.str b.p.s.nm) := rfl
theorem BB.c11 (b : BB) : b.cells[11]? = some (.str b.p.r.nm) := rfl
theorem BB.tP (b : BB) : b.cells.take 19 = b.p.cells := rfl
theorem BB.hf (b : BB) : V.hf b.v = true := by simp [BB.v, BB.cells, b5s_hfs]
theorem BB.one (b : BB) : b.cells.all V.one = true := by simp [BB.cells]
def lightL : List B5 → Bool
  | [] => true
  | x :: r => if 200 < x.s.length then false else lightL r
def lightB (b : BB) : Bool := if 20 < b.bl.length ∨ 500 < b.pay.s.length ∨ 100 < b.p.d.nm.length ∨ 100 < b.p.s.nm.length ∨ 100 < b.p.r.nm.length then false else lightL b.bl
theorem light_loop (b : BB) (hb : b.bl.length ≤ 20) (g : Heap) : ∀ (m i : Nat), i + m = b.bl.length → ∀ ks Q,
    (lightL (b.bl.drop i) = true → ∀ e, Xk T ks (.x 0) e (some b.cells :: g) Q) →
    (lightL (b.bl.drop i) = false → Xk T ks .r [(2, .bool false)] (some b.cells :: g) Q) →
    Xc T l_law11_Light_0 ks [(1, .ptr 0 0), (3, .int .i64 i)] (some b.cells :: g) Q := by
  have bl := b5s_len b.bl
  intro m
  induction m with
  | zero =>
    intro i hi ks Q h1 h2
    have e : b.bl.drop i = [] := List.drop_eq_nil_of_le (by omega)
    rw [e] at h1
    have e2 : (i : Int) = b.bl.length := by omega
    rw [L_law11_Light_0]; unfold bl_law11_Light_0
    simp (disch := omega) [bl, BB.c19, BB.c24, BB.c3, BB.c7, BB.c11, BB.len, e2]
    exact h1 rfl _
  | succ m ih =>
    intro i hi ks Q h1 h2
    have hl : i < b.bl.length := by omega
    have e := List.drop_eq_getElem_cons hl
    rw [e] at h1 h2
    have gt := b5s_get b.bl i hl
    have ih := ih (i + 1) (by omega) ks Q
    rw [show ((i + 1 : Nat) : Int) = (i : Int) + 1 from rfl] at ih
    rw [L_law11_Light_0]; unfold bl_law11_Light_0
    simp (disch := omega) [bl, BB.c19, BB.c24, BB.c3, BB.c7, BB.c11, BB.len, gt, blkV, hl]
    generalize b.bl[i] = x at *
    by_cases c : 200 < x.s.length
    · have c' : (200 : Int) < x.s.length := by omega
      simp (disch := omega) [c, c']
      exact h2 (by simp [lightL, c])
    · have c' : ¬ (200 : Int) < x.s.length := by omega
      simp (disch := omega) [c, c']
      exact ih (fun h => h1 (by simp [lightL, c, h])) (fun h => h2 (by simp [lightL, c, h]))
theorem Light_run (b : BB) (hn : b.p.d.nm.length ≤ 140737488351232 ∧ b.p.s.nm.length ≤ 140737488351232 ∧ b.p.r.nm.length ≤ 140737488351232) : ∃ h', Run T f_law11_Light [b.v] [] (.bool (lightB b)) h' := by
  obtain ⟨n1, n2, n3⟩ := hn
  have bl := b5s_len b.bl
  have lp := light_loop b
  refine Run.startE t_law11_Light ?_
  unfold k_law11_Light BB.v lightB
  by_cases g1 : 20 < b.bl.length
  · have g1' : (20 : Int) < b.bl.length := by omega
    simp (disch := omega) [bl, BB.c19, BB.c24, BB.c3, BB.c7, BB.c11, BB.len, BB.one, g1, g1']
  have g1' : ¬ (20 : Int) < b.bl.length := by omega
  by_cases g2 : 500 < b.pay.s.length
  · have g2' : (500 : Int) < b.pay.s.length := by omega
    simp (disch := omega) [bl, BB.c19, BB.c24, BB.c3, BB.c7, BB.c11, BB.len, BB.one, g1, g1', g2, g2']
  have g2' : ¬ (500 : Int) < b.pay.s.length := by omega
  by_cases g3 : 100 < b.p.d.nm.length
  · have g3' : (100 : Int) < b.p.d.nm.length := by omega
    simp (disch := omega) [bl, BB.c19, BB.c24, BB.c3, BB.c7, BB.c11, BB.len, BB.one, g1, g1', g2, g2', g3, g3']
  have g3' : ¬ (100 : Int) < b.p.d.nm.length := by omega
  by_cases g4 : 100 < b.p.s.nm.length
  · have g4' : (100 : Int) < b.p.s.nm.length := by omega
    simp (disch := omega) [bl, BB.c19, BB.c24, BB.c3, BB.c7, BB.c11, BB.len, BB.one, g1, g1', g2, g2', g3, g3', g4, g4']
  have g4' : ¬ (100 : Int) < b.p.s.nm.length := by omega
  by_cases g5 : 100 < b.p.r.nm.length
  · have g5' : (100 : Int) < b.p.r.nm.length := by omega
    simp (disch := omega) [bl, BB.c19, BB.c24, BB.c3, BB.c7, BB.c11, BB.len, BB.one, g1, g1', g2, g2', g3, g3', g4, g4', g5, g5']
  have g5' : ¬ (100 : Int) < b.p.r.nm.length := by omega
  simp (disch := omega) [bl, BB.c19, BB.c24, BB.c3, BB.c7, BB.c11, BB.len, BB.one, g1, g1', g2, g2', g3, g3', g4, g4', g5, g5']
  have := lp (by omega) [] b.bl.length 0 (by omega)
  refine this _ _ (fun h e => ?_) (fun h => ?_)
  · simp [show lightL b.bl = true from h]
  · simp [show lightL b.bl = false from h]
def kvU (l : List Int) : List V := l.map fun n => .tup [.int .u64 n, .bool true]
def insU (l : List Int) (n : Int) : List Int := if n ∈ l then l else l ++ [n]
theorem kvU_no (n : Int) : ∀ (l : List Int) (i : Nat), n ∉ l → kvFind .int (.int .u64 n) (kvU l) i = some none
  | [], i, _ => rfl
  | m :: l, i, h => by
    have h1 : ¬ n = m := fun e => h (e ▸ List.mem_cons_self)
    have h2 : n ∉ l := fun e => h (List.mem_cons_of_mem _ e)
    have := kvU_no n l (i + 1) h2
    simp only [kvU, List.map_cons, kvFind, keyEq] at this ⊢
    simp [h1, this]
theorem kvU_yes (n : Int) : ∀ (l : List Int) (i : Nat), n ∈ l → ∃ j, kvFind .int (.int .u64 n) (kvU l) i = some (some (i + j, .bool true)) ∧ (kvU l)[j]? = some (.tup [.int .u64 n, .bool true])
  | m :: l, i, h => by
    by_cases h1 : n = m
    · subst h1
      exact ⟨0, by simp [kvU, kvFind, keyEq], by simp [kvU]⟩
    · obtain ⟨j, a, b⟩ := kvU_yes n l (i + 1) (by simpa [h1] using h)
      refine ⟨j + 1, ?_, by simpa [kvU] using b⟩
      simp only [kvU, List.map_cons, kvFind, keyEq] at a ⊢
      simp [h1, a]
      omega
theorem look_kvU (h : Heap) (b : Nat) (l : List Int) (n : Int) (hr : h.row b = some (kvU l)) : lookV h .int (.mp b) (.int .u64 n) (.bool false) false = some (.bool (decide (n ∈ l))) := by
  unfold lookV kvsOf
  simp only [hr, Option.bind_some]
  by_cases c : n ∈ l
  · obtain ⟨j, a, _⟩ := kvU_yes n l 0 c
    simp [keyEq, a, c]
  · simp [keyEq, kvU_no n l 0 c, c]
theorem mset_kvU (h : Heap) (b : Nat) (l : List Int) (n : Int) (hr : h.row b = some (kvU l)) : msetV h .int (.mp b) (.int .u64 n) (.bool true) = some (h.set b (some (kvU (insU l n)))) := by
  unfold msetV insU
  simp only [hr, Option.bind_some]
  by_cases c : n ∈ l
  · obtain ⟨j, a, e⟩ := kvU_yes n l 0 c
    rw [Nat.zero_add] at a
    have hj : (kvU l).set j (.tup [.int .u64 n, .bool true]) = kvU l := by
      apply List.ext_getElem?
      intro i
      rw [List.getElem?_set]
      split
      · rename_i hij; subst hij
        rw [e, if_pos (by have := List.getElem?_eq_some_iff.1 e; exact this.1)]
      · rfl
    simp [keyEq, a, c, hj]
  · simp [keyEq, kvU_no n l 0 c, c]
    simp [kvU]
theorem unlike1_run (x : B5) (seen : List Int) (g : Heap) : Run T f_bundle_unlike_1 [x.v, .ptr 1 0] (some (kvU seen) :: some [.mp 0] :: g) (.bool (!decide (x.nu ∈ seen) && decide (x.ty ≠ 1))) (some (kvU (insU seen x.nu)) :: some [.mp 0] :: g ++ [some [.int .u64 x.ty, .int .u64 x.nu, .int .u64 x.fl, .int .i64 x.k, .str x.s]]) := by
  refine Run.start t_bundle_unlike_1 ?_
  unfold k_bundle_unlike_1 B5.v blkV
  have lk := fun (R : Heap) => look_kvU (some (kvU seen) :: R) 0 seen x.nu rfl
  have ms := fun (R : Heap) => mset_kvU (some (kvU seen) :: R) 0 seen x.nu rfl
  simp (disch := first | omega | rfl) [lk, ms]
  by_cases c : x.nu ∈ seen
  · simp (disch := omega) [c, ms]
  · simp (disch := omega) [c, ms]
def unlF (seen : List Int) : List B5 → Bool
  | [] => true
  | x :: r => if x.nu ∈ seen ∨ x.ty = 1 then false else unlF (insU seen x.nu) r
theorem unlike_loop (l : List B5) (hn : l.length ≤ 1000000) : ∀ (m i : Nat), i + m = l.length → ∀ (seen : List Int) (g : Heap) ks Q,
    (unlF seen (l.drop i) = true → ∀ e g', Xk T ks (.x 0) e g' Q) →
    (unlF seen (l.drop i) = false → ∀ g', Xk T ks .r [(2, .bool false)] g' Q) →
    Xc T l_bundle_unlike_0 ks [(4, .fn f_bundle_unlike_1 [.ptr 1 0]), (10, .ps 5 (b5s l)), (11, .int .i64 l.length), (12, .int .i64 i)] (some (kvU seen) :: some [.mp 0] :: g) Q := by
  have bl := b5s_len l
  have hf : T.free f_bundle_unlike_1 = true := rfl
  intro m
  induction m with
  | zero =>
    intro i hi seen g ks Q h1 h2
    have e : l.drop i = [] := List.drop_eq_nil_of_le (by omega)
    rw [e] at h1
    have e2 : (i : Int) = l.length := by omega
    rw [L_bundle_unlike_0]; unfold bl_bundle_unlike_0
    simp (disch := omega) [bl, e2]
    exact h1 rfl _ _
  | succ m ih =>
    intro i hi seen g ks Q h1 h2
    have hl : i < l.length := by omega
    have e := List.drop_eq_getElem_cons hl
    rw [e] at h1 h2
    have gt := b5s_get l i hl
    have ih := ih (i + 1) (by omega)
    rw [show ((i + 1 : Nat) : Int) = (i : Int) + 1 from rfl] at ih
    rw [L_bundle_unlike_0]; unfold bl_bundle_unlike_0
    simp (disch := omega) [bl, gt, blkV, hl, hf]
    generalize l[i] = x at *
    have rx := unlike1_run x seen (g ++ [some [.int .u64 x.ty, .int .u64 x.nu, .int .u64 x.fl, .int .i64 x.k, .str x.s]])
    unfold B5.v blkV at rx
    rw [Xf_run rx]
    simp (disch := omega) [hf]
    by_cases c : x.nu ∈ seen ∨ x.ty = 1
    · have cb : (decide (x.nu ∈ seen) || decide (x.ty = 1)) = true := by rcases c with c | c <;> simp [c]
      simp (disch := omega) [cb]
      exact h2 (by simp [unlF, c]) _
    · have cb : (decide (x.nu ∈ seen) || decide (x.ty = 1)) = false := by simp only [not_or] at c; simp [c.1, c.2]
      simp (disch := omega) [cb]
      exact ih _ _ ks Q (fun h => h1 (by simp only [unlF, if_neg c, h])) (fun h => h2 (by simp only [unlF, if_neg c, h]))
theorem unlike_run (l : List B5) (hn : l.length ≤ 1000000) : ∃ h', Run T f_bundle_unlike [.ps 5 (b5s l)] [] (.bool (unlF [0, 1] l)) h' := by
  have bl := b5s_len l
  have lp := unlike_loop l hn l.length 0 (by omega) [0, 1] []
  refine Run.startE t_bundle_unlike ?_
  unfold k_bundle_unlike
  have m0 : msetV [some []] .int (.mp 0) (.int .u64 0) (.bool true) = some [some (kvU [0])] := rfl
  have m1 : msetV [some (kvU [0])] .int (.mp 0) (.int .u64 1) (.bool true) = some [some (kvU [0, 1])] := rfl
  have cm : (V.mp 0).cells = [V.mp 0] := rfl
  have om : (V.mp 0).one = true := rfl
  simp (disch := omega) [bl, m0, m1, cm, om]
  refine lp _ _ (fun h e g => ?_) (fun h g => ?_)
  · simp [show unlF [0, 1] l = true from h]
  · simp [show unlF [0, 1] l = false from h]
def firstE : List B5 → Int
  | [] => 0
  | x :: r => if chkS x.nu x.k x.s = 0 then firstE r else chkS x.nu x.k x.s
def chkB (b : BB) : Int :=
  if 16 < b.bl.length then 4 else if chkP b.p ≠ 0 then chkP b.p else if chkS b.pay.nu b.pay.k b.pay.s ≠ 0 then chkS b.pay.nu b.pay.k b.pay.s
  else if firstE b.bl ≠ 0 then firstE b.bl else if b.pay.ty = 1 ∧ b.pay.nu = 1 ∧ unlF [0, 1] b.bl = true then 0 else 6
theorem blkV_cells (a b c k : Int) (s : List UInt8) : (blkV a b c k s).cells = [.int .u64 a, .int .u64 b, .int .u64 c, .int .i64 k, .str s] := rfl
theorem chk_loop (b : BB) (hn : b.bl.length ≤ 1000000) : ∀ (m i : Nat), i + m = b.bl.length → ∀ (g : Heap) ks Q,
    (firstE (b.bl.drop i) = 0 → ∀ z g', Xk T ks (.x 0) ((1, .ptr 0 0) :: z) (some b.cells :: g') Q) →
    (firstE (b.bl.drop i) ≠ 0 → ∀ g', Xk T ks .r [(2, .int .i64 (firstE (b.bl.drop i)))] g' Q) →
    Xc T l_bundle_Check_0 ks [(1, .ptr 0 0), (25, .ps 5 (b5s b.bl)), (26, .int .i64 b.bl.length), (27, .int .i64 i)] (some b.cells :: g) Q := by
  have bl := b5s_len b.bl
  intro m
  induction m with
  | zero =>
    intro i hi g ks Q h1 h2
    have e : b.bl.drop i = [] := List.drop_eq_nil_of_le (by omega)
    rw [e] at h1
    have e2 : (i : Int) = b.bl.length := by omega
    rw [L_bundle_Check_0]; unfold bl_bundle_Check_0
    simp (disch := omega) [bl, e2]
    exact h1 rfl _ _
  | succ m ih =>
    intro i hi g ks Q h1 h2
    have hl : i < b.bl.length := by omega
    have e := List.drop_eq_getElem_cons hl
    rw [e] at h1 h2
    have gt := b5s_get b.bl i hl
    have ih := ih (i + 1) (by omega)
    rw [show ((i + 1 : Nat) : Int) = (i : Int) + 1 from rfl] at ih
    rw [L_bundle_Check_0]; unfold bl_bundle_Check_0
    simp (disch := omega) [bl, gt, hl, blkV_cells]
    generalize b.bl[i] = x at *
    obtain ⟨_, r⟩ := Check_run x.ty x.nu x.fl x.k x.s []
    unfold blkV at r
    rw [Xp_run r (by simp) rfl (by simp)]
    have f1 : firstE (x :: b.bl.drop (i + 1)) = if chkS x.nu x.k x.s = 0 then firstE (b.bl.drop (i + 1)) else chkS x.nu x.k x.s := rfl
    rw [f1] at h1 h2
    generalize chkS x.nu x.k x.s = z at *
    by_cases c : z = 0
    · rw [if_pos c] at h1 h2
      simp (disch := omega) [c]
      exact ih _ ks Q h1 h2
    · rw [if_neg c] at h1 h2
      simp (disch := omega) [c]
      exact h2 c _
theorem BCheck_run (b : BB) (ok : PPok b.p) (hn : b.bl.length ≤ 1000000) : ∃ h', Run T f_bundle_Check [b.v] [] (.int .i64 (chkB b)) h' := by
  have bl := b5s_len b.bl
  obtain ⟨_, r1⟩ := CheckP_run b.p ok []
  obtain ⟨_, r2⟩ := Check_run b.pay.ty b.pay.nu b.pay.fl b.pay.k b.pay.s []
  obtain ⟨_, r3⟩ := unlike_run b.bl hn
  have tp : V.agg (b.cells.take 19) = b.p.v := rfl
  have ty : V.agg ((b.cells.drop 20).take 5) = blkV b.pay.ty b.pay.nu b.pay.fl b.pay.k b.pay.s := rfl
  have hp := PP.hf b.p
  have hb : V.hf (blkV b.pay.ty b.pay.nu b.pay.fl b.pay.k b.pay.s) = true := by simp [blkV]
  have lp := chk_loop b hn b.bl.length 0 (by omega)
  refine Run.startE t_bundle_Check ?_
  unfold k_bundle_Check BB.v chkB
  by_cases g1 : 16 < b.bl.length
  · have g1' : (16 : Int) < b.bl.length := by omega
    simp (disch := omega) [bl, BB.c19, BB.len, BB.one, g1, g1']
  have g1' : ¬ (16 : Int) < b.bl.length := by omega
  simp (disch := omega) [bl, BB.c19, BB.len, BB.one, g1, g1', tp]
  rw [Xp_run r1 (by simp [hp]) rfl (by simp)]
  generalize chkP b.p = z1 at *
  by_cases g2 : z1 = 0
  · simp (disch := omega) [g2, BB.len, ty]
    rw [Xp_run r2 (by simp [hb]) rfl (by simp)]
    generalize chkS b.pay.nu b.pay.k b.pay.s = z2 at *
    by_cases g3 : z2 = 0
    · simp (disch := omega) [g3, BB.len, BB.c19, bl]
      refine lp _ _ _ (fun h z g' => ?_) (fun h g' => ?_)
      · have h : firstE b.bl = 0 := h
        simp (disch := omega) [h, BB.c20, BB.c21]
        by_cases g4 : b.pay.ty = 1
        · by_cases g5 : b.pay.nu = 1
          · simp (disch := omega) [g4, g5, BB.c19, BB.c21]
            rw [Xp_run r3 (by simp [b5s_hfs]) rfl (by simp)]
            cases unlF [0, 1] b.bl with
            | true => simp (disch := omega)
            | false => simp (disch := omega)
          · simp (disch := omega) [g4, g5, BB.c21]
        · simp (disch := omega) [g4]
      · have h : ¬ firstE b.bl = 0 := h
        simp (disch := omega) [h]
    · simp (disch := omega) [g3]
  · simp (disch := omega) [g2]
theorem r0_loop (b : BB) (hn : b.bl.length ≤ 1000000) (g : Heap) : ∀ (m i : Nat), i + m = b.bl.length → ∀ ks Q,
    (∀ z, Xk T ks (.x 0) ((1, .ptr 0 0) :: (3, .int .i64 (firstE (b.bl.drop i))) :: z) (some b.cells :: g) Q) →
    Xc T l_ref11_Check_0 ks [(1, .ptr 0 0), (3, .int .i64 0), (4, .int .i64 i)] (some b.cells :: g) Q := by
  have bl := b5s_len b.bl
  intro m
  induction m with
  | zero =>
    intro i hi ks Q h1
    have e : b.bl.drop i = [] := List.drop_eq_nil_of_le (by omega)
    rw [e] at h1
    have e2 : ¬ (i : Int) < b.bl.length := by omega
    have e3 : ¬ i < b.bl.length := by omega
    rw [L_ref11_Check_0]; unfold bl_ref11_Check_0
    simp (disch := omega) [bl, e2, e3, BB.c19]
    exact h1 _
  | succ m ih =>
    intro i hi ks Q h1
    have hl : i < b.bl.length := by omega
    have e := List.drop_eq_getElem_cons hl
    rw [e] at h1
    have gt := b5s_get b.bl i hl
    have ih := ih (i + 1) (by omega)
    rw [show ((i + 1 : Nat) : Int) = (i : Int) + 1 from rfl] at ih
    rw [L_ref11_Check_0]; unfold bl_ref11_Check_0
    simp (disch := omega) [bl, gt, hl, blkV_cells, BB.c19]
    generalize b.bl[i] = x at *
    obtain ⟨_, r⟩ := R9Check_run x.ty x.nu x.fl x.k x.s []
    unfold blkV at r
    rw [Xp_run r (by simp) rfl (by simp)]
    have f1 : firstE (x :: b.bl.drop (i + 1)) = if chkS x.nu x.k x.s = 0 then firstE (b.bl.drop (i + 1)) else chkS x.nu x.k x.s := rfl
    rw [f1] at h1
    generalize chkS x.nu x.k x.s = z at *
    by_cases c : z = 0
    · rw [if_pos c] at h1
      simp (disch := omega) [c]
      exact ih ks Q h1
    · rw [if_neg c] at h1
      simp (disch := omega) [c]
      rw [L_ref11_Check_0]; unfold bl_ref11_Check_0
      by_cases d : i + 1 < b.bl.length
      · have d' : (i : Int) + 1 < b.bl.length := by omega
        simp (disch := omega) [bl, BB.c19, c, d, d']
        exact h1 _
      · have d' : ¬ (i : Int) + 1 < b.bl.length := by omega
        simp (disch := omega) [bl, BB.c19, c, d, d']
        exact h1 _
/-- No number of the first ones is this one. -/
def freshR (l : List B5) (n : Int) : Bool := l.all fun x => !decide (x.nu = n)
theorem r1_loop (b : BB) (hn : b.bl.length ≤ 1000000) (g : Heap) (i : Nat) (hi : i < b.bl.length) : ∀ (m k : Nat), k + m = i → ∀ ks Q,
    (freshR ((b.bl.take i).drop k) b.bl[i].nu = true → ∀ z, Xk T ks (.x 4) ((1, .ptr 0 0) :: (5, .int .i64 i) :: z) (some b.cells :: g) Q) →
    (freshR ((b.bl.take i).drop k) b.bl[i].nu = false → Xk T ks .r [(2, .int .i64 6)] (some b.cells :: g) Q) →
    Xc T l_ref11_Check_1 ks [(1, .ptr 0 0), (5, .int .i64 i), (6, .int .i64 k)] (some b.cells :: g) Q := by
  have bl := b5s_len b.bl
  have gi := b5s_get b.bl i hi
  intro m
  induction m with
  | zero =>
    intro k hk ks Q h1 h2
    have e : (b.bl.take i).drop k = [] := List.drop_eq_nil_of_le (by rw [List.length_take]; omega)
    rw [e] at h1
    have e2 : (k : Int) = i := by omega
    rw [L_ref11_Check_1]; unfold bl_ref11_Check_1
    simp (disch := omega) [e2]
    exact h1 rfl _
  | succ m ih =>
    intro k hk ks Q h1 h2
    have hl : k < b.bl.length := by omega
    have e : (b.bl.take i).drop k = b.bl[k] :: (b.bl.take i).drop (k + 1) := by
      rw [List.drop_eq_getElem_cons (by rw [List.length_take]; omega), List.getElem_take]
    rw [e] at h1 h2
    have gt := b5s_get b.bl k hl
    have ih := ih (k + 1) (by omega)
    rw [show ((k + 1 : Nat) : Int) = (k : Int) + 1 from rfl] at ih
    have hki : k < i := by omega
    rw [L_ref11_Check_1]; unfold bl_ref11_Check_1
    simp (disch := omega) [bl, gt, gi, hi, hl, hki, blkV_cells, BB.c19]
    by_cases c : b.bl[k].nu = b.bl[i].nu
    · simp (disch := omega) [c]
      exact h2 (by simp [freshR, c])
    · simp (disch := omega) [c]
      refine ih ks Q (fun h => h1 ?_) (fun h => h2 ?_)
      · simp only [freshR, List.all_cons] at h ⊢; simp [c, h]
      · simp only [freshR, List.all_cons] at h ⊢; simp only [h, Bool.and_false]
def refF (l : List B5) : Nat → Nat → Bool
  | 0, _ => true
  | m + 1, i => if h : i < l.length then (if l[i].ty = 1 ∨ l[i].nu < 2 ∨ freshR (l.take i) l[i].nu = false then false else refF l m (i + 1)) else true
theorem r2_loop (b : BB) (hn : b.bl.length ≤ 1000000) (g : Heap) : ∀ (m i : Nat), i + m = b.bl.length → ∀ ks Q,
    (refF b.bl m i = true → ∀ z, Xk T ks (.x 2) z (some b.cells :: g) Q) →
    (refF b.bl m i = false → Xk T ks .r [(2, .int .i64 6)] (some b.cells :: g) Q) →
    Xc T l_ref11_Check_2 ks [(1, .ptr 0 0), (5, .int .i64 i)] (some b.cells :: g) Q := by
  have bl := b5s_len b.bl
  intro m
  induction m with
  | zero =>
    intro i hi ks Q h1 h2
    have e2 : ¬ (i : Int) < b.bl.length := by omega
    have e3 : ¬ i < b.bl.length := by omega
    rw [L_ref11_Check_2]; unfold bl_ref11_Check_2
    simp (disch := omega) [bl, e2, e3, BB.c19]
    exact h1 rfl _
  | succ m ih =>
    intro i hi ks Q h1 h2
    have hl : i < b.bl.length := by omega
    have e : refF b.bl (m + 1) i = if b.bl[i].ty = 1 ∨ b.bl[i].nu < 2 ∨ freshR (b.bl.take i) b.bl[i].nu = false then false else refF b.bl m (i + 1) := by
      rw [refF, dif_pos hl]
    rw [e] at h1 h2
    have gt := b5s_get b.bl i hl
    have r1 := r1_loop b hn g i hl i 0 (by omega)
    have ih := ih (i + 1) (by omega)
    rw [show ((i + 1 : Nat) : Int) = (i : Int) + 1 from rfl] at ih
    rw [L_ref11_Check_2]; unfold bl_ref11_Check_2
    simp (disch := omega) [bl, gt, hl, blkV_cells, BB.c19]
    by_cases c1 : b.bl[i].ty = 1
    · simp (disch := omega) [c1]
      exact h2 (by rw [if_pos (.inl c1)])
    by_cases c2 : b.bl[i].nu < 2
    · simp (disch := omega) [bl, gt, hl, blkV_cells, BB.c19, c1, c2]
      exact h2 (by rw [if_pos (.inr (.inl c2))])
    simp (disch := omega) [bl, gt, hl, blkV_cells, BB.c19, c1, c2]
    refine r1 _ _ (fun h z => ?_) (fun h => ?_)
    · have h : freshR (b.bl.take i) b.bl[i].nu = true := h
      simp (disch := omega)
      refine ih ks Q (fun q => h1 ?_) (fun q => h2 ?_)
      · rw [if_neg (by rw [h]; simp [c1, c2]), q]
      · rw [if_neg (by rw [h]; simp [c1, c2]), q]
    · have h : freshR (b.bl.take i) b.bl[i].nu = false := h
      simp (disch := omega)
      exact h2 (by rw [if_pos (.inr (.inr h))])
theorem freshR_false (l : List B5) (n : Int) : freshR l n = false ↔ ∃ x ∈ l, x.nu = n := by
  unfold freshR
  rw [← Bool.not_eq_true, List.all_eq_true]
  constructor
  · intro h
    apply Classical.byContradiction
    intro q
    exact h (fun x hx => by
      have : ¬ x.nu = n := fun e => q ⟨x, hx, e⟩
      simp [this])
  · rintro ⟨x, hx, e⟩ h
    have := h x hx
    simp [e] at this
theorem mem_insU (l : List Int) (a n : Int) : n ∈ insU l a ↔ n ∈ l ∨ n = a := by
  unfold insU
  split
  · rename_i h
    constructor
    · exact .inl
    · rintro (q | rfl)
      · exact q
      · exact h
  · simp
theorem refF_unlF (l : List B5) (hp : ∀ x ∈ l, 0 ≤ x.nu) : ∀ (m i : Nat) (seen : List Int), i + m = l.length → (∀ n, 0 ≤ n → (n ∈ seen ↔ n = 0 ∨ n = 1 ∨ ∃ x ∈ l.take i, x.nu = n)) → refF l m i = unlF seen (l.drop i) := by
  intro m
  induction m with
  | zero =>
    intro i seen hi hs
    have e : l.drop i = [] := List.drop_eq_nil_of_le (by omega)
    rw [e]; rfl
  | succ m ih =>
    intro i seen hi hs
    have hl : i < l.length := by omega
    have e := List.drop_eq_getElem_cons hl
    have h0 := hp l[i] (List.getElem_mem hl)
    rw [e]
    have e1 : refF l (m + 1) i = if l[i].ty = 1 ∨ l[i].nu < 2 ∨ freshR (l.take i) l[i].nu = false then false else refF l m (i + 1) := by rw [refF, dif_pos hl]
    have e2 : unlF seen (l[i] :: l.drop (i + 1)) = if l[i].nu ∈ seen ∨ l[i].ty = 1 then false else unlF (insU seen l[i].nu) (l.drop (i + 1)) := rfl
    rw [e1, e2]
    have q := hs _ h0
    have cc : (l[i].ty = 1 ∨ l[i].nu < 2 ∨ freshR (l.take i) l[i].nu = false) ↔ (l[i].nu ∈ seen ∨ l[i].ty = 1) := by
      rw [q, freshR_false]
      constructor
      · rintro (a | a | a)
        · exact .inr a
        · exact .inl (by omega)
        · exact .inl (.inr (.inr a))
      · rintro ((a | a | a) | a)
        · exact .inr (.inl (by omega))
        · exact .inr (.inl (by omega))
        · exact .inr (.inr a)
        · exact .inl a
    by_cases c : l[i].nu ∈ seen ∨ l[i].ty = 1
    · rw [if_pos c, if_pos (cc.2 c)]
    · rw [if_neg c, if_neg (fun h => c (cc.1 h))]
      refine ih (i + 1) _ (by omega) (fun n hn => ?_)
      rw [mem_insU, hs n hn, List.take_succ, List.getElem?_eq_getElem hl]
      simp only [Option.toList_some, List.mem_append, List.mem_singleton]
      constructor
      · rintro ((a | a | ⟨x, hx, a⟩) | a)
        · exact .inl a
        · exact .inr (.inl a)
        · exact .inr (.inr ⟨x, .inl hx, a⟩)
        · exact .inr (.inr ⟨_, .inr rfl, a.symm⟩)
      · rintro (a | a | ⟨x, hx | hx, a⟩)
        · exact .inl (.inl a)
        · exact .inl (.inr (.inl a))
        · exact .inl (.inr (.inr ⟨x, hx, a⟩))
        · exact .inr (by rw [← a, hx])
theorem ref_unl (l : List B5) (hp : ∀ x ∈ l, 0 ≤ x.nu) : refF l l.length 0 = unlF [0, 1] l := by
  have := refF_unlF l hp l.length 0 [0, 1] (by omega) (fun n _ => by simp)
  simpa using this
theorem r0_stop (b : BB) (hn : b.bl.length ≤ 1000000) (g : Heap) (z : Int) (hz : z ≠ 0) (ks Q) (h1 : ∀ w, Xk T ks (.x 0) ((1, .ptr 0 0) :: (3, .int .i64 z) :: w) (some b.cells :: g) Q) :
    Xc T l_ref11_Check_0 ks [(1, .ptr 0 0), (3, .int .i64 z), (4, .int .i64 0)] (some b.cells :: g) Q := by
  have bl := b5s_len b.bl
  rw [L_ref11_Check_0]; unfold bl_ref11_Check_0
  by_cases d : 0 < b.bl.length
  · have d' : (0 : Int) < b.bl.length := by omega
    simp (disch := omega) [bl, BB.c19, hz, d, d']
    exact h1 _
  · have d' : ¬ (0 : Int) < b.bl.length := by omega
    simp (disch := omega) [bl, BB.c19, hz, d, d']
    exact h1 _
theorem R11Check_run (b : BB) (ok : PPok b.p) (hn : b.bl.length ≤ 1000000) (hp : ∀ x ∈ b.bl, 0 ≤ x.nu) : ∃ h', Run T f_ref11_Check [b.v] [] (.int .i64 (chkB b)) h' := by
  have bl := b5s_len b.bl
  obtain ⟨_, r1⟩ := CheckR_run b.p ok []
  obtain ⟨_, r2⟩ := R9Check_run b.pay.ty b.pay.nu b.pay.fl b.pay.k b.pay.s []
  have tp : V.agg (b.cells.take 19) = b.p.v := rfl
  have ty : V.agg ((b.cells.drop 20).take 5) = blkV b.pay.ty b.pay.nu b.pay.fl b.pay.k b.pay.s := rfl
  have hpp := PP.hf b.p
  have hb : V.hf (blkV b.pay.ty b.pay.nu b.pay.fl b.pay.k b.pay.s) = true := by simp [blkV]
  have lp := r0_loop b hn [] b.bl.length 0 (by omega)
  have l0 := r0_stop b hn []
  have l2 := r2_loop b hn [] b.bl.length 0 (by omega)
  rw [ref_unl b.bl hp] at l2
  refine Run.startE t_ref11_Check ?_
  unfold k_ref11_Check BB.v chkB
  by_cases g1 : 16 < b.bl.length
  · have g1' : (16 : Int) < b.bl.length := by omega
    simp (disch := omega) [bl, BB.c19, BB.len, BB.one, g1, g1']
  have g1' : ¬ (16 : Int) < b.bl.length := by omega
  simp (disch := omega) [bl, BB.c19, BB.len, BB.one, g1, g1', tp]
  rw [Xp_run r1 (by simp [hpp]) rfl (by simp)]
  generalize chkP b.p = z1 at *
  by_cases g2 : z1 = 0
  · simp (disch := omega) [g2, BB.len, ty]
    rw [Xp_run r2 (by simp [hb]) rfl (by simp)]
    generalize chkS b.pay.nu b.pay.k b.pay.s = z2 at *
    by_cases g3 : z2 = 0
    · simp (disch := omega) [g3, BB.len, BB.c19, bl]
      refine lp _ _ (fun z => ?_)
      rw [List.drop_zero]
      by_cases g4 : firstE b.bl = 0
      · simp (disch := omega) [g4, BB.c20, BB.c21]
        by_cases g5 : b.pay.ty = 1
        · by_cases g6 : b.pay.nu = 1
          · simp (disch := omega) [g5, g6, BB.c19, BB.c21]
            refine l2 _ _ (fun h w => ?_) (fun h => ?_)
            · simp (disch := omega) [h]
            · simp (disch := omega) [h]
          · simp (disch := omega) [g5, g6, BB.c21]
        · simp (disch := omega) [g5]
      · simp (disch := omega) [g4]
    · simp (disch := omega) [g3]
      refine l0 _ g3 _ _ (fun w => ?_)
      simp (disch := omega) [g3]
  · simp (disch := omega) [g2]
    refine l0 _ g2 _ _ (fun w => ?_)
    simp (disch := omega) [g2]
theorem same_loop (b : BB) (hn : b.bl.length ≤ 1000000) : ∀ (m i : Nat), i + m = b.bl.length → ∀ ks Q,
    (∀ z, Xk T ks (.x 0) z [some b.cells, some b.cells] Q) →
    Xc T l_ref11_Same_0 ks [(2, .ptr 0 0), (3, .ptr 1 0), (5, .int .i64 i)] [some b.cells, some b.cells] Q := by
  have bl := b5s_len b.bl
  intro m
  induction m with
  | zero =>
    intro i hi ks Q h1
    have e2 : ¬ (i : Int) < b.bl.length := by omega
    have e3 : ¬ i < b.bl.length := by omega
    rw [L_ref11_Same_0]; unfold bl_ref11_Same_0
    simp (disch := omega) [bl, e2, e3, BB.c19]
    exact h1 _
  | succ m ih =>
    intro i hi ks Q h1
    have hl : i < b.bl.length := by omega
    have gt := b5s_get b.bl i hl
    have ih := ih (i + 1) (by omega)
    rw [show ((i + 1 : Nat) : Int) = (i : Int) + 1 from rfl] at ih
    rw [L_ref11_Same_0]; unfold bl_ref11_Same_0
    simp (disch := omega) [bl, gt, hl, blkV_cells, BB.c19]
    exact ih ks Q h1
theorem R11Same_run (b : BB) (hn : b.bl.length ≤ 1000000) : ∃ h', Run T f_ref11_Same [b.v, b.v] [] (.bool true) h' := by
  have bl := b5s_len b.bl
  have tp : V.agg (b.cells.take 19) = b.p.v := rfl
  have ty : V.agg ((b.cells.drop 20).take 5) = blkV b.pay.ty b.pay.nu b.pay.fl b.pay.k b.pay.s := rfl
  have lp := same_loop b hn b.bl.length 0 (by omega)
  refine Run.startE t_ref11_Same ?_
  unfold k_ref11_Same BB.v
  simp (disch := omega) [BB.len, BB.one, tp, ty, PP.v, blkV, BB.c19, bl]
  exact lp _ _ (fun z => by simp)
def xc (ty n fl k : Int) (s : List UInt8) : List V := [.int .u64 ty, .int .u64 n, .int .u64 fl, .int .i64 k, .str s]
def zB : BB := ⟨⟨0, 0, ⟨0, [], 0, 0⟩, ⟨0, [], 0, 0⟩, ⟨0, [], 0, 0⟩, 0, 0, 0, 0, 0⟩, [], ⟨0, 0, 0, 0, []⟩⟩
theorem BB.sp (a b : BB) : spliceL a.cells 0 b.cells = b.cells := rfl
theorem BB.tk (b : BB) : b.cells.take 25 = b.cells := rfl
theorem awake11 : ∃ h', Run T f_law11_awake [] [] (.bool true) h' := Run.closed (n := 200) (by kernel_rfl)
section
variable {ks : List Kt} {ops : List AOpr} {K : Kp} {e : Env} {h : Heap} {Q : Ex → Env → Heap → Prop} {d : Nat} {lent : Bool}
theorem awake11_p : Xp T f_law11_awake (some ([], lent)) h (some d) ops K ks e Q = Xo T ops K ks ((d, .bool true) :: e) h Q := by
  obtain ⟨h', r⟩ := awake11
  exact Xp_run r (by simp) rfl (by simp [scalar])
end
abbrev sh5 : List CS := [.i .u64, .i .u64, .i .u64, .i .i64, .s]
abbrev sh25 : List CS := [.i .u64, .i .i64, .i .i64, .s, .i .u64, .i .u64, .i .i64, .s, .i .u64, .i .u64, .i .i64, .s, .i .u64, .i .u64, .i .u64, .i .u64, .i .u64, .i .u64, .i .u64, .sl true 48 sh5, .i .u64, .i .u64, .i .u64, .i .i64, .s]
structure B5in (x : B5) : Prop where
  ty : u64B x.ty
  nu : u64B x.nu
  fl : u64B x.fl
  k1 : -9223372036854775808 ≤ x.k
  k2 : x.k ≤ 9223372036854775807
  s : x.s.length ≤ 140737488351232
theorem readB5 (vs : List V) (hr : Row sh5 vs) : ∃ x : B5, V.agg vs = x.v ∧ B5in x := by
  obtain ⟨v0, r0, rfl, t0, hr⟩ := hr.cons
  obtain ⟨v1, r1, rfl, t1, hr⟩ := hr.cons
  obtain ⟨v2, r2, rfl, t2, hr⟩ := hr.cons
  obtain ⟨v3, r3, rfl, t3, hr⟩ := hr.cons
  obtain ⟨v4, r4, rfl, t4, hr⟩ := hr.cons
  obtain rfl := hr.none
  obtain ⟨x0, rfl, a0, b0⟩ := t0.int
  obtain ⟨x1, rfl, a1, b1⟩ := t1.int
  obtain ⟨x2, rfl, a2, b2⟩ := t2.int
  obtain ⟨x3, rfl, a3, b3⟩ := t3.int
  obtain ⟨x4, rfl, a4⟩ := t4.str
  exact ⟨⟨x0, x1, x2, x3, x4⟩, rfl, ⟨⟨a0, b0⟩, ⟨a1, b1⟩, ⟨a2, b2⟩, a3, b3, a4⟩⟩
theorem readB5s : ∀ xs : List V, (∀ y ∈ xs, ∃ vs, y = .agg vs ∧ Row sh5 vs) → ∃ l : List B5, xs = b5s l ∧ ∀ y ∈ l, B5in y
  | [], _ => ⟨[], rfl, fun _ h => nomatch h⟩
  | x :: xs, h => by
    obtain ⟨vs, rfl, hr⟩ := h _ List.mem_cons_self
    obtain ⟨y, e, hy⟩ := readB5 vs hr
    obtain ⟨l, rfl, hl⟩ := readB5s xs (fun y hy => h y (List.mem_cons_of_mem _ hy))
    refine ⟨y :: l, by rw [e]; rfl, fun z hz => ?_⟩
    rcases List.mem_cons.1 hz with q | q
    · rw [q]; exact hy
    · exact hl z q
structure BBin (b : BB) : Prop where
  p : PPin b.p
  bl : ∀ y ∈ b.bl, B5in y
  pay : B5in b.pay
theorem row_cut {ss ts : List CS} {vs : List V} (hr : Row (ss ++ ts) vs) : ∃ as bs, vs = as ++ bs ∧ Row ss as ∧ Row ts bs := by
  refine ⟨vs.take ss.length, vs.drop ss.length, (List.take_append_drop _ _).symm, ?_, ?_⟩
  · obtain ⟨hl, h⟩ := hr
    rw [List.length_append] at hl
    refine ⟨by rw [List.length_take]; omega, fun j h1 h2 => ?_⟩
    have := h j (by rw [List.length_append]; omega) (by omega)
    rw [List.getElem_append_left h1] at this
    rw [List.getElem_take]; exact this
  · obtain ⟨hl, h⟩ := hr
    rw [List.length_append] at hl
    refine ⟨by rw [List.length_drop]; omega, fun j h1 h2 => ?_⟩
    have := h (ss.length + j) (by rw [List.length_append]; omega) (by omega)
    rw [List.getElem_append_right (by omega)] at this
    rw [List.getElem_drop]
    simpa using this
theorem readBB (vs : List V) (hr : Row sh25 vs) : ∃ b : BB, V.agg vs = b.v ∧ BBin b := by
  obtain ⟨as, bs, rfl, h1, h2⟩ := row_cut (ss := sh10) (ts := [.sl true 48 sh5, .i .u64, .i .u64, .i .u64, .i .i64, .s]) hr
  obtain ⟨p, ep, hp⟩ := readPP as h1
  obtain ⟨v, cs, rfl, tv, h3⟩ := h2.cons
  obtain ⟨y, ey, hy⟩ := readB5 cs h3
  obtain ⟨xs, rfl, _, hxs⟩ := tv.elems_agg
  obtain ⟨l, rfl, hl⟩ := readB5s xs hxs
  have e1 : as = p.cells := by have := V.agg.inj (ep.trans (show p.v = .agg p.cells from rfl)); exact this
  have e2 : cs = xc y.ty y.nu y.fl y.k y.s := V.agg.inj (ey.trans (show y.v = .agg (xc y.ty y.nu y.fl y.k y.s) from rfl))
  subst e1 e2
  exact ⟨⟨p, l, y⟩, rfl, ⟨hp, hl, hy⟩⟩
/-- A block that may be. -/
structure Bok (x : B5) : Prop where
  i : B5in x
  c : chkS x.nu x.k x.s = 0
def tX (x : B5) : T6 := refT x.ty x.nu x.fl x.k.toNat x.s
def encX (x : B5) : List UInt8 := enc (tX x)
def encXs : List B5 → List UInt8
  | [] => []
  | x :: r => encX x ++ encXs r
theorem encXs_app (l m : List B5) : encXs (l ++ m) = encXs l ++ encXs m := by
  induction l with
  | nil => rfl
  | cons x l ih => simp [encXs, ih]
theorem Bok.k {x : B5} (h : Bok x) : 0 ≤ x.k ∧ x.k ≤ 2 ∧ x.s.length ≤ 65536 := by
  have hc := h.c
  unfold chkS at hc
  split at hc
  · omega
  · split at hc
    · omega
    · omega
theorem Bok.vals {x : B5} (h : Bok x) : GoodL (Ev.vals x.ty x.nu x.fl x.k.toNat x.s) := by
  obtain ⟨k1, k2, k3⟩ := h.k
  exact vals_good _ _ _ _ _ h.i.ty.1 h.i.ty.2 h.i.nu.1 h.i.nu.2 h.i.fl.1 h.i.fl.2 (by omega) (by omega) (by omega)
theorem Bok.good {x : B5} (h : Bok x) : Good (tX x) := by
  have := h.k
  exact refT_good _ _ _ _ _ h.vals (by omega)
theorem blkT_w (ty nu fl : Int) (k : Nat) (s S : List UInt8) : (blkT ty nu fl k s S).w ≤ s.length + S.length + 11 := by
  simp [blkT, node, Ev.vals, num6, byt6, T6.w, T6.ws]; omega
theorem Bok.w {x : B5} : (tX x).w ≤ x.s.length + 15 := by
  unfold tX refT
  have wl := widthN_le x.k.toNat
  split
  · simp [node, Ev.vals, num6, byt6, T6.w, T6.ws]; omega
  · have sl := sumB_len x.k.toNat (enc (blkT x.ty x.nu x.fl x.k.toNat x.s (List.replicate (widthN x.k.toNat) 0)))
    have := blkT_w x.ty x.nu x.fl x.k.toNat x.s (sumB x.k.toNat (enc (blkT x.ty x.nu x.fl x.k.toNat x.s (List.replicate (widthN x.k.toNat) 0))))
    omega
theorem Bok.len {x : B5} : (encX x).length ≤ 9 * (x.s.length + 15) := by
  have := enc_len (tX x)
  have := Bok.w (x := x)
  unfold encX
  omega
theorem bput_run {x : B5} (hx : Bok x) (h : Heap) : ∃ h', Run T f_block_Put [x.v] h (.tup [.ps 1 (bys (encX x)), .int .i64 0]) h' := by
  obtain ⟨k1, k2, k3⟩ := hx.k
  obtain ⟨h', r⟩ := blockPutA_run x.ty x.nu x.fl x.k.toNat x.s h hx.vals (by omega) (by rw [Int.toNat_of_nonneg k1]; exact hx.c)
  rw [Int.toNat_of_nonneg k1] at r
  exact ⟨h', r⟩
theorem bget_run {x : B5} (hx : Bok x) : ∃ h', Run T f_block_Get [anyV (tX x)] [] (.tup [x.v, .int .i64 0]) h' := by
  obtain ⟨k1, k2, k3⟩ := hx.k
  obtain ⟨h', r⟩ := GetA_run x.ty x.nu x.fl x.k.toNat x.s hx.vals (by omega) (by rw [Int.toNat_of_nonneg k1]; exact hx.c) (by omega)
  rw [Int.toNat_of_nonneg k1] at r
  exact ⟨h', r⟩
theorem put_loop (L : List B5) (hn : L.length ≤ 1000) (hL : ∀ x ∈ L, Bok x) (C : Option (List V)) : ∀ (m i : Nat), i + m = L.length → ∀ (acc : List UInt8) (g : Heap), acc.length ≤ 100000000 + i * 5000000 → ∀ ks Q,
    (∀ z g', Xk T ks (.x 0) ((5, .ps 1 (bys (acc ++ encXs (L.drop i)))) :: z) (C :: g') Q) →
    Xc T l_bundle_Put_0 ks [(5, .ps 1 (bys acc)), (39, .ps 5 (b5s L)), (40, .int .i64 L.length), (41, .int .i64 i)] (C :: g) Q := by
  have bl := b5s_len L
  intro m
  induction m with
  | zero =>
    intro i hi acc g ha ks Q h1
    have e : L.drop i = [] := List.drop_eq_nil_of_le (by omega)
    rw [e] at h1
    have e2 : (i : Int) = L.length := by omega
    simp only [encXs, List.append_nil] at h1
    rw [L_bundle_Put_0]; unfold bl_bundle_Put_0
    simp (disch := omega) [bl, e2]
    exact h1 _ _
  | succ m ih =>
    intro i hi acc g ha ks Q h1
    have hl : i < L.length := by omega
    have e := List.drop_eq_getElem_cons hl
    rw [e] at h1
    have gt := b5s_get L i hl
    have ih := ih (i + 1) (by omega)
    rw [show ((i + 1 : Nat) : Int) = (i : Int) + 1 from rfl] at ih
    have hx := hL L[i] (List.getElem_mem hl)
    rw [L_bundle_Put_0]; unfold bl_bundle_Put_0
    simp (disch := omega) [bl, gt, hl, blkV_cells]
    generalize L[i] = x at *
    obtain ⟨_, r⟩ := bput_run hx []
    have xl := Bok.len (x := x)
    have hk := hx.k
    unfold B5.v blkV at r
    rw [Xp_run r (by simp) (by simp [bys_hfs]) (by simp)]
    have f1 : encXs (x :: L.drop (i + 1)) = encX x ++ encXs (L.drop (i + 1)) := rfl
    rw [f1, ← List.append_assoc] at h1
    simp (disch := omega) [bys_len]
    have := ih (acc ++ encX x) (g ++ [some (xc x.ty x.nu x.fl x.k x.s)]) (by rw [List.length_append]; omega) ks Q h1
    rw [bys_app] at this
    exact this
def flatB : List B5 → List V
  | [] => []
  | x :: r => xc x.ty x.nu x.fl x.k x.s ++ flatB r
theorem flatB_len : ∀ l : List B5, (flatB l).length = l.length * 5
  | [] => rfl
  | x :: r => by simp [flatB, flatB_len r, xc]; omega
theorem flatB_app (l m : List B5) : flatB (l ++ m) = flatB l ++ flatB m := by
  induction l with
  | nil => rfl
  | cons x l ih => simp [flatB, ih]
theorem chunkB : ∀ l : List B5, chunk 5 true l.length (flatB l) = b5s l
  | [] => rfl
  | x :: r => by
    have ih := chunkB r
    show (V.agg ((flatB (x :: r)).take 5)) :: chunk 5 true r.length ((flatB (x :: r)).drop 5) = _
    have e1 : (flatB (x :: r)).take 5 = xc x.ty x.nu x.fl x.k x.s := by
      show (xc x.ty x.nu x.fl x.k x.s ++ flatB r).take 5 = _
      exact List.take_left' rfl
    have e2 : (flatB (x :: r)).drop 5 = flatB r := by
      show (xc x.ty x.nu x.fl x.k x.s ++ flatB r).drop 5 = _
      exact List.drop_left' rfl
    rw [e1, e2, ih]
    rfl
/-- A bundle under way: its blocks lie in the heap. -/
def bzC (sv : V) (x : B5) : List V := [.int .u64 0, .int .i64 0, .int .i64 0, .str [], .int .u64 0, .int .u64 0, .int .i64 0, .str [], .int .u64 0, .int .u64 0, .int .i64 0, .str [], .int .u64 0, .int .u64 0, .int .u64 0, .int .u64 0, .int .u64 0, .int .u64 0, .int .u64 0, sv, .int .u64 x.ty, .int .u64 x.nu, .int .u64 x.fl, .int .i64 x.k, .str x.s]
theorem bz_len (sv : V) (x : B5) : (bzC sv x).length = 25 := rfl
theorem bz_19 (sv : V) (x : B5) : (bzC sv x)[19]? = some sv := rfl
theorem bz_tk (sv : V) (x : B5) : (bzC sv x).take 25 = bzC sv x := rfl
theorem bz_s19 (sv v : V) (x : B5) : spliceL (bzC sv x) 19 [v] = bzC v x := rfl
def zB5 : B5 := ⟨0, 0, 0, 0, []⟩
/-- Where the blocks lie that were read. -/
def Hs (sv : V) (l : List B5) (h : Heap) : Prop := (sv = .hn 5 ∧ l = []) ∨ ∃ b, sv = .hs 5 b 0 l.length ∧ 2 ≤ b ∧ h.row b = some (flatB l)
theorem Hs.ext {sv : V} {l : List B5} {a b : Option (List V)} {g : Heap} (h : Hs sv l (a :: b :: g)) (w : Heap) (a' b' : Option (List V)) : Hs sv l (a' :: b' :: (g ++ w)) := by
  rcases h with h | ⟨i, e, hi, hr⟩
  · exact .inl h
  · refine .inr ⟨i, e, hi, ?_⟩
    obtain ⟨j, rfl⟩ : ∃ j, i = j + 2 := ⟨i - 2, by omega⟩
    unfold Heap.row at hr ⊢
    simp only [List.getElem?_cons_succ] at hr ⊢
    cases hg : g[j]? with
    | none => rw [hg] at hr; cases hr
    | some v => rw [List.getElem?_append_left (by have := List.getElem?_eq_some_iff.1 hg; exact this.1), hg]; rw [hg] at hr; exact hr
theorem frz_bz {sv : V} {l : List B5} {a c : Option (List V)} {g : Heap} (x : B5) (hs : Hs sv l (a :: c :: g)) : ∃ g', freezeA true (.agg (bzC sv x)) (a :: c :: g) = some (.agg (BB.cells ⟨zB.p, l, x⟩), a :: c :: g') := by
  rcases hs with ⟨rfl, rfl⟩ | ⟨b, rfl, hb, hr⟩
  · exact ⟨g, rfl⟩
  · obtain ⟨j, rfl⟩ : ∃ j, b = j + 2 := ⟨b - 2, by omega⟩
    refine ⟨g.set j none, ?_⟩
    have fl := flatB_len l
    have f1 : freeze1 (true || decide (1 < 5)) (.hs 5 (j + 2) 0 l.length) (a :: c :: g) = some (.ps 5 (b5s l), a :: c :: g.set j none) := by
      simp only [freeze1, hsCells, hr, Option.bind_some, Nat.zero_add, List.drop_zero]
      rw [if_pos (by omega), Option.bind_some, List.take_of_length_le (by omega), if_pos (by simp [chunkOk])]
      have := chunkB l
      simp only [Bool.true_or]
      rw [this]
      rfl
    show (freezeC true (bzC _ x) _).bind _ = _
    unfold bzC
    simp only [freezeC, Option.bind_some]
    rw [f1]
    simp only [Option.bind_some]
    rfl
theorem Hs.one {sv : V} {l : List B5} {h : Heap} (hs : Hs sv l h) : sv.one = true := by
  rcases hs with ⟨rfl, _⟩ | ⟨b, rfl, _⟩ <;> rfl
theorem Hs.len {sv : V} {l : List B5} {h : Heap} (hs : Hs sv l h) : lenV false sv = some (.int .i64 l.length) := by
  rcases hs with ⟨rfl, rfl⟩ | ⟨b, rfl, _⟩ <;> rfl
/-- One block more. -/
theorem Hs.push {sv : V} {l : List B5} {a b : Option (List V)} {g : Heap} (x : B5) (hs : Hs sv l (a :: b :: g)) (hl : l.length ≤ 1000) : ∃ sv' g', appH (a :: b :: g) 5 48 sv (.ps 5 [.agg (xc x.ty x.nu x.fl x.k x.s)]) = some (sv', a :: b :: g') ∧ ∀ b', Hs sv' (l ++ [x]) (a :: b' :: g') := by
  have nc : ∀ h : Heap, newCells h 5 (.ps 5 [.agg (xc x.ty x.nu x.fl x.k x.s)]) = some (xc x.ty x.nu x.fl x.k x.s) := fun h => by simp [newCells, xc]
  have xl : (xc x.ty x.nu x.fl x.k x.s).length = 5 := rfl
  rcases hs with ⟨rfl, rfl⟩ | ⟨i, rfl, hi, hr⟩
  · refine ⟨.hs 5 (g.length + 2) 0 1, g ++ [some (xc x.ty x.nu x.fl x.k x.s)], ?_, fun b' => .inr ⟨g.length + 2, rfl, by omega, ?_⟩⟩
    · rw [appH_hn, nc, Option.bind_some, if_neg (by omega), if_pos (by omega), xl]
      rfl
    · have : (g ++ [some (xc x.ty x.nu x.fl x.k x.s)])[g.length]? = some (some (xc x.ty x.nu x.fl x.k x.s)) := List.getElem?_concat_length
      simp [Heap.row, flatB, this]
  · have fl := flatB_len l
    obtain ⟨j, rfl⟩ : ∃ j, i = j + 2 := ⟨i - 2, by omega⟩
    refine ⟨.hs 5 (g.length + 2) 0 (l.length + 1), g.set j none ++ [some (flatB (l ++ [x]))], ?_, fun b' => .inr ⟨g.length + 2, by simp, by omega, ?_⟩⟩
    · rw [appH_hs, hr, Option.bind_some, nc, Option.bind_some, if_pos (by omega), xl, List.drop_zero, flatB_app]
      simp [flatB]
    · have : (g.set j none ++ [some (flatB (l ++ [x]))])[g.length]? = some (some (flatB (l ++ [x]))) := by
        have := List.getElem?_concat_length (l := g.set j none) (a := some (flatB (l ++ [x])))
        rwa [List.length_set] at this
      simp [Heap.row, this]
theorem blocks_loop (pay : B5) (hp : Bok pay) (h1 : pay.ty = 1) (rest : List UInt8) : ∀ (r l : List B5) (pre : List UInt8) (sv : V) (g : Heap), (∀ x ∈ r, Bok x ∧ x.ty ≠ 1) → l.length + r.length ≤ 16 → Hs sv l (some zB.cells :: some (bzC sv zB5) :: g) → pre.length + (encXs (r ++ [pay]) ++ rest).length ≤ 100000000 → ∀ ks Q,
    (∀ g', Xk T ks .r [(2, .ptr 0 0), (3, .int .i64 ((pre ++ encXs (r ++ [pay])).length : Nat)), (4, .int .i64 0)] (some (BB.cells ⟨zB.p, l ++ r, pay⟩) :: g') Q) →
    Xc T l_bundle_blocks_0 ks [(0, .ps 1 (bys (pre ++ (encXs (r ++ [pay]) ++ rest)))), (2, .ptr 0 0), (5, .ptr 1 0), (6, .int .i64 pre.length)] (some zB.cells :: some (bzC sv zB5) :: g) Q
  | [], l, pre, sv, g, _, hn, hs, hl, ks, Q, hx => by
    have e : encXs ([] ++ [pay]) = encX pay := by simp [encXs]
    rw [e] at hl hx ⊢
    simp only [List.length_append] at hl
    have gd := hp.good
    obtain ⟨_, ri⟩ := itemGet_run (tX pay) rest gd.w gd.ok gd.r gd.d gd.c (by unfold encX at hl; omega)
    obtain ⟨_, rg⟩ := bget_run hp
    have ah := anyV_hf (tX pay)
    have one := hs.one
    unfold B5.v blkV at rg
    have e3 : enc (tX pay) = encX pay := rfl
    rw [e3] at ri
    generalize anyV (tX pay) = A at *
    rw [L_bundle_blocks_0]; unfold bl_bundle_blocks_0
    simp (disch := omega) [bys_len, bys_drop, List.drop_left]
    rw [Xp_run ri (by simp [bys_hfs]) (by simp [ah]) (by simp)]
    simp (disch := omega)
    rw [Xp_run rg (by simp [ah]) (by simp) (by simp)]
    have s20 : spliceL (bzC sv zB5) 20 [.int .u64 1, .int .u64 pay.nu, .int .u64 pay.fl, .int .i64 pay.k, .str pay.s] = bzC sv pay := by rw [← h1]; rfl
    have hs' := hs.ext [some [.int .u64 1, .int .u64 pay.nu, .int .u64 pay.fl, .int .i64 pay.k, .str pay.s]] (some zB.cells) (some (bzC sv pay))
    obtain ⟨g', hf⟩ := frz_bz pay hs'
    simp (disch := omega) [h1, s20, bz_len, bz_tk, hf, BB.len, BB.one, BB.sp]
    have := hx (some (bzC sv pay) :: g')
    rw [List.append_nil] at this
    simpa [List.length_append] using this
  | x :: r, l, pre, sv, g, hr, hn, hs, hl, ks, Q, hx => by
    obtain ⟨hbx, hty⟩ := hr x List.mem_cons_self
    have e : encXs ((x :: r) ++ [pay]) = encX x ++ encXs (r ++ [pay]) := rfl
    rw [e] at hl hx ⊢
    simp only [List.length_append, List.length_cons] at hl hn
    have ih := blocks_loop pay hp h1 rest r (l ++ [x]) (pre ++ encX x)
    have gd := hbx.good
    obtain ⟨_, ri⟩ := itemGet_run (tX x) (encXs (r ++ [pay]) ++ rest) gd.w gd.ok gd.r gd.d gd.c (by simp only [List.length_append]; unfold encX at hl; omega)
    obtain ⟨_, rg⟩ := bget_run hbx
    have ah := anyV_hf (tX x)
    have one := hs.one
    have hlen := hs.len
    unfold B5.v blkV at rg
    have e3 : enc (tX x) = encX x := rfl
    rw [e3] at ri
    generalize anyV (tX x) = A at *
    have l16 : ¬ (l.length : Int) = 16 := by omega
    have hs' := hs.ext [some (xc x.ty x.nu x.fl x.k x.s)] (some zB.cells) (some (bzC sv zB5))
    obtain ⟨sv', g', hap, hs2⟩ := hs'.push x (by omega)
    have hs2 := hs2 (some (bzC sv' zB5))
    have one' := hs2.one
    have cl : sv'.cells = [sv'] := by rcases hs2 with ⟨rfl, _⟩ | ⟨b, rfl, _⟩ <;> rfl
    unfold xc at hap
    rw [L_bundle_blocks_0]; unfold bl_bundle_blocks_0
    rw [List.append_assoc (encX x)]
    simp (disch := omega) [bys_len, bys_drop, List.drop_left]
    rw [Xp_run ri (by simp [bys_hfs]) (by simp [ah]) (by simp)]
    simp (disch := omega)
    rw [Xp_run rg (by simp [ah]) (by simp) (by simp)]
    simp (disch := omega) [hty, bz_19, bz_len, hlen, l16, hap, bz_s19, one', cl]
    have i1 : (pre ++ encX x).length = pre.length + (encX x).length := List.length_append
    have := ih sv' g' (fun y hy => hr y (List.mem_cons_of_mem _ hy)) (by simp only [List.length_append, List.length_cons, List.length_nil]; omega) hs2 (by simp only [List.length_append]; omega) ks Q (fun w => by
      have := hx w
      simpa [List.append_assoc] using this)
    rw [i1, List.append_assoc] at this
    exact this
theorem blocks_run (bl : List B5) (pay : B5) (rest : List UInt8) (hp : Bok pay) (h1 : pay.ty = 1) (hb : ∀ x ∈ bl, Bok x ∧ x.ty ≠ 1) (hn : bl.length ≤ 16) (hl : (encXs (bl ++ [pay]) ++ rest).length ≤ 100000000) : ∃ h', Run T f_bundle_blocks [.ps 1 (bys (encXs (bl ++ [pay]) ++ rest))] [] (.tup [.agg (BB.cells ⟨zB.p, bl, pay⟩), .int .i64 ((encXs (bl ++ [pay])).length : Nat), .int .i64 0]) h' := by
  have lp := blocks_loop pay hp h1 rest bl [] [] (.hn 5) [] hb (by simpa using hn) (.inl ⟨rfl, rfl⟩) (by simpa using hl)
  refine Run.startE t_bundle_blocks ?_
  unfold k_bundle_blocks
  simp (disch := omega)
  refine lp _ _ (fun g' => ?_)
  simp (disch := omega) [BB.len, BB.tk]
end Ev
