/- The law BlockSeals: any list with its sum, and whether any value's sum is right. Each theorem states its own conditions. -/
import Derived.Test.YtienkohkbihdoaaDoorLBlk9
set_option linter.all false
namespace Ev
open Go
set_option maxRecDepth 10000
attribute [-simp] getElem?_pos getElem?_neg List.drop_one

theorem SealE_run (L : List V) (k : Int) (h : Heap) (hL : L.length ≤ 100000000) (hk : k < 0 ∨ 2 < k) : ∃ h', Run T f_block_Seal [.ps 1 L, .int .i64 k] h (.tup [.ps 1 [], .int .i64 2]) h' := by
  refine Run.startE t_block_Seal ?_
  unfold k_block_Seal
  by_cases c : k < 0
  · simp (disch := first | omega | assumption) [c]
  · have c2 : 2 < k := by omega
    simp (disch := first | omega | assumption) [c, c2]
theorem GoodL.init {a b : List T6} (h : GoodL (a ++ b)) : GoodL a where
  w := by have := h.w; rw [ws_app] at this; omega
  ok := ((oks_app _ _).1 h.ok).1
  r := by have := h.r; rw [rgts_app, Bool.and_eq_true] at this; exact this.1
  d := by have := h.d; rw [dps_app] at this; omega
  c := by have := h.c; rw [cnts_app] at this; omega
/-- block.Open of any list answers something. -/
theorem OpenA_run (l : List T6) (h : Heap) (hl : GoodL l) (hw : T6.ws l ≤ 1048576) : ∃ L j e h', Run T f_block_Open [.iface 36 (.ps 1 (anys l))] h (.tup [.ps 1 L, .int .i64 j, .int .i64 e]) h' ∧ V.hfs L = true := by
  have ln := fun {ks ops K e h Q d} => List_n (ks := ks) (ops := ops) (K := K) (e := e) (h := h) (Q := Q) (d := d) l hl.node.w
  rcases List.eq_nil_or_concat l with rfl | ⟨a, x, rfl⟩
  · refine ⟨[], 0, 0, ?_⟩
    have : ∃ h', Run T f_block_Open [.iface 36 (.ps 1 (anys []))] h (.tup [.ps 1 [], .int .i64 0, .int .i64 0]) h' := by
      refine Run.startE t_block_Open ?_
      unfold k_block_Open
      have e0 : anys [] = [] := rfl
      rw [e0] at ln ⊢
      simp (disch := first | omega | assumption) [ln]
    obtain ⟨h', r⟩ := this
    exact ⟨h', r, rfl⟩
  · rw [List.concat_eq_append] at *
    have bw := hw
    rw [ws_app] at bw
    simp only [T6.ws] at bw
    by_cases k2 : x.k = 2
    · have e1 : anys (a ++ [x]) = anys (a ++ [byt6 (asB x)]) := by rw [anys_app, anys_app]; simp only [anys, (any_eqb x k2).1]
      rw [e1]
      have bl := asB_le x
      obtain ⟨L, j, e, h', r, r1, _⟩ := OpenG_run a (asB x) h hl.init (by simp only [T6.w, ws_app, T6.ws, List.length_nil]; omega) (by omega) 1 (.inl rfl)
      exact ⟨L, j, e, h', r, r1⟩
    · refine ⟨anys (a ++ [x]), 0, 0, ?_⟩
      have : ∃ h', Run T f_block_Open [.iface 36 (.ps 1 (anys (a ++ [x])))] h (.tup [.ps 1 (anys (a ++ [x])), .int .i64 0, .int .i64 0]) h' := by
        have hg : (anys (a ++ [x]))[a.length]? = some (anyV x) := by
          rw [anys_get, List.getElem?_append_right (by omega), Nat.sub_self]; rfl
        have hlen : (anys (a ++ [x])).length = a.length + 1 := by rw [anys_len]; simp
        have b5 := T6.ws_len a
        have hA := anys_hfs (a ++ [x])
        have pB := fun {ks ops K e h Q d} => Bytes_p (ks := ks) (ops := ops) (K := K) (e := e) (h := h) (Q := Q) (d := d) x (by omega)
        have xc := anyV_cells x
        have xo := anyV_one x
        generalize anys (a ++ [x]) = A at *
        generalize anyV x = X at *
        have z : ¬ ((a.length : Int) + 1 = 0) := by omega
        have zA : ¬ (A = []) := by intro e; rw [e] at hlen; simp at hlen
        have e1 : ((A.length : Int) - 1).toNat = a.length := by omega
        have w1 : (1 : Int) ≤ A.length := by omega
        refine Run.startE t_block_Open ?_
        unfold k_block_Open
        simp (disch := first | omega | assumption) [ln, z, hlen, hg, pB, k2, xc, xo]
      obtain ⟨h', r⟩ := this
      exact ⟨h', r, anys_hfs _⟩
theorem open3 : ∃ h', Run T f_block_Open [.iface 22 (.int .u64 3)] [] (.tup [.ps 1 [], .int .i64 0, .int .i64 18]) h' := by
  refine Run.startE t_block_Open ?_
  unfold k_block_Open
  have pl := fun {ks ops K e h Q d} => List_p (ks := ks) (ops := ops) (K := K) (e := e) (h := h) (Q := Q) (d := d) (num6 3) (by decide)
  have e1 : asL (num6 3) = [] := rfl
  have e2 : (num6 3).k = 0 := rfl
  rw [any_num, e1, e2] at pl
  have e0 : anys [] = [] := rfl
  rw [e0] at pl
  simp (disch := first | omega | assumption) [pl]
theorem Seals_run (t : T6) (kk : Int) (hw : t.w ≤ 1048576) (ok : t.ok) : ∃ h', Run T f_law09_BlockSeals [t.v, .int .i64 kk] [] (.bool true) h' := by
  have ve := v_eq t
  have vh := T6.v_hf t
  have vc : t.v.cells.length = 4 := T6.cells_len t
  have tc : t.v.cells = [.int .i64 t.k, .int .u64 t.n, .str t.s, .ps 4 (T6.vs t.l)] := by rw [ve]; rfl
  have fz : V.agg [.int .i64 t.k, .int .u64 t.n, .str t.s, .ps 4 (T6.vs t.l)] = t.v := ve.symm
  refine Run.startE t_law09_BlockSeals ?_
  unfold k_law09_BlockSeals
  have sz := fun {ks ops K e h Q d} => Sz_p t (by omega) (ks := ks) (ops := ops) (K := K) (e := e) (h := h) (Q := Q) (d := d)
  simp (disch := first | omega | assumption) [vc, fz, sz, tc]
  by_cases c1 : 10 < dp t
  · simp (disch := first | omega | assumption) [c1, awake9_p]
  simp (disch := first | omega | assumption) [c1]
  by_cases c2 : 100 < cnt t
  · have c2' : (100 : Int) < cnt t := by omega
    simp (disch := first | omega | assumption) [c2, c2', awake9_p]
  have c2' : ¬ (100 : Int) < cnt t := by omega
  have rt := fun {ks ops K e h Q d} => Rt_p t (by omega) (ks := ks) (ops := ops) (K := K) (e := e) (h := h) (Q := Q) (d := d) (lent := false) rfl
  simp (disch := first | omega | assumption) [c2, c2', vc, fz, rt]
  cases hr : rgt t with
  | false => simp (disch := first | omega | assumption) [awake9_p]
  | true =>
    by_cases k4' : t.k ≠ 4
    · simp (disch := first | omega | assumption) [k4', awake9_p]
    have k4 : t.k = 4 := by omega
    have eL : asL t = t.l := by simp [asL, k4]
    have pl := fun {ks ops K e h Q d} => List_p (ks := ks) (ops := ops) (K := K) (e := e) (h := h) (Q := Q) (d := d) t (by omega)
    rw [eL] at pl
    have ha := anyV_hf t
    rw [k4] at fz tc ve
    have hl : GoodL t.l := by
      obtain ⟨k, n, s, l⟩ := t
      have k4 : k = 4 := k4
      subst k4
      simp only [T6.w] at hw
      simp only [dp, if_true] at c1
      simp only [cnt, if_true] at c2
      simp only [rgt, Bool.and_eq_true, Bool.or_eq_true] at hr
      exact ⟨by show T6.ws l ≤ _; omega, ok.2.2.2, by rcases hr.2 with h | h; exact absurd h (by decide); exact h, by show dps l ≤ _; omega, by show cnts l ≤ _; omega⟩
    have lw := T6.lt_ws t
    have b5 := T6.ws_len t.l
    have al := anys_len t.l
    have ah := anys_hfs t.l
    simp (disch := first | omega | assumption) [k4, fz, Any_p, pl]
    by_cases kb : kk < 0 ∨ 2 < kk
    · obtain ⟨_, rS⟩ := SealE_run (anys t.l) kk [] (by omega) kb
      rw [Xp_run rS (by simp [ah]) (by simp) (by simp)]
      by_cases c : kk < 0
      · simp (disch := first | omega | assumption) [c, awake9_p]
      · have c2 : 2 < kk := by omega
        simp (disch := first | omega | assumption) [c, c2, awake9_p]
    obtain ⟨k, rfl⟩ := Int.eq_ofNat_of_zero_le (show 0 ≤ kk by omega)
    have n1 : ¬ ((k : Int) < 0) := by omega
    have n2 : ¬ (2 < (k : Int)) := by omega
    have n2' : ¬ (2 < k) := by omega
    obtain ⟨_, r6t⟩ := R6Put_run _ t (Nat.le_refl _) (by omega) ok hr
    rw [ve] at r6t
    by_cases k0 : k = 0
    · subst k0
      obtain ⟨_, rS⟩ := Seal0_run t.l [] hl
      obtain ⟨_, rW⟩ := Whole_run (node t.l) hl.node.w hl.node.ok hl.node.r hl.node.d hl.node.c
      obtain ⟨L, j, e, _, rO, hL⟩ := OpenA_run t.l [] hl (by omega)
      obtain ⟨_, r9⟩ := R9Seal0_run t.l [] hl
      obtain ⟨_, r6⟩ := R6Put_run _ (node t.l) (Nat.le_refl _) hl.node.w hl.node.ok hl.node.r
      have nh := T6.v_hf (node t.l)
      have nvh := T6.vs_hfs t.l
      rw [any_node] at rW
      generalize enc (node t.l) = E at *
      simp only [Int.natCast_zero] at *
      rw [Xp_run rS (by simp [ah]) (by simp [bys_hfs]) (by simp)]
      simp (disch := first | omega | assumption)
      rw [Xp_run rW (by simp [bys_hfs]) (by simp [ah]) (by simp)]
      simp (disch := first | omega | assumption)
      rw [Xp_run rO (by simp [ah]) (by simp [hL]) (by simp)]
      simp (disch := first | omega | assumption) [bys_back]
      rw [Xp_run r9 (by simp [nvh]) nh (by simp)]
      simp (disch := first | omega | assumption)
      rw [Xp_run r6 (by simp [nh]) (by simp [bys_hfs]) (by simp)]
      simp (disch := first | omega | assumption) [bys_back, awake9_p]
    · have hk : k = 1 ∨ k = 2 := by omega
      have wl := widthN_le k
      obtain ⟨_, rS⟩ := Seal_run t.l k [] hl hk
      have eS : sealB t.l k = enc (node (t.l ++ [byt6 (sumB k (enc (node (t.l ++ [byt6 (List.replicate (widthN k) 0)]))))])) := rfl
      obtain ⟨_, r9⟩ := R9Seal_run t.l k [] hl hk
      have sl := sumB_len k (enc (node (t.l ++ [byt6 (List.replicate (widthN k) 0)])))
      generalize sumB k (enc (node (t.l ++ [byt6 (List.replicate (widthN k) 0)]))) = S at *
      have g := hl.snoc S (by omega)
      obtain ⟨_, rW⟩ := Whole_run (node (t.l ++ [byt6 S])) g.w g.ok g.r g.d g.c
      obtain ⟨_, rO⟩ := Open_run t.l k S [] hl hk sl
      unfold openV at rO
      rw [if_pos eS] at rO
      rw [eS] at rS
      obtain ⟨_, r6⟩ := R6Put_run _ (node (t.l ++ [byt6 S])) (Nat.le_refl _) g.w g.ok g.r
      have nh := T6.v_hf (node (t.l ++ [byt6 S]))
      have nvh := T6.vs_hfs t.l
      have ah2 := anys_hfs (t.l ++ [byt6 S])
      rw [any_node] at rW
      have pP := fun {ks ops K e h Q d} => Put_node (ks := ks) (ops := ops) (K := K) (e := e) (h := h) (Q := Q) (d := d) t.l hl.node
      have et := (any_eql t k4).2
      rw [← et] at pP
      obtain ⟨_, r3⟩ := open3
      generalize enc (node (t.l ++ [byt6 S])) = E at *
      generalize anys (t.l ++ [byt6 S]) = AS at *
      generalize enc t = ET at *
      have k0' : ¬ ((k : Int) = 0) := by omega
      rw [Xp_run rS (by simp [ah]) (by simp [bys_hfs]) (by simp)]
      simp (disch := first | omega | assumption) [n1, n2, n2']
      rw [Xp_run rW (by simp [bys_hfs]) (by simp [ah2]) (by simp)]
      simp (disch := first | omega | assumption)
      rw [Xp_run rO (by simp [ah2]) (by simp [ah]) (by simp)]
      simp (disch := first | omega | assumption) [bys_back]
      rw [Xp_run r9 (by simp [nvh]) nh (by simp)]
      simp (disch := first | omega | assumption)
      rw [Xp_run r6 (by simp [nh]) (by simp [bys_hfs]) (by simp)]
      simp (disch := first | omega | assumption) [bys_back, awake9_p, k0, k0', pP]
      rw [Xp_run r3 (by simp) (by simp) (by simp)]
      simp (disch := first | omega | assumption) [bys_back, awake9_p]
      rw [Xp_run r6t (by simp [nvh]) (by simp [bys_hfs]) (by simp)]
      simp (disch := first | omega | assumption) [bys_back, awake9_p]
theorem law_BlockSeals (x y : V) (hx : ∃ vs, x = .agg vs ∧ Row sh6 vs) (hy : Ty (.i .i64) y) (hb : V.bulk x + V.bulk y ≤ 1048576) : ∃ h', Run T f_law09_BlockSeals [x, y] [] (.bool true) h' := by
  obtain ⟨vs, rfl, hr⟩ := hx
  obtain ⟨i, rfl, _, _⟩ := hy.int
  simp only [V.bulk] at hb
  obtain ⟨t, e, h1, h2⟩ := read6 _ vs (Nat.le_refl _) hr
  rw [e]
  exact Seals_run t i (by omega) h1
end Ev
