/- The law BlockPuts: the bytes of any block, or what is wrong. Each theorem states its own conditions. -/
import Derived.Test.YtienkohkbihdoaaDoorLBlk5
import Derived.Test.YtienkohkbihdoaaDoorLBlk4
import Derived.Test.YtienkohkbihdoaaDoorLR9
set_option linter.all false
namespace Ev
open Go
set_option maxRecDepth 10000
attribute [-simp] getElem?_pos getElem?_neg List.drop_one
theorem node_any (l : List T6) : anyV (node l) = .iface 36 (.ps 1 (anys l)) := rfl
theorem Get0_run (ty nu fl : Int) (s : List UInt8) (hl : GoodL (vals ty nu fl 0 s)) (hc : chkS nu 0 s = 0) (hs : s.length ≤ 3000000) :
    ∃ h', Run T f_block_Get [anyV (node (vals ty nu fl 0 s))] [] (.tup [blkV ty nu fl 0 s, .int .i64 0]) h' := by
  have gd := hl.node
  obtain ⟨h6, r6⟩ := Check_run ty nu fl 0 s []
  rw [hc] at r6
  have q0 : (node (vals ty nu fl 0 s)).l[(0 : Int).toNat]? = some (num6 ty) := rfl
  have q1 : (node (vals ty nu fl 0 s)).l[(1 : Int).toNat]? = some (num6 nu) := rfl
  have q2 : (node (vals ty nu fl 0 s)).l[(2 : Int).toNat]? = some (num6 fl) := rfl
  have q3 : (node (vals ty nu fl 0 s)).l[(3 : Int).toNat]? = some (num6 0) := rfl
  have n0 := fun {ks ops K e Q d} Z g => g1 (ks := ks) (ops := ops) (K := K) (e := e) (Q := Q) (d := d) _ _ 0 Z g (show (node (vals ty nu fl 0 s)).k = 4 from rfl) (by omega) q0 rfl
  have n1 := fun {ks ops K e Q d} Z g => g1 (ks := ks) (ops := ops) (K := K) (e := e) (Q := Q) (d := d) _ _ 1 Z g (show (node (vals ty nu fl 0 s)).k = 4 from rfl) (by omega) q1 rfl
  have n2 := fun {ks ops K e Q d} Z g => g1 (ks := ks) (ops := ops) (K := K) (e := e) (Q := Q) (d := d) _ _ 2 Z g (show (node (vals ty nu fl 0 s)).k = 4 from rfl) (by omega) q2 rfl
  have n3 := fun {ks ops K e Q d} Z g => g1 (ks := ks) (ops := ops) (K := K) (e := e) (Q := Q) (d := d) _ _ 3 Z g (show (node (vals ty nu fl 0 s)).k = 4 from rfl) (by omega) q3 rfl
  have a4 : atV (node (vals ty nu fl 0 s)) 4 = .iface 31 (.ps 1 (bys s)) := atV_some _ 4 (byt6 s) rfl (by omega) rfl
  have pA := fun {ks ops K e h Q d} i => At_p (ks := ks) (ops := ops) (K := K) (e := e) (h := h) (Q := Q) (d := d) (node (vals ty nu fl 0 s)) i
  have hf : T.free f_block_Get_1 = true := rfl
  have pl := fun {ks ops K e h Q d} => List_n (ks := ks) (ops := ops) (K := K) (e := e) (h := h) (Q := Q) (d := d) (vals ty nu fl 0 s) gd.w
  have any1 := anyV_one (node (vals ty nu fl 0 s))
  have anyc := anyV_cells (node (vals ty nu fl 0 s))
  rw [← node_any (vals ty nu fl 0 s)] at pl
  have alen : (anys (vals ty nu fl 0 s)).length = 5 := by rw [anys_len]; rfl
  have ahf := anyV_hf (node (vals ty nu fl 0 s))
  clear q0 q1 q2 q3
  have hvs := anys_hfs (vals ty nu fl 0 s)
  generalize anys (vals ty nu fl 0 s) = A at *
  generalize node (vals ty nu fl 0 s) = t at *
  generalize anyV t = X at *
  refine Run.startE t_block_Get ?_
  unfold k_block_Get
  simp (disch := first | omega | assumption) [any1, anyc, n0, n1, n2, n3, asN_num, pA, a4, Bytes_b, pl, alen, bys_back]
  apply Xc_regf
  simp (disch := first | omega | assumption) [bys_back]
  simp (disch := first | omega | assumption) [flagsIn, flagP, evOp, bys_back]
  simp only [blk_fold]
  rw [Xp_run r6 (by simp [blk_hf]) (by simp) (by simp)]
  simp (disch := omega) [blkV]
/-- The bytes of a block that may be are those of its value. -/
theorem encRef (ty nu fl : Int) (k : Nat) (s : List UInt8) (hk : k ≠ 0) : sealB (vals ty nu fl k s) k = enc (refT ty nu fl k s) := by
  unfold refT; rw [if_neg hk]; rfl
theorem blockPutA_run (ty nu fl : Int) (k : Nat) (s : List UInt8) (h : Heap) (hl : GoodL (vals ty nu fl k s)) (hk : k ≤ 2) (hc : chkS nu k s = 0) : ∃ h', Run T f_block_Put [blkV ty nu fl k s] h (.tup [.ps 1 (bys (enc (refT ty nu fl k s))), .int .i64 0]) h' := by
  by_cases c : k = 0
  · subst c
    exact blockPut0_run ty nu fl s h hl hc
  · rw [← encRef ty nu fl k s c]
    exact blockPut_run ty nu fl k s h hl (by omega) hc
theorem refT_good (ty nu fl : Int) (k : Nat) (s : List UInt8) (hl : GoodL (vals ty nu fl k s)) (hk : k ≤ 2) : Good (refT ty nu fl k s) := by
  unfold refT
  by_cases c : k = 0
  · rw [if_pos c]; exact hl.node
  · rw [if_neg c]
    have := widthN_le k
    exact hl.snoc _ (by rw [sumB_len]; omega)
theorem GetA_run (ty nu fl : Int) (k : Nat) (s : List UInt8) (hl : GoodL (vals ty nu fl k s)) (hk : k ≤ 2) (hc : chkS nu k s = 0) (hs : s.length ≤ 3000000) :
    ∃ h', Run T f_block_Get [anyV (refT ty nu fl k s)] [] (.tup [blkV ty nu fl k s, .int .i64 0]) h' := by
  by_cases c : k = 0
  · subst c
    exact Get0_run ty nu fl s hl hc hs
  · have e := encRef ty nu fl k s c
    unfold refT at e ⊢
    rw [if_neg c] at e ⊢
    have := Get_run ty nu fl k s (sumB k (enc (blkT ty nu fl k s (List.replicate (widthN k) 0)))) hl (by omega) (sumB_len k _) hc hs
    rw [if_pos e] at this
    exact this
theorem SizeA_run (ty nu fl : Int) (k : Nat) (s : List UInt8) (h : Heap) (hl : GoodL (vals ty nu fl k s)) (hk : k ≤ 2) (hc : chkS nu k s = 0) : ∃ h', Run T f_block_Size [blkV ty nu fl k s] h (.int .i64 (enc (refT ty nu fl k s)).length) h' := by
  obtain ⟨h1, r1⟩ := blockPutA_run ty nu fl k s [] hl hk hc
  have g := refT_good ty nu fl k s hl hk
  have el := enc_len (refT ty nu fl k s)
  have gw := g.w
  generalize enc (refT ty nu fl k s) = E at *
  refine Run.startE t_block_Size ?_
  unfold k_block_Size blkV
  simp (disch := omega)
  simp only [blk_fold]
  rw [Xp_run r1 (by simp [blk_hf]) (by simp [bys_hfs]) (by simp)]
  simp (disch := omega) [bys_len]
theorem SizeE_run (ty nu fl k : Int) (s : List UInt8) (h : Heap) (hc : chkS nu k s ≠ 0) : ∃ h', Run T f_block_Size [blkV ty nu fl k s] h (.int .i64 0) h' := by
  obtain ⟨h1, r1⟩ := blockPutE_run ty nu fl k s [] hc
  refine Run.startE t_block_Size ?_
  unfold k_block_Size blkV
  simp (disch := omega)
  simp only [blk_fold]
  rw [Xp_run r1 (by simp [blk_hf]) (by simp) (by simp)]
  simp (disch := omega)
theorem Puts_run (ty nu fl kk : Int) (s : List UInt8) (h1 : 0 ≤ ty) (h2 : ty ≤ 18446744073709551615) (h3 : 0 ≤ nu) (h4 : nu ≤ 18446744073709551615) (h5 : 0 ≤ fl) (h6 : fl ≤ 18446744073709551615) (hs : s.length ≤ 140737488351232) :
    ∃ h', Run T f_law09_BlockPuts [blkV ty nu fl kk s] [] (.bool true) h' := by
  refine Run.startE t_law09_BlockPuts ?_
  unfold k_law09_BlockPuts blkV
  by_cases g1 : 300 < s.length ∧ s.length ≤ 65536
  · have g1' : (300 : Int) < s.length := by omega
    have g2' : (s.length : Int) ≤ 65536 := by omega
    simp (disch := omega) [g1, g1', g2', awake9_p]
  by_cases g2 : 70000 < s.length
  · have g1' : (300 : Int) < s.length := by omega
    have g2' : ¬ (s.length : Int) ≤ 65536 := by omega
    have g3' : (70000 : Int) < s.length := by omega
    have g4' : ¬ s.length ≤ 65536 := by omega
    have g5' : 300 < s.length := by omega
    simp (disch := omega) [g2, g1', g2', g3', g4', g5', awake9_p]
  by_cases hc : chkS nu kk s ≠ 0
  · obtain ⟨_, rp⟩ := blockPutE_run ty nu fl kk s [] hc
    obtain ⟨_, rc⟩ := R9Check_run ty nu fl kk s []
    obtain ⟨_, rd⟩ := Check_run ty nu fl kk s []
    obtain ⟨_, rz⟩ := SizeE_run ty nu fl kk s [] hc
    generalize chkS nu kk s = z at *
    by_cases c3 : 300 < s.length
    · have g1' : (300 : Int) < s.length := by omega
      have g2' : ¬ (s.length : Int) ≤ 65536 := by omega
      have g3' : ¬ (70000 : Int) < s.length := by omega
      have g4' : ¬ s.length ≤ 65536 := by omega
      have g5' : ¬ 70000 < s.length := by omega
      simp (disch := omega) [g1', g2', g3', g4', g5', c3]
      simp only [blk_fold]
      rw [Xp_run rp (by simp [blk_hf]) (by simp) (by simp)]
      simp (disch := omega)
      simp only [blk_fold]
      rw [Xp_run rc (by simp [blk_hf]) (by simp) (by simp)]
      simp (disch := omega)
      simp only [blk_fold]
      rw [Xp_run rd (by simp [blk_hf]) (by simp) (by simp)]
      simp (disch := omega) [hc]
      rw [awake9_p]
      simp (disch := omega) [hc]
      simp only [blk_fold]
      rw [Xp_run rz (by simp [blk_hf]) (by simp) (by simp)]
      simp (disch := omega) [hc]
    · have g1' : ¬ (300 : Int) < s.length := by omega
      have g3' : ¬ (70000 : Int) < s.length := by omega
      have g5' : ¬ 70000 < s.length := by omega
      simp (disch := omega) [g1', g3', g5', c3]
      simp only [blk_fold]
      rw [Xp_run rp (by simp [blk_hf]) (by simp) (by simp)]
      simp (disch := omega)
      simp only [blk_fold]
      rw [Xp_run rc (by simp [blk_hf]) (by simp) (by simp)]
      simp (disch := omega)
      simp only [blk_fold]
      rw [Xp_run rd (by simp [blk_hf]) (by simp) (by simp)]
      simp (disch := omega) [hc]
      rw [awake9_p]
      simp (disch := omega) [hc]
      simp only [blk_fold]
      rw [Xp_run rz (by simp [blk_hf]) (by simp) (by simp)]
      simp (disch := omega) [hc]
  have hc : chkS nu kk s = 0 := by omega
  have hk : 0 ≤ kk ∧ kk ≤ 2 ∧ s.length ≤ 65536 := by
    unfold chkS at hc
    split at hc
    · omega
    · split at hc
      · omega
      · omega
  obtain ⟨k, rfl⟩ := Int.eq_ofNat_of_zero_le hk.1
  have c3 : ¬ 300 < s.length := by omega
  have g1' : ¬ (300 : Int) < s.length := by omega
  have g3' : ¬ (70000 : Int) < s.length := by omega
  have g5' : ¬ 70000 < s.length := by omega
  have hgl := vals_good ty nu fl k s h1 h2 h3 h4 h5 h6 (by omega) (by omega) (by omega)
  obtain ⟨_, rp⟩ := blockPutA_run ty nu fl k s [] hgl (by omega) hc
  obtain ⟨_, rc⟩ := R9Check_run ty nu fl k s []
  obtain ⟨_, rd⟩ := Check_run ty nu fl k s []
  obtain ⟨_, rz⟩ := SizeA_run ty nu fl k s [] hgl (by omega) hc
  obtain ⟨_, rg⟩ := GetA_run ty nu fl k s hgl (by omega) hc (by omega)
  obtain ⟨_, rv⟩ := R9Value_run ty nu fl k s hgl (by omega)
  have gt := refT_good ty nu fl k s hgl (by omega)
  obtain ⟨_, rw'⟩ := Whole_run (refT ty nu fl k s) gt.w gt.ok gt.r gt.d gt.c
  obtain ⟨_, r6⟩ := R6Put_run _ (refT ty nu fl k s) (Nat.le_refl _) gt.w gt.ok gt.r
  rw [hc] at rc rd
  have ahf := anyV_hf (refT ty nu fl k s)
  have vhf := T6.v_hf (refT ty nu fl k s)
  have el := enc_len (refT ty nu fl k s)
  have gw := gt.w
  generalize refT ty nu fl k s = t at *
  generalize hE : enc t = E at *
  simp (disch := omega) [g1', g3', g5', c3]
  simp only [blk_fold]
  rw [Xp_run rp (by simp [blk_hf]) (by simp [bys_hfs]) (by simp)]
  simp (disch := omega)
  simp only [blk_fold]
  rw [Xp_run rc (by simp [blk_hf]) (by simp) (by simp)]
  simp (disch := omega)
  simp only [blk_fold]
  rw [Xp_run rd (by simp [blk_hf]) (by simp) (by simp)]
  simp (disch := omega)
  rw [Xp_run rw' (by simp [bys_hfs]) (by simp [ahf]) (by simp)]
  simp (disch := omega)
  rw [Xp_run rg (by simp [ahf]) (by simp [blkV]) (by simp)]
  simp (disch := omega) [awake9_p, blkV, bys_back]
  simp only [blk_fold]
  rw [Xp_run rv (by simp [blk_hf]) vhf (by simp)]
  simp (disch := omega)
  rw [Xp_run r6 (by simp [vhf]) (by simp [bys_hfs]) (by simp)]
  simp (disch := omega) [bys_back]
  simp only [blk_fold]
  rw [Xp_run rz (by simp [blk_hf]) (by simp) (by simp)]
  simp (disch := omega) [bys_len]
theorem law_BlockPuts (x : V) (hx : ∃ vs, x = .agg vs ∧ Row [(.i .u64), (.i .u64), (.i .u64), (.i .i64), .s] vs) : ∃ h', Run T f_law09_BlockPuts [x] [] (.bool true) h' := by
  obtain ⟨vs, rfl, hr⟩ := hx
  obtain ⟨v0, r0, rfl, t0, hr⟩ := hr.cons
  obtain ⟨v1, r1, rfl, t1, hr⟩ := hr.cons
  obtain ⟨v2, r2, rfl, t2, hr⟩ := hr.cons
  obtain ⟨v3, r3, rfl, t3, hr⟩ := hr.cons
  obtain ⟨v4, r4, rfl, t4, hr⟩ := hr.cons
  obtain rfl := hr.none
  obtain ⟨ty, rfl, a1, a2⟩ := t0.int
  obtain ⟨nu, rfl, b1, b2⟩ := t1.int
  obtain ⟨fl, rfl, c1, c2⟩ := t2.int
  obtain ⟨k, rfl, _, _⟩ := t3.int
  obtain ⟨s, rfl, hs⟩ := t4.str
  exact Puts_run ty nu fl k s a1 a2 b1 b2 c1 c2 hs
end Ev
