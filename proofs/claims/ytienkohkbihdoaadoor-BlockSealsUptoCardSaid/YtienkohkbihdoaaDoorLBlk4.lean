/- The law BlockTurned: a block with a sum, in which one bit of its data is another one, is refused. Each theorem states its own conditions. -/
import Derived.Test.YtienkohkbihdoaaDoorLBlk3
set_option linter.all false
namespace Ev
open Go
set_option maxRecDepth 10000
attribute [-simp] getElem?_pos getElem?_neg List.drop_one

def preB (ty nu fl k : Int) (n : Nat) : List UInt8 := hdB 4 6 ++ (hdB 0 ty.toNat ++ (hdB 0 nu.toNat ++ (hdB 0 fl.toNat ++ (hdB 0 k.toNat ++ hdB 2 n))))
theorem enc_blk (ty nu fl : Int) (k : Nat) (s S : List UInt8) : enc (blkT ty nu fl k s S) = preB ty nu fl k s.length ++ (s ++ (hdB 2 S.length ++ S)) := by
  simp [blkT, vals, enc_node, encs, enc, preB]
theorem seal_blk (ty nu fl : Int) (k : Nat) (s : List UInt8) : sealB (vals ty nu fl k s) k = enc (blkT ty nu fl k s (sumB k (enc (blkT ty nu fl k s (List.replicate (widthN k) 0))))) := rfl
def flipB (x : UInt8) (j : Nat) : UInt8 := UInt8.ofNat (x.toNat ^^^ 2 ^ j)
theorem flip_ne (x : UInt8) (j : Nat) (hj : j < 8) : flipB x j ≠ x := by
  have : ∀ x : Fin 256, ∀ j : Fin 8, (UInt8.ofNat (x.val ^^^ 2 ^ j.val)).toNat ≠ x.val := by decide +kernel
  intro e
  exact this ⟨x.toNat, x.toNat_lt⟩ ⟨j, hj⟩ (congrArg UInt8.toNat e)
theorem flip_op (q : EqK) (x : UInt8) (j : Nat) (hj : j < 8) : binV .xor q (byteV x) (.int .u8 (IntKind.u8.wrap (2 ^ min j IntKind.u8.bits))) = some (byteV (flipB x j)) := by
  have : ∀ x : Fin 256, ∀ j : Fin 8, IntKind.u8.wrap ↑(BitVec.ofInt IntKind.u8.bits (x.val : Int) ^^^ BitVec.ofInt IntKind.u8.bits (IntKind.u8.wrap (2 ^ min j.val IntKind.u8.bits))).toNat = ((UInt8.ofNat (x.val ^^^ 2 ^ j.val)).toNat : Int) := by decide +kernel
  rw [byteV_def, bin_xor, this ⟨x.toNat, x.toNat_lt⟩ ⟨j, hj⟩]
  rfl
theorem awake9 : ∃ h', Run T f_law09_awake [] [] (.bool true) h' := Run.closed (n := 100) (by kernel_rfl)
section
variable {ks : List Kt} {ops : List AOpr} {K : Kp} {e : Env} {h : Heap} {Q : Ex → Env → Heap → Prop} {d : Nat} {lent : Bool}
theorem awake9_p : Xp T f_law09_awake (some ([], lent)) h (some d) ops K ks e Q = Xo T ops K ks ((d, .bool true) :: e) h Q := by
  obtain ⟨h', r⟩ := awake9
  exact Xp_run r (by simp) rfl (by simp [scalar])
end
theorem hd2_len (k : Nat) (hk : k = 1 ∨ k = 2) : (hdB 2 (widthN k)).length = 1 := by rcases hk with rfl | rfl <;> rfl
theorem set_blk (ty nu fl : Int) (k : Nat) (s S : List UInt8) (i : Nat) (y : UInt8) (hi : i < s.length) : (enc (blkT ty nu fl k s S)).set ((preB ty nu fl k s.length).length + i) y = enc (blkT ty nu fl k (s.set i y) S) := by
  rw [enc_blk, enc_blk, List.length_set, List.set_append_right _ _ (by omega), Nat.add_sub_cancel_left, List.set_append_left _ _ hi]
theorem get_blk (ty nu fl : Int) (k : Nat) (s S : List UInt8) (i : Nat) (hi : i < s.length) : (enc (blkT ty nu fl k s S))[(preB ty nu fl k s.length).length + i]? = some s[i] := by
  rw [enc_blk, List.getElem?_append_right (by omega), Nat.add_sub_cancel_left, List.getElem?_append_left hi, List.getElem?_eq_getElem hi]
theorem enc_blk_inj (ty nu fl : Int) (k : Nat) (s S S' : List UInt8) (hl : S.length = S'.length) (h : enc (blkT ty nu fl k s S) = enc (blkT ty nu fl k s S')) : S = S' := by
  rw [enc_blk, enc_blk, List.append_cancel_left_eq, List.append_cancel_left_eq, hl, List.append_cancel_left_eq] at h
  exact h
theorem at_split (s R : List UInt8) (i : Nat) (hi : i < s.length) : s ++ R = s.take i ++ s[i] :: (s.drop (i + 1) ++ R) := by
  conv => lhs; rw [← List.take_append_drop i s]
  rw [List.drop_eq_getElem_cons hi, List.append_assoc, List.cons_append]
theorem set_split (s R : List UInt8) (i : Nat) (y : UInt8) (hi : i < s.length) : s.set i y ++ R = s.take i ++ y :: (s.drop (i + 1) ++ R) := by
  rw [List.set_eq_take_append_cons_drop, if_pos hi, List.append_assoc, List.cons_append]
/-- One byte of the data is another one: the sum is another one. -/
theorem turned_ne (ty nu fl : Int) (k : Nat) (s : List UInt8) (i : Nat) (y : UInt8) (hi : i < s.length) (hy : y ≠ s[i]) (hk : k = 1 ∨ k = 2) :
    sealB (vals ty nu fl k (s.set i y)) k ≠ enc (blkT ty nu fl k (s.set i y) (sumB k (enc (blkT ty nu fl k s (List.replicate (widthN k) 0))))) := by
  intro h
  rw [seal_blk] at h
  have h := enc_blk_inj _ _ _ _ _ _ _ (by rw [sumB_len, sumB_len]) h
  rw [enc_blk, enc_blk, List.length_set] at h
  generalize hdB 2 (List.replicate (widthN k) (0 : UInt8)).length ++ List.replicate (widthN k) (0 : UInt8) = R at h
  rw [set_split s R i y hi, at_split s R i hi, ← List.append_assoc, ← List.append_assoc] at h
  exact hy (sumB_byte k hk _ _ _ _ h)
theorem Turned_run (ty nu fl kk : Int) (s : List UInt8) (n : Nat) (hn : n < 65536) (h1 : 0 ≤ ty) (h2 : ty ≤ 18446744073709551615) (h3 : 0 ≤ nu) (h4 : nu ≤ 18446744073709551615) (h5 : 0 ≤ fl) (h6 : fl ≤ 18446744073709551615) (hs : s.length ≤ 140737488351232) :
    ∃ h', Run T f_law09_BlockTurned [blkV ty nu fl kk s, .int .u16 n] [] (.bool true) h' := by
  refine Run.startE t_law09_BlockTurned ?_
  unfold k_law09_BlockTurned blkV
  by_cases g1 : s.length = 0
  · have g1' : (s.length : Int) = 0 := by omega
    simp (disch := omega) [g1, g1', awake9_p]
  by_cases g2 : 200 < s.length
  · have g1' : ¬ ((s.length : Int) = 0) := by omega
    have g2' : (200 : Int) < s.length := by omega
    simp (disch := omega) [g1, g1', g2', awake9_p]
  by_cases g3 : kk < 1
  · have g1' : ¬ ((s.length : Int) = 0) := by omega
    have g2' : ¬ ((200 : Int) < s.length) := by omega
    simp (disch := omega) [g1, g1', g2', g3, awake9_p]
  by_cases g4 : 2 < kk
  · have g1' : ¬ ((s.length : Int) = 0) := by omega
    have g2' : ¬ ((200 : Int) < s.length) := by omega
    simp (disch := omega) [g1, g1', g2', g3, g4, awake9_p]
  by_cases g5 : nu = 0
  · have g1' : ¬ ((s.length : Int) = 0) := by omega
    have g2' : ¬ ((200 : Int) < s.length) := by omega
    simp (disch := omega) [g1, g1', g2', g3, g4, g5, awake9_p]
  have g1' : ¬ ((s.length : Int) = 0) := by omega
  have g2' : ¬ ((200 : Int) < s.length) := by omega
  obtain ⟨k, rfl⟩ := Int.eq_ofNat_of_zero_le (show 0 ≤ kk by omega)
  have hk : k = 1 ∨ k = 2 := by omega
  have hgl := vals_good ty nu fl k s h1 h2 h3 h4 h5 h6 (by omega) (by omega) (by omega)
  have hc : chkS nu k s = 0 := by unfold chkS; rw [if_neg (by omega), if_neg (by omega)]
  obtain ⟨hp, rp⟩ := blockPut_run ty nu fl k s [] hgl hk hc
  have eE := seal_blk ty nu fl k s
  rw [eE] at rp
  have hSl := sumB_len k (enc (blkT ty nu fl k s (List.replicate (widthN k) 0)))
  have tn := fun i y hi hy => turned_ne ty nu fl k s i y hi hy hk
  generalize sumB k (enc (blkT ty nu fl k s (List.replicate (widthN k) 0))) = S at *
  have wk : widthN k = 2 * k := by rcases hk with rfl | rfl <;> rfl
  have el : (enc (blkT ty nu fl k s S)).length = (preB ty nu fl k s.length).length + s.length + 1 + 2 * k := by
    rw [enc_blk, List.length_append, List.length_append, List.length_append, hSl, hd2_len k hk, wk]; omega
  have gs := set_blk ty nu fl k s S
  have gg := get_blk ty nu fl k s S
  have pl : (preB ty nu fl k s.length).length ≤ 100 := by
    have hh := hdB_len
    simp only [preB, List.length_append]
    have := hh 4 6
    have := hh 0 ty.toNat
    have := hh 0 nu.toNat
    have := hh 0 fl.toNat
    have := hh 0 (k : Int).toNat
    have := hh 2 s.length
    omega
  generalize (preB ty nu fl k s.length).length = P at *
  have hj : n % (8 * s.length) / 8 < s.length := by
    have := Nat.mod_lt n (show 8 * s.length > 0 by omega)
    omega
  have hj8 : n % (8 * s.length) % 8 < 8 := Nat.mod_lt _ (by omega)
  have em : ((n : Int).tmod (8 * (s.length : Int))) = ((n % (8 * s.length) : Nat) : Int) := by
    rw [Int.tmod_eq_emod_of_nonneg (by omega)]; push_cast; rfl
  generalize hM : n % (8 * s.length) = M at *
  have ed : (((M : Nat) : Int).tdiv 8) = ((M / 8 : Nat) : Int) := by rw [Int.tdiv_eq_ediv_of_nonneg (by omega)]; omega
  have ee : (((M : Nat) : Int).tmod 8) = ((M % 8 : Nat) : Int) := by rw [Int.tmod_eq_emod_of_nonneg (by omega)]; omega
  generalize M / 8 = D at *
  generalize M % 8 = J at *
  have g3' : ¬ ((k : Int) < 1) := g3
  simp (disch := omega) [g1, g1', g2', g3', g4, g5]
  simp only [blk_fold]
  rw [Xp_run rp (by simp [blk_hf]) (by simp [bys_hfs]) (by simp)]
  generalize hE : enc (blkT ty nu fl k s S) = E at *
  have x0 : ((E.length : Int) - 1 - 2 * k - s.length + (D : Int)) = (P : Int) + D := by omega
  have x1 : ¬ ((E.length : Int) ≤ (P : Int) + D) := by omega
  have x2 : ¬ ((P : Int) + D < 0) := by omega
  have x3 : ((P : Int) + D).toNat = P + D := by omega
  have gx := gg D hj
  have zE : ¬ (bys E = []) := bys_ne E (by intro e; rw [e] at el; simp at el; omega)
  have gx2 : (bys E)[P + D]? = some (byteV s[D]) := by rw [bys_get, gx]; rfl
  have fop := flip_op .int s[D] J hj8
  simp (disch := omega) [bys_len, em, ed, ee, x0, x1, x2, bys_flat, zE, x3, gx2, fop]
  have row2 : (bys E).set (P + D) (byteV (flipB s[D] J)) = bys (enc (blkT ty nu fl k (s.set D (flipB s[D] J)) S)) := by rw [bys_set, gs D _ hj]
  have hEl : E.length = (enc (blkT ty nu fl k (s.set D (flipB s[D] J)) S)).length := by rw [← gs D _ hj, List.length_set]
  rw [row2, hEl]
  have vl : (s.set D (flipB s[D] J)).length = s.length := List.length_set
  have hgl2 := vals_good ty nu fl k (s.set D (flipB s[D] J)) h1 h2 h3 h4 h5 h6 (by omega) (by omega) (by omega)
  have hc2 : chkS nu k (s.set D (flipB s[D] J)) = 0 := by unfold chkS; rw [if_neg (by omega), if_neg (by omega)]
  have hg2 := hgl2.snoc S (by omega)
  obtain ⟨hw, rw'⟩ := Whole_run (blkT ty nu fl k (s.set D (flipB s[D] J)) S) hg2.w hg2.ok hg2.r hg2.d hg2.c
  obtain ⟨hG, rG⟩ := Get_run ty nu fl k (s.set D (flipB s[D] J)) S hgl2 hk hSl hc2 (by omega)
  rw [if_neg (tn D _ hj (flip_ne _ _ hj8))] at rG
  have ahf := anyV_hf (blkT ty nu fl k (s.set D (flipB s[D] J)) S)
  generalize blkT ty nu fl k (s.set D (flipB s[D] J)) S = t at *
  have fz : ∀ (r : List V), freeze1 false (.hs 1 1 0 (enc t).length) [some r, some (bys (enc t))] = some (.ps 1 (bys (enc t)), [some r, none]) := by
    intro r
    have h1 : Heap.row [some r, some (bys (enc t))] 1 = some (bys (enc t)) := rfl
    have := freeze_hs h1 (bys_one _)
    rw [bys_len] at this
    exact this
  rw [fz]
  simp (disch := omega)
  rw [Xp_run rw' (by simp [bys_hfs]) (by simp [ahf]) (by simp)]
  simp (disch := omega)
  rw [Xp_run rG (by simp [ahf]) (by simp [blkV]) (by simp)]
  simp (disch := omega) [blkV, awake9_p]
theorem law_BlockTurned (x y : V) (hx : ∃ vs, x = .agg vs ∧ Row [(.i .u64), (.i .u64), (.i .u64), (.i .i64), .s] vs) (hy : Ty (.i .u16) y) : ∃ h', Run T f_law09_BlockTurned [x, y] [] (.bool true) h' := by
  obtain ⟨vs, rfl, hr⟩ := hx
  obtain ⟨v0, r0, rfl, t0, hr⟩ := hr.cons
  obtain ⟨v1, r1, rfl, t1, hr⟩ := hr.cons
  obtain ⟨v2, r2, rfl, t2, hr⟩ := hr.cons
  obtain ⟨v3, r3, rfl, t3, hr⟩ := hr.cons
  obtain ⟨v4, r4, rfl, t4, hr⟩ := hr.cons
  obtain rfl := hr.none
  obtain ⟨ty, rfl, a1, a2⟩ := t0.int
  obtain ⟨nu, rfl, b1, b2⟩ := t1.int
  obtain ⟨fl, rfl, c1, c2⟩ := t2.int
  obtain ⟨k, rfl, _, _⟩ := t3.int
  obtain ⟨s, rfl, hs⟩ := t4.str
  obtain ⟨n, rfl, d1, d2⟩ := hy.int
  have d1 : 0 ≤ n := d1
  have d2 : n ≤ 65535 := d2
  obtain ⟨n, rfl⟩ := Int.eq_ofNat_of_zero_le d1
  exact Turned_run ty nu fl k s n (by omega) a1 a2 b1 b2 c1 c2 hs
end Ev
