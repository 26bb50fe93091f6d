/- Bundles laid and read. Bundles read. Bundles laid, as the document says; bundles held against themselves. Each theorem states its own conditions. -/
import Derived.Test.YtienkohkbihdoaaGreatDoorBCode
import Derived.Test.YtienkohkbihdoaaGreatDoorBPri6
set_option linter.all false
namespace Ev
open Go
set_option maxRecDepth 10000
attribute [-simp] getElem?_pos getElem?_neg List.drop_one
theorem firstE_ok : ∀ l : List B5, firstE l = 0 → ∀ x ∈ l, chkS x.nu x.k x.s = 0
  | x :: r, h, y, hy => by
    unfold firstE at h
    by_cases c : chkS x.nu x.k x.s = 0
    · rw [if_pos c] at h
      rcases List.mem_cons.1 hy with q | q
      · rw [q]; exact c
      · exact firstE_ok r h y q
    · rw [if_neg c] at h; exact absurd h c
theorem unlF_ty : ∀ (l : List B5) (seen : List Int), unlF seen l = true → ∀ x ∈ l, x.ty ≠ 1
  | x :: r, seen, h, y, hy => by
    unfold unlF at h
    by_cases c : x.nu ∈ seen ∨ x.ty = 1
    · rw [if_pos c] at h; cases h
    · rw [if_neg c] at h
      rcases List.mem_cons.1 hy with q | q
      · rw [q]; exact fun e => c (.inr e)
      · exact unlF_ty r _ h y q
/-- A bundle that may be. -/
structure BOk (b : BB) : Prop where
  i : BBin b
  n : b.bl.length ≤ 16
  p : chkP b.p = 0
  pay : Bok b.pay
  bl : ∀ x ∈ b.bl, Bok x ∧ x.ty ≠ 1
  ty : b.pay.ty = 1
theorem chkB0 {b : BB} (h : BBin b) (hc : chkB b = 0) : BOk b := by
  unfold chkB at hc
  by_cases c1 : 16 < b.bl.length
  · rw [if_pos c1] at hc; cases hc
  rw [if_neg c1] at hc
  by_cases c2 : chkP b.p ≠ 0
  · rw [if_pos c2] at hc; exact absurd hc c2
  rw [if_neg c2] at hc
  by_cases c3 : chkS b.pay.nu b.pay.k b.pay.s ≠ 0
  · rw [if_pos c3] at hc; exact absurd hc c3
  rw [if_neg c3] at hc
  by_cases c4 : firstE b.bl ≠ 0
  · rw [if_pos c4] at hc; exact absurd hc c4
  rw [if_neg c4] at hc
  by_cases c5 : b.pay.ty = 1 ∧ b.pay.nu = 1 ∧ unlF [0, 1] b.bl = true
  · exact ⟨h, by omega, by omega, ⟨h.pay, by omega⟩, fun x hx => ⟨⟨h.bl x hx, firstE_ok _ (by omega) x hx⟩, unlF_ty _ _ c5.2.2 x hx⟩, c5.1⟩
  · rw [if_neg c5] at hc; cases hc
def tP (p : PP) : T6 := refL (primL p) p.crc.toNat
def encP (p : PP) : List UInt8 := enc (tP p)
def encB (b : BB) : List UInt8 := 159 :: (encP b.p ++ (encXs (b.bl ++ [b.pay]) ++ [255]))
theorem tP_good {p : PP} (h : PPin p) (hc : chkP p = 0) : Good (tP p) :=
  refL_good (prim_good (h.B hc)) (by have := (h.B hc).c2; have := (h.B hc).c0; omega)
theorem tP_w {p : PP} (h : PPin p) (hc : chkP p = 0) : (tP p).w ≤ 1010 := by
  have := (prim_small (h.B hc)).w
  obtain ⟨S, hS⟩ := refL_l (primL p) p.crc.toNat
  have sl := sumB_len p.crc.toNat (enc (node (primL p ++ [byt6 (List.replicate (widthN p.crc.toNat) 0)])))
  have wl := widthN_le p.crc.toNat
  unfold tP refL
  split
  · simp only [T6.w, List.length_nil]; omega
  · simp only [T6.w, ws_app, T6.ws, List.length_nil]; omega
theorem encP_len {p : PP} (h : PPin p) (hc : chkP p = 0) : (encP p).length ≤ 9090 := by
  have := enc_len (tP p)
  have := tP_w h hc
  unfold encP
  omega
theorem pput_run {p : PP} (h : PPin p) (hc : chkP p = 0) : ∃ h', Run T f_primary_Put [p.v] [] (.tup [.ps 1 (bys (encP p)), .int .i64 0]) h' :=
  PutP_run p h.ok hc (prim_good (h.B hc))
theorem pget_run {p : PP} (h : PPin p) (hc : chkP p = 0) : ∃ h', Run T f_primary_Get [anyV (tP p)] [] (.tup [p.v, .int .i64 0]) h' := by
  have := GetPS_run (tP p) (by have := tP_w h hc; omega) (tP_good h hc).ok
  rw [show getPS (tP p) = .tup [p.v, .int .i64 0] from get_ref p (h.B hc) hc] at this
  exact this
theorem BPutE_run (b : BB) (ok : PPok b.p) (hn : b.bl.length ≤ 1000000) (hc : chkB b ≠ 0) : ∃ h', Run T f_bundle_Put [b.v] [] (.tup [.ps 1 [], .int .i64 (chkB b)]) h' := by
  obtain ⟨_, r⟩ := BCheck_run b ok hn
  have bh := BB.hf b
  have bv : b.v = .agg b.cells := rfl
  rw [bv] at r bh ⊢
  generalize chkB b = z at *
  refine Run.startE t_bundle_Put ?_
  unfold k_bundle_Put
  simp (disch := omega) [BB.len, BB.one, BB.tk]
  rw [Xp_run r (by simp [bh]) rfl (by simp)]
  simp (disch := omega) [hc]
theorem open_run (h : Heap) : ∃ h', Run T f_head_Open [] h (.ps 1 (bys [159])) h' := by
  refine Run.startE t_head_Open ?_
  unfold k_head_Open
  simp (disch := omega) [bys, byteV]
theorem break_run (h : Heap) : ∃ h', Run T f_head_Break [] h (.ps 1 (bys [255])) h' := by
  refine Run.startE t_head_Break ?_
  unfold k_head_Break
  simp (disch := omega) [bys, byteV]
theorem encXs_len (k : Nat) : ∀ l : List B5, (∀ x ∈ l, x.s.length ≤ k) → (encXs l).length ≤ l.length * (9 * (k + 15))
  | [], _ => by simp [encXs]
  | x :: r, h => by
    have i := encXs_len k r (fun y hy => h y (List.mem_cons_of_mem _ hy))
    have := Bok.len (x := x)
    have hx := h x List.mem_cons_self
    have h9 : 9 * (x.s.length + 15) ≤ 9 * (k + 15) := by omega
    generalize 9 * (k + 15) = K at *
    simp only [encXs, List.length_append, List.length_cons]
    rw [Nat.add_mul, Nat.one_mul]
    omega
theorem BPut_run (b : BB) (hb : BOk b) (hc : chkB b = 0) : ∃ h', Run T f_bundle_Put [b.v] [] (.tup [.ps 1 (bys (encB b)), .int .i64 0]) h' := by
  have hn := hb.n
  obtain ⟨_, r⟩ := BCheck_run b hb.i.p.ok (by omega)
  obtain ⟨_, rp⟩ := pput_run hb.i.p hb.p
  obtain ⟨_, ro⟩ := open_run []
  obtain ⟨_, rb⟩ := break_run []
  have pl := encP_len hb.i.p hb.p
  have xl := encXs_len 65536 (b.bl ++ [b.pay]) (fun x hx => by
    rcases List.mem_append.1 hx with q | q
    · have := (hb.bl x q).1.k; omega
    · rw [List.mem_singleton.1 q]; have := hb.pay.k; omega)
  simp only [List.length_append, List.length_cons, List.length_nil] at xl
  have lp := put_loop (b.bl ++ [b.pay]) (by simp; omega) (fun x hx => by
    rcases List.mem_append.1 hx with q | q
    · exact (hb.bl x q).1
    · rw [List.mem_singleton.1 q]; exact hb.pay) (some b.cells) (b.bl ++ [b.pay]).length 0 (by omega)
  have bh := BB.hf b
  have bv : b.v = .agg b.cells := rfl
  rw [hc] at r
  rw [bv] at r bh ⊢
  have ph := PP.hf b.p
  have tp : V.agg (b.cells.take 19) = b.p.v := rfl
  have ty : V.agg ((b.cells.drop 20).take 5) = b.pay.v := rfl
  have bl := b5s_len b.bl
  have ht : (b5s b.bl).take b.bl.length = b5s b.bl := List.take_of_length_le (by omega)
  have e1 : b5s b.bl ++ [b.pay.v] = b5s (b.bl ++ [b.pay]) := by simp [b5s]
  have bl2 := b5s_len (b.bl ++ [b.pay])
  refine Run.startE t_bundle_Put ?_
  unfold k_bundle_Put
  simp (disch := omega) [BB.len, BB.one, BB.tk]
  rw [Xp_run r (by simp [bh]) rfl (by simp)]
  simp (disch := omega)
  rw [Xp_run ro rfl (by simp [bys_hfs]) (by simp)]
  simp (disch := omega) [BB.len, tp]
  rw [Xp_run rp (by simp [ph]) (by simp [bys_hfs]) (by simp)]
  have q1 : b.pay.v.cells.length = 5 := rfl
  have q2 : b.pay.v.cells.all V.one = true := by simp [B5.v, blkV]
  simp (disch := omega) [BB.len, BB.c19, bl, ht, ty, e1, bl2, bys_len, q1, q2]
  have lp := lp ([159] ++ encP b.p) [] (by simp; omega)
  rw [bys_app] at lp
  simp only [List.length_append, List.length_cons, List.length_nil] at lp
  refine lp _ _ (fun z g' => ?_)
  simp (disch := omega)
  rw [Xp_run rb rfl (by simp [bys_hfs]) (by simp)]
  have le : (159 :: encP b.p).length = (encP b.p).length + 1 := rfl
  simp (disch := omega) [bys_len, ← bys_app, le, encB]
theorem is_run (b : List UInt8) (h : Heap) (hb : b.length ≤ 100000000) : ∃ h', Run T f_head_Is [.ps 1 (bys (159 :: b)), .ps 1 (bys [159])] h (.bool true) h' := by
  have e : bys (159 :: b) = byteV 159 :: bys b := rfl
  have e2 : bys [159] = [byteV 159] := rfl
  refine Run.startE t_head_Is ?_
  unfold k_head_Is
  have bl := bys_len b
  have bk := bys_back [159]
  rw [e2] at bk
  rw [e, e2]
  have l1 : (1 : Int) ≤ (b.length : Int) + 1 := by omega
  simp (disch := omega) [bl, bk, l1]
theorem BGet_run (b : BB) (hb : BOk b) (hc : chkB b = 0) (hl : (encB b).length ≤ 65536) : ∃ h', Run T f_bundle_Get [.ps 1 (bys (encB b))] [] (.tup [b.v, .int .i64 0]) h' := by
  have hn := hb.n
  obtain ⟨_, r⟩ := BCheck_run b hb.i.p.ok (by omega)
  obtain ⟨_, rp⟩ := pget_run hb.i.p hb.p
  obtain ⟨_, ro⟩ := open_run []
  obtain ⟨_, rb⟩ := break_run []
  have gp := tP_good hb.i.p hb.p
  have el : (encB b).length = 1 + ((encP b.p).length + ((encXs (b.bl ++ [b.pay])).length + 1)) := by simp [encB]; omega
  obtain ⟨_, ri⟩ := itemGet_run (tP b.p) (encXs (b.bl ++ [b.pay]) ++ [255]) gp.w gp.ok gp.r gp.d gp.c (by
    have : (enc (tP b.p)).length = (encP b.p).length := rfl
    simp only [List.length_append, List.length_cons, List.length_nil]; omega)
  obtain ⟨_, rk⟩ := blocks_run b.bl b.pay [255] hb.pay hb.ty hb.bl hn (by simp only [List.length_append, List.length_cons, List.length_nil]; omega)
  obtain ⟨_, rs⟩ := is_run (encP b.p ++ (encXs (b.bl ++ [b.pay]) ++ [255])) [] (by simp only [List.length_append, List.length_cons, List.length_nil]; omega)
  have eP : enc (tP b.p) = encP b.p := rfl
  rw [eP] at ri
  rw [hc] at r
  have bh := BB.hf b
  have bv : b.v = .agg b.cells := rfl
  rw [bv] at r bh ⊢
  have eB : encB b = 159 :: (encP b.p ++ (encXs (b.bl ++ [b.pay]) ++ [255])) := rfl
  rw [← eB] at rs
  have d1 : (encB b).drop 1 = encP b.p ++ (encXs (b.bl ++ [b.pay]) ++ [255]) := rfl
  have d2 : (encB b).drop (1 + (encP b.p).length) = encXs (b.bl ++ [b.pay]) ++ [255] := by
    rw [← List.drop_drop, d1, List.drop_left' rfl]
  have d3 : (encB b).drop (1 + (encP b.p).length + (encXs (b.bl ++ [b.pay])).length) = [255] := by
    rw [← List.drop_drop, d2, List.drop_left' rfl]
  have ah := anyV_hf (tP b.p)
  have ph := PP.hf b.p
  have zh := BB.hf ⟨zB.p, b.bl, b.pay⟩
  have zv : (BB.mk zB.p b.bl b.pay).v = .agg (BB.cells ⟨zB.p, b.bl, b.pay⟩) := rfl
  rw [zv] at zh
  have pc : b.p.v = .agg b.p.cells := rfl
  rw [pc] at rp ph
  have q1 : b.p.cells.length = 19 := rfl
  have q2 : b.p.cells.all V.one = true := by simp [PP.cells]
  have q3 : b.p.cells.take 19 = b.p.cells := rfl
  have q4 : zB.p.cells.length = 19 := rfl
  have z1 : (BB.cells ⟨zB.p, b.bl, b.pay⟩).length = 25 := rfl
  have z2 := BB.one ⟨zB.p, b.bl, b.pay⟩
  have z3 : spliceL zB.cells 0 (BB.cells ⟨zB.p, b.bl, b.pay⟩) = BB.cells ⟨zB.p, b.bl, b.pay⟩ := rfl
  have s1 : ∀ c : PP, spliceL c.cells 0 b.p.cells = b.p.cells := fun _ => rfl
  have s2 : spliceL (BB.cells ⟨zB.p, b.bl, b.pay⟩) 0 b.p.cells = b.cells := rfl
  have zc : zB.cells = [.int .u64 0, .int .i64 0, .int .i64 0, .str [], .int .u64 0, .int .u64 0, .int .i64 0, .str [], .int .u64 0, .int .u64 0, .int .i64 0, .str [], .int .u64 0, .int .u64 0, .int .u64 0, .int .u64 0, .int .u64 0, .int .u64 0, .int .u64 0, .ps 5 [], .int .u64 0, .int .u64 0, .int .u64 0, .int .i64 0, .str []] := rfl
  have zpc : zB.p.cells = [.int .u64 0, .int .i64 0, .int .i64 0, .str [], .int .u64 0, .int .u64 0, .int .i64 0, .str [], .int .u64 0, .int .u64 0, .int .i64 0, .str [], .int .u64 0, .int .u64 0, .int .u64 0, .int .u64 0, .int .u64 0, .int .u64 0, .int .u64 0] := rfl
  have bl := bys_len (encB b)
  have bk := bys_back [255]
  generalize anyV (tP b.p) = A at *
  generalize BB.cells ⟨zB.p, b.bl, b.pay⟩ = ZC at *
  have i1 : ((1 : Int) + ((encP b.p).length : Int)).toNat = 1 + (encP b.p).length := by omega
  have i2 : ((1 : Int) + ((encP b.p).length : Int) + ((encXs (b.bl ++ [b.pay])).length : Int)).toNat = 1 + (encP b.p).length + (encXs (b.bl ++ [b.pay])).length := by omega
  have hl' : ¬ (65536 : Int) < (encB b).length := by omega
  have hl'' : ¬ 65536 < (encB b).length := by omega
  refine Run.startE t_bundle_Get ?_
  unfold k_bundle_Get
  simp (disch := omega) [bl, ← zc, hl', hl'']
  rw [Xp_run ro rfl (by simp [bys_hfs]) (by simp)]
  simp (disch := omega) [bl]
  rw [Xp_run rs (by simp [bys_hfs]) (by simp) (by simp [scalar])]
  simp (disch := omega) [bl, bys_drop, d1]
  rw [Xp_run ri (by simp [bys_hfs]) (by simp [ah]) (by simp)]
  simp (disch := omega)
  rw [Xp_run rp (by simp [ah]) (by simp only [V.hf, V.hfs] at ph ⊢; rw [ph]; rfl) (by simp)]
  simp (disch := omega) [← zpc, q1, q2, q3, q4, s1, bl, bys_drop, d2, i1]
  rw [Xp_run rk (by simp [bys_hfs]) (by simp only [V.hf, V.hfs] at zh ⊢; rw [zh]; rfl) (by simp)]
  simp (disch := omega) [← zc, BB.len, z1, z2, z3, bl, bys_drop, d3, i2, bk, i1]
  rw [Xp_run rb rfl (by simp [bys_hfs]) (by simp)]
  simp (disch := omega) [bk, q1, q2, q3, s2, z1, BB.len, BB.tk]
  rw [Xp_run r (by simp [bh]) rfl (by simp)]
  simp (disch := omega) [← zc, BB.len, BB.tk, BB.one, BB.sp]
theorem bval_run {x : B5} (hx : Bok x) : ∃ h', Run T f_ref09_Value [x.v] [] (tX x).v h' := by
  obtain ⟨k1, k2, k3⟩ := hx.k
  obtain ⟨h', r⟩ := R9Value_run x.ty x.nu x.fl x.k.toNat x.s hx.vals (by omega)
  rw [Int.toNat_of_nonneg k1] at r
  exact ⟨h', r⟩
theorem b6_run {t : T6} (g : Good t) : ∃ h', Run T f_ref06_Put [t.v] [] (.ps 1 (bys (enc t))) h' := R6Put_run _ t (Nat.le_refl _) g.w g.ok g.r
theorem rput_loop (b : BB) (hn : b.bl.length ≤ 1000) (hL : ∀ x ∈ b.bl, Bok x) (g : Heap) : ∀ (m i : Nat), i + m = b.bl.length → ∀ (acc : List UInt8), acc.length ≤ 100000000 + i * 5000000 → ∀ ks Q,
    (∀ z, Xk T ks (.x 0) ((1, .ptr 0 0) :: (3, .str (acc ++ encXs (b.bl.drop i))) :: z) (some b.cells :: g) Q) →
    Xc T l_ref11_Put_0 ks [(1, .ptr 0 0), (3, .str acc), (4, .int .i64 i)] (some b.cells :: g) Q := by
  have bl := b5s_len b.bl
  intro m
  induction m with
  | zero =>
    intro i hi acc ha ks Q h1
    have e : b.bl.drop i = [] := List.drop_eq_nil_of_le (by omega)
    rw [e] at h1
    have e2 : ¬ (i : Int) < b.bl.length := by omega
    have e3 : ¬ i < b.bl.length := by omega
    simp only [encXs, List.append_nil] at h1
    rw [L_ref11_Put_0]; unfold bl_ref11_Put_0
    simp (disch := omega) [bl, e2, e3, BB.c19]
    exact h1 _
  | succ m ih =>
    intro i hi acc ha ks Q h1
    have hl : i < b.bl.length := by omega
    have e := List.drop_eq_getElem_cons hl
    rw [e] at h1
    have gt := b5s_get b.bl i hl
    have ih := ih (i + 1) (by omega)
    rw [show ((i + 1 : Nat) : Int) = (i : Int) + 1 from rfl] at ih
    have hx := hL b.bl[i] (List.getElem_mem hl)
    rw [L_ref11_Put_0]; unfold bl_ref11_Put_0
    simp (disch := omega) [bl, gt, hl, blkV_cells, BB.c19]
    generalize b.bl[i] = x at *
    obtain ⟨_, r⟩ := bval_run hx
    obtain ⟨_, r6⟩ := b6_run hx.good
    have xl := Bok.len (x := x)
    have hk := hx.k
    have vh := T6.v_hf (tX x)
    unfold B5.v blkV at r
    have e3 : enc (tX x) = encX x := rfl
    rw [e3] at r6
    rw [Xp_run r (by simp) vh (by simp)]
    simp (disch := omega)
    rw [Xp_run r6 (by simp [vh]) (by simp [bys_hfs]) (by simp)]
    have f1 : encXs (x :: b.bl.drop (i + 1)) = encX x ++ encXs (b.bl.drop (i + 1)) := rfl
    rw [f1, ← List.append_assoc] at h1
    simp (disch := omega) [bys_len, bys_back]
    exact ih (acc ++ encX x) (by rw [List.length_append]; omega) ks Q h1
theorem pval_run {p : PP} (h : PPin p) (hc : chkP p = 0) : ∃ h', Run T f_ref10_Value [p.v] [] (tP p).v h' := by
  have hB := h.B hc
  have c0 := hB.c0
  obtain ⟨k, hk⟩ := Int.eq_ofNat_of_zero_le c0
  have := hB.c2
  obtain ⟨_, h1, h2, h3⟩ := (chk0_spec hc).2
  obtain ⟨h', r⟩ := R10Value_run p h.ok k hk (by omega) h1 h2 h3 (prim_good hB)
  have ek : p.crc.toNat = k := by omega
  rw [← ek] at r
  exact ⟨h', r⟩
theorem RPut_run (b : BB) (hb : BOk b) : ∃ h', Run T f_ref11_Put [b.v] [] (.str (encB b)) h' := by
  have hn := hb.n
  obtain ⟨_, rp⟩ := pval_run hb.i.p hb.p
  obtain ⟨_, r6⟩ := b6_run (tP_good hb.i.p hb.p)
  obtain ⟨_, rv⟩ := bval_run hb.pay
  obtain ⟨_, r7⟩ := b6_run hb.pay.good
  have pl := encP_len hb.i.p hb.p
  have xl := encXs_len 65536 b.bl (fun x hx => by have := (hb.bl x hx).1.k; omega)
  have yl := Bok.len (x := b.pay)
  have yk := hb.pay.k
  have lp := rput_loop b (by omega) (fun x hx => (hb.bl x hx).1) [] b.bl.length 0 (by omega)
  have bv : b.v = .agg b.cells := rfl
  rw [bv]
  have ph := PP.hf b.p
  have yh := b5_hf b.pay
  have tp : V.agg (b.cells.take 19) = b.p.v := rfl
  have ty : V.agg ((b.cells.drop 20).take 5) = b.pay.v := rfl
  have vh := T6.v_hf (tP b.p)
  have wh := T6.v_hf (tX b.pay)
  have eP : enc (tP b.p) = encP b.p := rfl
  have eX : enc (tX b.pay) = encX b.pay := rfl
  rw [eP] at r6
  rw [eX] at r7
  refine Run.startE t_ref11_Put ?_
  unfold k_ref11_Put
  simp (disch := omega) [BB.len, BB.one, tp]
  rw [Xp_run rp (by simp [ph]) vh (by simp)]
  simp (disch := omega)
  rw [Xp_run r6 (by simp [vh]) (by simp [bys_hfs]) (by simp)]
  simp (disch := first | omega | (simp; omega)) [bys_back, bys_len]
  have lp := lp (159 :: encP b.p) (by simp; omega)
  rw [List.drop_zero] at lp
  refine lp _ _ (fun z => ?_)
  have le : (159 :: encP b.p).length = (encP b.p).length + 1 := rfl
  simp (disch := omega) [BB.len, ty]
  rw [Xp_run rv (by simp [yh]) wh (by simp)]
  simp (disch := omega)
  rw [Xp_run r7 (by simp [wh]) (by simp [bys_hfs]) (by simp)]
  simp (disch := first | omega | (simp; omega)) [bys_back, bys_len]
  simp [encB, encXs_app, encXs]
theorem eq_loop (l : List B5) (hn : l.length ≤ 1000000) (g : Heap) : ∀ (m i : Nat), i + m = l.length → ∀ ks Q,
    (∀ z, Xk T ks (.x 0) z g Q) →
    Xc T l_slices_Equal_api_Block_api_Block_0 ks [(0, .ps 5 (b5s l)), (1, .ps 5 (b5s l)), (12, .int .i64 l.length), (13, .int .i64 i)] g Q := by
  have bl := b5s_len l
  intro m
  induction m with
  | zero =>
    intro i hi ks Q h1
    have e2 : (i : Int) = l.length := by omega
    rw [L_slices_Equal_api_Block_api_Block_0]; unfold bl_slices_Equal_api_Block_api_Block_0
    simp (disch := omega) [e2]
    exact h1 _
  | succ m ih =>
    intro i hi ks Q h1
    have hl : i < l.length := by omega
    have gt := b5s_get l i hl
    have ih := ih (i + 1) (by omega)
    rw [show ((i + 1 : Nat) : Int) = (i : Int) + 1 from rfl] at ih
    rw [L_slices_Equal_api_Block_api_Block_0]; unfold bl_slices_Equal_api_Block_api_Block_0
    simp (disch := omega) [bl, gt, hl, blkV_cells]
    exact ih ks Q h1
theorem eqs_run (l : List B5) (hn : l.length ≤ 1000000) (h : Heap) : ∃ h', Run T f_slices_Equal_api_Block_api_Block [.ps 5 (b5s l), .ps 5 (b5s l)] h (.bool true) h' := by
  have bl := b5s_len l
  refine Run.startE t_slices_Equal_api_Block_api_Block ?_
  unfold k_slices_Equal_api_Block_api_Block
  simp (disch := omega) [bl]
  exact eq_loop l hn _ l.length 0 (by omega) _ _ (fun z => by simp)
theorem BSame_run (b : BB) (hn : b.bl.length ≤ 1000000) : ∃ h', Run T f_bundle_Same [b.v, b.v] [] (.bool true) h' := by
  obtain ⟨_, r⟩ := eqs_run b.bl hn []
  have tp : V.agg (b.cells.take 19) = b.p.v := rfl
  have ty : V.agg ((b.cells.drop 20).take 5) = blkV b.pay.ty b.pay.nu b.pay.fl b.pay.k b.pay.s := rfl
  refine Run.startE t_bundle_Same ?_
  unfold k_bundle_Same BB.v
  simp (disch := omega) [BB.len, BB.one, tp, ty, PP.v, blkV, BB.c19]
  rw [Xp_run r (by simp [b5s_hfs]) rfl (by simp [scalar])]
  simp (disch := omega)
theorem PutsB_run (b : BB) (hb : BBin b) : ∃ h', Run T f_law11_BundlePuts [b.v] [] (.bool true) h' := by
  have ok := hb.p.ok
  obtain ⟨_, rL⟩ := Light_run b ⟨hb.p.n1, hb.p.n2, hb.p.n3⟩
  have bh := BB.hf b
  have bv : b.v = .agg b.cells := rfl
  refine Run.startE t_law11_BundlePuts ?_
  unfold k_law11_BundlePuts
  rw [bv] at rL bh ⊢
  simp (disch := omega) [BB.len, BB.one, BB.tk]
  rw [Xp_run rL (by simp [bh]) rfl (by simp)]
  cases hl : lightB b with
  | false => simp (disch := omega) [awake11_p]
  | true =>
    have hL : b.bl.length ≤ 20 ∧ b.pay.s.length ≤ 500 ∧ lightL b.bl = true := by
      unfold lightB at hl
      by_cases q : 20 < b.bl.length ∨ 500 < b.pay.s.length ∨ 100 < b.p.d.nm.length ∨ 100 < b.p.s.nm.length ∨ 100 < b.p.r.nm.length
      · rw [if_pos q] at hl; cases hl
      · rw [if_neg q] at hl; exact ⟨by omega, by omega, hl⟩
    obtain ⟨_, rC⟩ := R11Check_run b ok (by omega) (fun y hy => (hb.bl y hy).nu.1)
    obtain ⟨_, rD⟩ := BCheck_run b ok (by omega)
    rw [bv] at rC rD
    by_cases hc : chkB b = 0
    · have hB := chkB0 hb hc
      obtain ⟨_, rP⟩ := BPut_run b hB hc
      have pl := encP_len hb.p hB.p
      have ll : ∀ l : List B5, lightL l = true → ∀ x ∈ l, x.s.length ≤ 200 := by
        intro l
        induction l with
        | nil => intro _ x hx; cases hx
        | cons y l ih =>
          intro h x hx
          unfold lightL at h
          by_cases q : 200 < y.s.length
          · rw [if_pos q] at h; cases h
          · rw [if_neg q] at h
            rcases List.mem_cons.1 hx with e | e
            · rw [e]; omega
            · exact ih h x e
      have xl := encXs_len 200 b.bl (ll _ hL.2.2)
      have yl := Bok.len (x := b.pay)
      have hn := hB.n
      have el : (encB b).length ≤ 65536 := by
        have : (encXs [b.pay]).length = (encX b.pay).length := by simp [encXs]
        simp only [encB, List.length_cons, List.length_append, List.length_nil, encXs_app]
        omega
      obtain ⟨_, rG⟩ := BGet_run b hB hc el
      obtain ⟨_, rR⟩ := RPut_run b hB
      obtain ⟨_, rS⟩ := R11Same_run b (by omega)
      obtain ⟨_, rT⟩ := BSame_run b (by omega)
      have zc : zB.cells = [.int .u64 0, .int .i64 0, .int .i64 0, .str [], .int .u64 0, .int .u64 0, .int .i64 0, .str [], .int .u64 0, .int .u64 0, .int .i64 0, .str [], .int .u64 0, .int .u64 0, .int .u64 0, .int .u64 0, .int .u64 0, .int .u64 0, .int .u64 0, .ps 5 [], .int .u64 0, .int .u64 0, .int .u64 0, .int .i64 0, .str []] := rfl
      rw [hc] at rC rD
      rw [bv] at rP rG rR rS rT
      have bh2 : V.hfs [V.agg b.cells, V.agg b.cells] = true := by simp only [V.hfs, bh]; rfl
      generalize encB b = E at *
      simp (disch := omega) [BB.len, BB.tk]
      rw [Xp_run rP (by simp [bh]) (by simp [bys_hfs]) (by simp)]
      simp (disch := omega) [BB.len, BB.tk]
      rw [Xp_run rC (by simp [bh]) rfl (by simp)]
      simp (disch := omega) [BB.len, BB.tk]
      rw [Xp_run rD (by simp [bh]) rfl (by simp)]
      simp (disch := omega)
      rw [Xp_run rG (by simp [bys_hfs]) (by simp only [V.hf, V.hfs] at bh ⊢; rw [bh]; rfl) (by simp)]
      simp (disch := omega) [← zc, BB.len, BB.one, BB.sp, BB.tk, awake11_p, bys_back]
      rw [Xp_run rR (by simp [bh]) rfl (by simp)]
      simp (disch := omega) [BB.len, BB.tk]
      rw [Xp_run rS bh2 rfl (by simp)]
      simp (disch := omega) [BB.len, BB.tk]
      rw [Xp_run rT bh2 rfl (by simp)]
      simp (disch := omega)
    · obtain ⟨_, rP⟩ := BPutE_run b ok (by omega) hc
      rw [bv] at rP
      generalize chkB b = z at *
      simp (disch := omega) [BB.len, BB.tk]
      rw [Xp_run rP (by simp [bh]) (by simp) (by simp)]
      simp (disch := omega) [BB.len, BB.tk]
      rw [Xp_run rC (by simp [bh]) rfl (by simp)]
      simp (disch := omega) [BB.len, BB.tk]
      rw [Xp_run rD (by simp [bh]) rfl (by simp)]
      simp (disch := omega) [hc, awake11_p]
theorem law_BundlePuts (x : V) (hx : ∃ vs, x = .agg vs ∧ Row sh25 vs) : ∃ h', Run T f_law11_BundlePuts [x] [] (.bool true) h' := by
  obtain ⟨vs, rfl, hr⟩ := hx
  obtain ⟨b, e, hb⟩ := readBB vs hr
  rw [e]
  exact PutsB_run b hb
end Ev
