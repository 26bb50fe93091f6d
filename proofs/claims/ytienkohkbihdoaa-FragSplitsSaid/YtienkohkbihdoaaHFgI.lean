/- Fragments: what the pieces are. The law FragSplits: the loop over the pieces. The law FragSplits. Each theorem states its own conditions. -/
import Derived.Test.YtienkohkbihdoaaHCode
import Derived.Test.YtienkohkbihdoaaHFgH
set_option linter.all false
namespace Ev
open Go
set_option maxRecDepth 10000
attribute [-simp] getElem?_pos getElem?_neg List.drop_one
/-- What is cut. -/
structure Cut (b : BB) (s M : Nat) : Prop where
  p : PPin b.p
  c : chkB b = 0
  n0 : 0 < b.pay.s.length
  n1 : b.pay.s.length ≤ 1000
  s0 : 0 < s
  m : M = FgN b.pay.s.length s
  m2 : 1 < M
  w : wholeB b.p.fl = false
  f : fragB b.p.fl = true → b.p.off + b.pay.s.length ≤ b.p.tot
section
variable {b : BB} {s M : Nat} (C : Cut b s M)
theorem Cut.k (C : Cut b s M) {i : Nat} (hi : i < M) : i * s ≤ b.pay.s.length - 1 := FgN_mul C.n0 (by rw [← C.m]; exact hi)
theorem Cut.last (C : Cut b s M) {i : Nat} (hi : i + 1 < M) : i * s + s ≤ b.pay.s.length := by
  have := C.k (i := i + 1) hi
  have h0 := C.n0
  rw [Nat.add_mul, Nat.one_mul] at this
  omega
theorem Cut.all (C : Cut b s M) : b.pay.s.length ≤ M * s := by
  have h0 := C.n0
  have hs := C.s0
  rw [C.m]; unfold FgN
  rw [if_neg (by omega)]
  have e := Nat.div_add_mod (b.pay.s.length - 1) s
  have l := Nat.mod_lt (b.pay.s.length - 1) hs
  rw [Nat.add_mul, Nat.one_mul, Nat.mul_comm]
  omega
theorem Cut.Mn (C : Cut b s M) : M ≤ b.pay.s.length := by rw [C.m]; exact FgN_le _ _ C.n0
theorem pc_s (C : Cut b s M) {i : Nat} (hi : i < M) : (pc b s i).pay.s = (b.pay.s.drop (i * s)).take s := by
  have := C.k hi
  have h0 := C.n0
  show (b.pay.s.take (i * s + min s (b.pay.s.length - i * s))).drop (i * s) = _
  rw [List.drop_take]
  have e : i * s + min s (b.pay.s.length - i * s) - i * s = min s (b.pay.s.length - i * s) := by omega
  rw [e]
  by_cases c : s ≤ b.pay.s.length - i * s
  · rw [Nat.min_eq_left c]
  · rw [Nat.min_eq_right (by omega), List.take_of_length_le (by simp), List.take_of_length_le (by simp; omega)]
theorem pc_len (C : Cut b s M) {i : Nat} (hi : i < M) : (pc b s i).pay.s.length = min s (b.pay.s.length - i * s) := by
  rw [pc_s C hi]; simp
theorem pc_off (b : BB) (s i : Nat) : (pc b s i).p.off = b.p.off + ((i * s : Nat) : Int) := rfl
theorem pc_frag (b : BB) (s i : Nat) : fragB (pc b s i).p.fl = true := by
  show fragB (if fragB b.p.fl = true then b.p.fl else b.p.fl + 1) = true
  by_cases c : fragB b.p.fl = true
  · rw [if_pos c]; exact c
  · rw [if_neg c]
    unfold fragB at *
    rw [decide_eq_true_eq] at *
    omega
theorem pc_bl (C : Cut b s M) (i : Nat) : (pc b s i).bl = if i = 0 then b.bl else [] := by
  show (if i * s = 0 then b.bl else []) = _
  have := C.s0
  by_cases c : i = 0
  · subst c; simp
  · rw [if_neg (by
      intro q
      rcases Nat.mul_eq_zero.1 q with q | q <;> omega), if_neg c]
theorem Cut.off (C : Cut b s M) : b.p.off + b.pay.s.length ≤ 18446744073709551615 ∧ 0 ≤ b.p.off ∧ (fragB b.p.fl = false → b.p.off = 0 ∧ b.p.tot = 0) := by
  have h1 := C.n1
  have h2 := C.p.off.1
  have h3 := C.p.tot.2
  cases c : fragB b.p.fl with
  | true => have := C.f c; exact ⟨by omega, h2, fun h => by cases h⟩
  | false => have := chkB_nf C.c c; exact ⟨by omega, h2, fun _ => this⟩
theorem pc_tot (C : Cut b s M) (i : Nat) : b.p.off + b.pay.s.length ≤ (pc b s i).p.tot ∧ (pc b s i).p.tot ≤ 18446744073709551615 := by
  have h1 := C.n1
  have h3 := C.p.tot.2
  show b.p.off + b.pay.s.length ≤ (if fragB b.p.fl = true then b.p.tot else b.pay.s.length) ∧ (if fragB b.p.fl = true then b.p.tot else (b.pay.s.length : Int)) ≤ _
  cases c : fragB b.p.fl with
  | true => have := C.f c; simp only [if_true]; omega
  | false =>
    have := (C.off.2.2 c).1
    simp only [Bool.false_eq_true, if_false]
    omega
theorem chkB_parts {b : BB} (h : chkB b = 0) : b.bl.length ≤ 16 ∧ chkP b.p = 0 ∧ chkS b.pay.nu b.pay.k b.pay.s = 0 ∧ firstE b.bl = 0 ∧ b.pay.ty = 1 ∧ b.pay.nu = 1 ∧ unlF [0, 1] b.bl = true := by
  unfold chkB at h
  split at h
  · cases h
  · split at h
    · rename_i k; exact absurd h k
    · split at h
      · rename_i k; exact absurd h k
      · split at h
        · rename_i k; exact absurd h k
        · split at h
          · rename_i h1 h2 h3 h4 h5
            exact ⟨by omega, Decidable.byContradiction fun q => h2 q, Decidable.byContradiction fun q => h3 q, Decidable.byContradiction fun q => h4 q, h5⟩
          · cases h
theorem chkB_of {b : BB} (h1 : b.bl.length ≤ 16) (h2 : chkP b.p = 0) (h3 : chkS b.pay.nu b.pay.k b.pay.s = 0) (h4 : firstE b.bl = 0) (h5 : b.pay.ty = 1 ∧ b.pay.nu = 1 ∧ unlF [0, 1] b.bl = true) : chkB b = 0 := by
  unfold chkB
  rw [if_neg (by omega), if_neg (by simp [h2]), if_neg (by simp [h3]), if_neg (by simp [h4]), if_pos h5]
theorem pc_chk (C : Cut b s M) {i : Nat} (hi : i < M) : chkB (pc b s i) = 0 := by
  obtain ⟨h1, h2, h3, h4, h5, h6, h7⟩ := chkB_parts C.c
  have hk := C.k hi
  have h0 := C.n0
  have hn := C.n1
  have bl := pc_bl C i
  have w : wholeB (pc b s i).p.fl = false := by
    have := C.w
    show wholeB (if fragB b.p.fl = true then b.p.fl else b.p.fl + 1) = false
    by_cases c : fragB b.p.fl = true
    · rw [if_pos c]; exact this
    · rw [if_neg c]
      unfold fragB at c
      unfold wholeB at *
      rw [decide_eq_false_iff_not] at *
      rw [decide_eq_true_eq] at c
      omega
  refine chkB_of ?_ ?_ ?_ ?_ ⟨h5, h6, ?_⟩
  · rw [bl]; split
    · exact h1
    · simp
  · unfold chkP at h2 ⊢
    split at h2
    · cases h2
    · rename_i q1
      split at h2
      · cases h2
      · split at h2
        · cases h2
        · rename_i q2 q3
          have e1 : ¬ ((pc b s i).p.crc < 0 ∨ 2 < (pc b s i).p.crc ∨ ¬ (rightE (pc b s i).p.d.sc (pc b s i).p.d.nm (pc b s i).p.d.nd (pc b s i).p.d.sv = true ∧ rightE (pc b s i).p.s.sc (pc b s i).p.s.nm (pc b s i).p.s.nd (pc b s i).p.s.sv = true ∧ rightE (pc b s i).p.r.sc (pc b s i).p.r.nm (pc b s i).p.r.nd (pc b s i).p.r.sv = true) ∨ 2097152 ≤ (pc b s i).p.fl) := by
            intro q
            apply q1
            rcases q with q | q | q | q
            · exact .inl q
            · exact .inr (.inl q)
            · exact .inr (.inr (.inl q))
            · refine .inr (.inr (.inr ?_))
              have q : 2097152 ≤ (if fragB b.p.fl = true then b.p.fl else b.p.fl + 1) := q
              by_cases c : fragB b.p.fl = true
              · rw [if_pos c] at q; exact q
              · rw [if_neg c] at q
                unfold fragB at c
                rw [decide_eq_true_eq] at c
                omega
          rw [if_neg e1]
          have e2 : ¬ ((fragB (pc b s i).p.fl = true ∧ (wholeB (pc b s i).p.fl = true ∨ (pc b s i).p.tot ≤ (pc b s i).p.off)) ∨ (fragB (pc b s i).p.fl = false ∧ ((pc b s i).p.off ≠ 0 ∨ (pc b s i).p.tot ≠ 0))) := by
            rintro (⟨_, q | q⟩ | ⟨q, _⟩)
            · rw [w] at q; cases q
            · have := (pc_tot C i).1
              rw [pc_off] at q
              omega
            · rw [pc_frag] at q; cases q
          rw [if_neg e2]
          have e3 : ¬ ((pc b s i).p.s.sc = 1 ∧ (pc b s i).p.s.nm = [] ∧ (wholeB (pc b s i).p.fl = false ∨ fragB (pc b s i).p.fl = true ∨ repB (pc b s i).p.fl = true)) := by
            rintro ⟨q, q', _⟩
            exact q3 ⟨q, q', .inl C.w⟩
          rw [if_neg e3]
  · have l := pc_len C hi
    unfold chkS at h3 ⊢
    split at h3
    · cases h3
    · rename_i q
      split at h3
      · cases h3
      · rw [if_neg (show ¬ ((pc b s i).pay.nu = 0 ∨ (pc b s i).pay.k < 0 ∨ 2 < (pc b s i).pay.k) from q), if_neg]
        rw [l]; omega
  · rw [bl]; split
    · exact h4
    · rfl
  · rw [bl]; split
    · exact h7
    · rfl
theorem pc_ok (C : Cut b s M) {i : Nat} (hi : i < M) : BOk (pc b s i) := by
  have hk := C.k hi
  have h0 := C.n0
  have hn := C.n1
  obtain ⟨o1, o2, _⟩ := C.off
  have t := pc_tot C i
  have l := pc_len C hi
  have f1 : (pc b s i).p.fl ≤ 18446744073709551615 := by
    have h2 := (chkB_parts (pc_chk C hi)).2.1
    unfold chkP at h2
    split at h2
    · cases h2
    · rename_i q
      have : ¬ 2097152 ≤ (pc b s i).p.fl := fun z => q (.inr (.inr (.inr z)))
      omega
  have f0 : 0 ≤ (pc b s i).p.fl := by
    have := C.p.fl.1
    show 0 ≤ (if fragB b.p.fl = true then b.p.fl else b.p.fl + 1)
    split <;> omega
  have of := pc_off b s i
  exact ⟨⟨f0, f1, by omega, by omega, C.p.n1, C.p.n2, C.p.n3⟩, by omega, by omega, by rw [l]; omega, fun _ => by omega⟩
theorem mem_pcs {w : BB} : w ∈ pcs b s M ↔ ∃ i, i < M ∧ pc b s i = w := by simp [pcs]
theorem mem_back {w : BB} : w ∈ (pcs b s M).reverse ↔ ∃ i, i < M ∧ pc b s i = w := by rw [List.mem_reverse, mem_pcs]
theorem spans_dec (C : Cut b s M) : (spansB (pcs b s M).reverse).Pairwise (fun x y => y.lo < x.lo) := by
  unfold spansB
  rw [List.pairwise_map]
  refine List.Pairwise.filter _ ?_
  rw [List.pairwise_reverse]
  unfold pcs
  rw [List.pairwise_map]
  refine List.Pairwise.imp ?_ List.pairwise_lt_range
  intro i j hij
  show (pc b s i).p.off < (pc b s j).p.off
  rw [pc_off, pc_off]
  have h1 : i * s < j * s := Nat.mul_lt_mul_of_pos_right hij C.s0
  omega
theorem fstC_0 : ∀ {l : List BB}, (∀ b ∈ l, chkB b = 0) → fstC l = 0
  | [], _ => rfl
  | x :: r, h => by
    simp only [fstC]
    rw [if_neg (by simp [h x (by simp)]), fstC_0 fun b hb => h b (by simp [hb])]
theorem pc_val (C : Cut b s M) (hf : fragB b.p.fl = false) {i : Nat} (hi : i < M) {p : Nat} {x : UInt8} (h : val (pc b s i) p = some x) : b.pay.s[p]? = some x := by
  have o0 := (C.off.2.2 hf).1
  have ho : (pc b s i).p.off = ((i * s : Nat) : Int) := by rw [pc_off, o0]; omega
  by_cases c : i * s ≤ p
  · obtain ⟨j, rfl⟩ : ∃ j, p = i * s + j := ⟨p - i * s, by omega⟩
    rw [val_at ho, pc_s C hi, List.getElem?_take] at h
    split at h
    · rwa [List.getElem?_drop] at h
    · cases h
  · rw [val_out ho (.inl (by omega))] at h; cases h
theorem pc_cov (C : Cut b s M) (hf : fragB b.p.fl = false) {p : Nat} (hp : p < b.pay.s.length) : ∃ i, i < M ∧ val (pc b s i) p = some b.pay.s[p] := by
  have o0 := (C.off.2.2 hf).1
  have hs := C.s0
  have e := Nat.div_add_mod p s
  have l := Nat.mod_lt p hs
  have hi : p / s < M := by
    rw [Nat.div_lt_iff_lt_mul hs]
    have := C.all
    omega
  refine ⟨p / s, hi, ?_⟩
  have ho : (pc b s (p / s)).p.off = ((p / s * s : Nat) : Int) := by rw [pc_off, o0]; omega
  have e2 : p = p / s * s + p % s := by rw [Nat.mul_comm]; omega
  have := val_at ho (p % s)
  rw [← e2] at this
  rw [this, pc_s C hi, List.getElem?_take, if_pos l, List.getElem?_drop, ← e2, List.getElem?_eq_getElem hp]
theorem back_join (C : Cut b s M) (hf : fragB b.p.fl = false) {r : BB} {e : Int} (h : JoinR (pcs b s M).reverse r e) : e = 0 ∧ r = b := by
  have m2 := C.m2
  have hn := C.n1
  have o := C.off.2.2 hf
  have mem := fun w => @mem_back b s M w
  have tot : ∀ i, (pc b s i).p.tot = b.pay.s.length := fun i => by
    show (if fragB b.p.fl = true then b.p.tot else (b.pay.s.length : Int)) = _
    rw [hf]; simp
  generalize hB : (pcs b s M).reverse = B at h mem
  cases B with
  | nil =>
    have := (mem (pc b s 0)).2 ⟨0, by omega, rfl⟩
    simp at this
  | cons x l =>
    obtain ⟨ix, hix, ex⟩ := (mem x).1 (by simp)
    have fx : fragB x.p.fl = true := by rw [← ex]; exact pc_frag _ _ _
    have tx : x.p.tot.toNat = b.pay.s.length := by rw [← ex, tot]; rfl
    have h : JoinC x l r e := h
    unfold JoinC at h
    have c0 : fstC (x :: l) = 0 := fstC_0 fun w hw => by
      obtain ⟨i, hi, rfl⟩ := (mem w).1 hw
      exact pc_chk C hi
    have c2 : (x :: l).all (fitB x.p) = true := List.all_eq_true.2 fun w hw => by
      obtain ⟨i, hi, rfl⟩ := (mem w).1 hw
      have t1 := (pc_tot C i).1
      have lw := pc_len C hi
      have ow := pc_off b s i
      have hk := C.k hi
      have h0 := C.n0
      have a1 : eqE (pc b s i).p.s x.p.s = true := by rw [← ex]; simp [eqE, pc, FgPc]
      have a2 : eqT (pc b s i).p x.p = true := by rw [← ex]; simp [eqT, pc, FgPc]
      have a3 : ((pc b s i).pay.s.length : Int) ≤ (pc b s i).p.tot - (pc b s i).p.off := by rw [lw, tot, ow]; omega
      have a4 : (pc b s i).p.tot ≤ 65536 := by rw [tot]; omega
      have a5 : (pc b s i).p.tot = x.p.tot := by rw [← ex, tot, tot]
      simp only [fitB, sameP, pc_frag, fx, a1, a2, a3, a4, a5, decide_true, beq_self_eq_true, Bool.and_self]
      have a3 := a3
      rw [a5] at a3 a4
      simp [a3, a4]
    rw [if_neg (by simp [c0]), if_neg (by simp [fx]), if_neg (by simp [c2])] at h
    rcases h with ⟨hc, _⟩ | ⟨d, t, hI, h⟩
    · obtain ⟨u, hu, v, hv, p, y, z, v1, v2, v3⟩ := hc
      obtain ⟨i, hi, rfl⟩ := (mem u).1 hu
      obtain ⟨j, hj, rfl⟩ := (mem v).1 hv
      have q1 := pc_val C hf hi v1
      have q2 := pc_val C hf hj v2
      rw [q1] at q2
      exact absurd (Option.some.inj q2) v3
    · rw [tx] at hI h
      rcases h with ⟨_, _, p, hp, hh⟩ | ⟨he, hcov, w, hw, hw0, hr⟩
      · obtain ⟨i, hi, hv⟩ := pc_cov C hf hp
        rw [hh _ ((mem _).2 ⟨i, hi, rfl⟩)] at hv; cases hv
      · have ed : d = b.pay.s := by
          apply List.ext_getElem?
          intro p
          by_cases hp : p < b.pay.s.length
          · obtain ⟨i, hi, hv⟩ := pc_cov C hf hp
            rw [hI.da _ ((mem _).2 ⟨i, hi, rfl⟩) p _ hv, List.getElem?_eq_getElem hp]
          · have := hI.dl
            rw [List.getElem?_eq_none (by omega), List.getElem?_eq_none (by omega)]
        obtain ⟨i, hi, rfl⟩ := (mem w).1 hw
        have i0 : i = 0 := by
          rw [pc_off, o.1] at hw0
          have : i * s = 0 := by omega
          have := C.s0
          rcases Nat.mul_eq_zero.1 ‹i * s = 0› with q | q
          · exact q
          · omega
        subst i0
        refine ⟨he, ?_⟩
        rw [hr, ed]
        have blk := pc_bl C 0
        unfold joinB wholeP
        rw [blk, if_pos rfl]
        obtain ⟨⟨fl, crc, ed, es, er, st, sq, life, off, tt⟩, bl, ⟨ty, nu, f2, k2, s2⟩⟩ := b
        have hf : fragB fl = false := hf
        obtain ⟨rfl, rfl⟩ : off = 0 ∧ tt = 0 := o
        have ff : (if fragB fl = true then fl else fl + 1) - (if fragB fl = true then fl else fl + 1) % 2 = fl := by
          have h2 : ¬ fl % 2 = 1 := of_decide_eq_false hf
          have h3 : (fl + 1) % 2 = 1 := by omega
          rw [hf]
          show fl + 1 - (fl + 1) % 2 = fl
          rw [h3]
          exact Int.add_sub_cancel fl 1
        simp only [pc, FgPc, ff]
end
attribute [local simp] BB.tk BB.len BB.one BB.sp BB.c0 BB.c17 BB.c18 BB.c19 BB.c24 PP.len PP.tk PP.one PP.sp BB.vc PP.vc PP.cv BB.tP
attribute [local simp] PP.c0 PP.c17 PP.c18 PP.t6 PP.t14
theorem FgSp_loop {b : BB} {s M : Nat} (C : Cut b s M) (hbl : ∀ y ∈ b.bl, 0 ≤ y.nu) : ∀ (m i : Nat) (g : Heap), i + m = M → g.row 0 = some b.cells → ∀ ks Q,
    (∀ z g', g'.row 0 = some b.cells → Xk T ks (.x 0) ((1, .int .i64 s) :: (2, .ptr 0 0) :: (5, .ps 25 (bbs (pcs b s M))) :: (9, .int .i64 M) :: (10, .str b.pay.s) :: (11, .ps 25 (bbs (pcs b s M).reverse)) :: z) g' Q) →
    Xc T l_law12_FragSplits_0 ks [(1, .int .i64 s), (2, .ptr 0 0), (5, .ps 25 (bbs (pcs b s M))), (9, .int .i64 M), (10, .str (b.pay.s.take (i * s))), (11, .ps 25 (bbs (pcs b s i).reverse)), (12, .int .i64 i)] g Q := by
  intro m
  have bl := bbs_len (pcs b s M)
  have pl := pcs_len b s M
  have hMn := C.Mn
  have hn := C.n1
  induction m with
  | zero =>
    intro i g hi h0 ks Q hx
    have e : i = M := by omega
    subst e
    have c1 : ¬ (i : Int) < i := by omega
    have ta : b.pay.s.take (i * s) = b.pay.s := List.take_of_length_le C.all
    rw [ta]
    rw [L_law12_FragSplits_0]; unfold bl_law12_FragSplits_0
    simp (disch := omega) [c1, bl, pl]
    exact hx _ g h0
  | succ m ih =>
    intro i g hi h0 ks Q hx
    have hiM : i < M := by omega
    have c1 : (i : Int) < M := by omega
    have hil : i < (pcs b s M).length := by omega
    have gi : (pcs b s M)[i] = pc b s i := by simp [pcs]
    have g1 := bbs_get (pcs b s M) i hil
    rw [gi] at g1
    have z0 := rlt h0
    have ck := pc_chk C hiM
    have wok := pc_ok C hiM
    have of := pc_off b s i
    have ff := pc_frag b s i
    have ln := pc_len C hiM
    have hk := C.k hiM
    have hs := pc_s C hiM
    have hlast := fun h => C.last (i := i) h
    have wbl := pc_bl C i
    have hb16 := (chkB_parts C.c).1
    have hn0 := C.n0
    have ho := C.off
    obtain ⟨k, hk'⟩ : ∃ k, k = i * s := ⟨_, rfl⟩
    have tk : b.pay.s.take ((i + 1) * s) = b.pay.s.take k ++ (pc b s i).pay.s := by
      rw [hs, hk', Nat.add_mul, Nat.one_mul, List.take_add]
    rw [← hk'] at of ln hk hlast
    have e3 : bbs (pcs b s (i + 1)).reverse = (pc b s i).v :: bbs (pcs b s i).reverse := by rw [pcs_succ, List.reverse_append]; rfl
    have ih := ih (i + 1) (g ++ [some (pc b s i).p.cells]) (by omega) (by rw [row_app z0]; exact h0) ks Q hx
    rw [tk, e3, show ((i + 1 : Nat) : Int) = (i : Int) + 1 from rfl] at ih
    have nn : ∀ y ∈ (pc b s i).bl, 0 ≤ y.nu := fun y hy => by
      rw [wbl] at hy
      split at hy
      · exact hbl y hy
      · simp at hy
    have bb : (pc b s i).bl.length ≤ 1000000 := by
      rw [wbl]; split
      · omega
      · simp
    obtain ⟨_, rc⟩ := R11Check_run (pc b s i) wok.p bb nn
    rw [ck] at rc
    have rv := bbs_len (pcs b s i).reverse
    have rl : (pcs b s i).reverse.length = i := by rw [List.length_reverse, pcs_len]
    have om := fun q => (op_rem2 q (pc b s i).p.fl wok.p.f0 wok.p.f1).trans (by rw [ff])
    simp only [if_true] at om
    have wk : IntKind.i64.wrap ((i : Int) * (s : Int)) = (k : Int) := by
      rw [show (i : Int) * (s : Int) = ((i * s : Nat) : Int) by simp, ← hk']; exact wrap_i64 (by omega) (by omega)
    have wu : IntKind.u64.wrap (k : Int) = k := wrap_u64 (by omega) (by omega)
    have wa : IntKind.u64.wrap (b.p.off + (k : Int)) = b.p.off + k := wrap_u64 (by omega) (by omega)
    have b5 := b5s_len (pc b s i).bl
    have s0 := C.s0
    have hbl0 : 0 < i → (pc b s i).bl.length = 0 := fun h => by rw [wbl, if_neg (by omega)]; rfl
    have ba : binV .add .int (.str (b.pay.s.take k)) (.str (pc b s i).pay.s) = some (.str (b.pay.s.take k ++ (pc b s i).pay.s)) := bin_adds _ _ _ (by rw [List.length_take, ln]; omega)
    have bv : ∀ b : BB, V.agg b.cells = b.v := fun _ => rfl
    rw [← hk']
    generalize pc b s i = w at *
    generalize (pcs b s i).reverse = B at *
    have rA : ∀ x y, Heap.row (g ++ x :: y) g.length = x := fun x y => rowA
    have r0A : ∀ y, Heap.row (g ++ y) 0 = some b.cells := fun y => by rw [row_app z0]; exact h0
    have hB : ((bbs B).length + 1) * 248 ≤ 140737488355328 := by omega
    have hB' : (1 + (bbs B).length) * 248 ≤ 140737488355328 := by omega
    have wl : w.pay.s.length ≤ 1000 := by omega
    rw [L_law12_FragSplits_0]; unfold bl_law12_FragSplits_0
    rw [zP_cells]
    simp (disch := omega) [c1, bl, pl, g1, hiM, rA, ba, bv, hB, hB', rv]
    rw [Xp_run rc (by simp [BB.hf]) (by simp) (by simp [scalar])]
    have wm : IntKind.i64.wrap ((M : Int) - 1) = M - 1 := wrap_i64 (by omega) (by omega)
    have bl0 : 0 < i → (b5s w.bl).length = 0 := fun h => by rw [b5]; exact hbl0 h
    have hm0 : (0 : Int) < M := by omega
    by_cases c2 : i + 1 < M
    · have c2' : (i : Int) < M - 1 := by omega
      have ws : w.pay.s.length = s := by have := hlast c2; omega
      by_cases c3 : 0 < i
      · have c3' : (0 : Int) < i := by omega
        have b0 := bl0 c3
        simp (disch := omega) [rA, r0A, of, wk, wu, wa, om, wm, c2', c3, c3', g1, bl, pl, hiM, ws, b0]
        exact ih
      · have i0 : i = 0 := by omega
        have c3' : ¬ (0 : Int) < i := by omega
        simp (disch := omega) [rA, r0A, of, wk, wu, wa, om, wm, c2', c3, c3', g1, bl, pl, hiM, ws]
        exact ih
    · have c2' : ¬ (i : Int) < M - 1 := by omega
      by_cases c3 : 0 < i
      · have c3' : (0 : Int) < i := by omega
        have b0 := bl0 c3
        simp (disch := omega) [rA, r0A, of, wk, wu, wa, om, wm, c2', c3, c3', g1, bl, pl, hiM, b0]
        exact ih
      · have c3' : ¬ (0 : Int) < i := by omega
        simp (disch := omega) [rA, r0A, of, wk, wu, wa, om, wm, c2', c3, c3', g1, bl, pl, hiM]
        exact ih
attribute [local simp] BB.tk BB.len BB.one BB.sp BB.c0 BB.c17 BB.c18 BB.c19 BB.c24 PP.len PP.tk PP.one PP.sp BB.vc PP.vc PP.cv BB.tP
attribute [local simp] PP.c0 PP.c17 PP.c18 PP.t6 PP.t14
def tlS : ACode := match k_law12_FragSplits with
  | .seq _ (.seq _ (.seq _ (.seq _ (.seq _ (.seq _ (.seq _ (.seq _ (.seq _ (.seq _ (.seq _ (.seq _ t))))))))))) => t
  | _ => .skip
def tlS2 : ACode := match k_law12_FragSplits with
  | .seq _ (.seq _ (.seq _ (.seq _ (.seq _ (.seq _ (.seq _ (.seq _ (.seq _ (.seq _ (.seq _ (.seq _ (.seq _ (.seq _ (.seq _ (.seq _ (.seq _ t)))))))))))))))) => t
  | _ => .skip
theorem FgSp_rest {b : BB} {s M : Nat} (C : Cut b s M) (hbl : ∀ y ∈ b.bl, 0 ≤ y.nu) (z : List (Nat × V)) (g : Heap) (h0 : g.row 0 = some b.cells) :
    Xc T tlS [] ((1, .int .i64 s) :: (2, .ptr 0 0) :: (5, .ps 25 (bbs (pcs b s M))) :: (6, .int .i64 0) :: (9, .int .i64 M) :: z) g (RetE [RV.t 4] [] (.bool true)) := by
  have bl := bbs_len (pcs b s M)
  have pl := pcs_len b s M
  have hMn := C.Mn
  have hn := C.n1
  have hb16 := (chkB_parts C.c).1
  have rl : (pcs b s M).reverse.length = M := by rw [List.length_reverse, pl]
  have lp := FgSp_loop C hbl M 0 g (by omega) h0
  rw [Nat.zero_mul, List.take_zero] at lp
  have e0 : bbs (pcs b s 0).reverse = [] := rfl
  rw [e0] at lp
  have ok : ∀ w ∈ (pcs b s M).reverse, BOk w := fun w hw => by
    obtain ⟨i, hi, rfl⟩ := mem_back.1 hw
    exact pc_ok C hi
  have wb : ∀ w ∈ (pcs b s M).reverse, w.bl.length ≤ 1000000 := fun w hw => by
    obtain ⟨i, hi, rfl⟩ := mem_back.1 hw
    rw [pc_bl C]; split
    · omega
    · simp
  have sl := spans_len (pcs b s M).reverse
  obtain ⟨r, e, _, hJ, rj⟩ := FgJoin_run (pcs b s M).reverse (by omega) (fun w hw => (ok w hw).p) wb (fun _ => ok) (fun _ => canSortD _ (by omega) (spans_dec C))
  show Xc T (.seq (.seq _ _) (.seq _ (.seq _ (.seq (.seq _ _) (.seq _ tlS2))))) _ _ _ _
  simp (disch := omega)
  refine lp _ _ fun z g' h0' => ?_
  have z0 := rlt h0'
  simp (disch := omega) [bl, pl, h0']
  rw [show tlS2 = .seq _ (.seq _ _) from rfl]
  rw [zB_cells]
  simp (disch := omega)
  rw [Xp_run rj (by simp [bbs_hf]) (by simp [BB.hf]) (by simp [scalar])]
  have r0A : ∀ y, Heap.row (g' ++ y) 0 = some b.cells := fun y => by rw [row_app z0]; exact h0'
  have rA : ∀ x y, Heap.row (g' ++ x :: y) g'.length = x := fun x y => rowA
  have bv : ∀ b : BB, V.agg b.cells = b.v := fun _ => rfl
  have om := fun q => op_rem2 q b.p.fl C.p.fl.1 C.p.fl.2
  cases cf : fragB b.p.fl with
  | true =>
    have om := fun q => (om q).trans (by rw [cf])
    simp only [if_true] at om
    simp (disch := omega) [awake12_p, r0A, om]
  | false =>
    have om := fun q => (om q).trans (by rw [cf])
    simp only [Bool.false_eq_true, if_false] at om
    obtain ⟨rfl, rfl⟩ := back_join C cf hJ
    obtain ⟨_, rs⟩ := R11Same_run r (by omega)
    simp (disch := omega) [awake12_p, r0A, om, rA, bv]
    rw [Xp_run rs (by simp [BB.hf]) (by simp) (by simp [scalar])]
    simp (disch := omega)
theorem FgSp_run (b : BB) (hb : BBin b) (size : Int) : ∃ h', Run T f_law12_FragSplits [b.v, .int .i64 size] [] (.bool true) h' := by
  obtain ⟨_, rl⟩ := Light_run b ⟨hb.p.n1, hb.p.n2, hb.p.n3⟩
  have bv : ∀ b : BB, V.agg b.cells = b.v := fun _ => rfl
  have r0 : ∀ v w, Heap.row (v :: w : Heap) 0 = v := fun v w => rfl
  refine Run.startE t_law12_FragSplits ?_
  show Xc T (.seq _ (.seq _ (.seq _ (.seq _ (.seq _ (.seq _ (.seq _ (.seq _ (.seq _ (.seq _ (.seq _ (.seq _ tlS)))))))))))) _ _ _ _
  unfold BB.v at rl ⊢
  simp (disch := omega) [r0]
  have hfb : V.hf (.agg b.cells) = true := BB.hf b
  rw [Xp_run rl (by simp [V.hfs, hfb]) (by simp) (by simp [scalar])]
  cases cl : lightB b with
  | false => simp (disch := omega) [awake12_p]
  | true =>
    have hp := hb.p.ok
    obtain ⟨l1, l2⟩ := light_s cl
    obtain ⟨_, rsp⟩ := FgSplit_run b hp hb.p.off.2 hb.p.tot.2 (by omega) (by omega) size
    obtain ⟨_, rc⟩ := R11Check_run b hp (by omega) (fun y hy => (hb.bl y hy).nu.1)
    obtain ⟨_, rm⟩ := FgMany_run b.pay.s.length (by omega) size []
    obtain ⟨_, rm'⟩ := FgManyR_run b.pay.s.length (by omega) size []
    obtain ⟨_, rs⟩ := R11Same_run b (by omega)
    have om := fun q => op_rem2 q b.p.fl hb.p.fl.1 hb.p.fl.2
    simp (disch := omega) [r0, bv]
    rw [Xp_run rsp (by simp [BB.hf]) (by simp [bbs_hf]) (by simp [scalar])]
    simp (disch := omega) [r0, bv]
    rw [Xp_run rc (by simp [BB.hf]) (by simp) (by simp [scalar])]
    by_cases c1 : chkB b = 0
    · simp (disch := omega) [c1, r0]
      rw [Xp_run rm' (by simp) (by simp) (by simp [scalar])]
      simp (disch := omega)
      rw [Xp_run rm (by simp) (by simp) (by simp [scalar])]
      by_cases c2 : size < 1
      · have e : splitR b size = ([], 3) := by unfold splitR; rw [if_neg (by simp [c1]), if_pos c2]
        simp (disch := omega) [c2, bbs, e, awake12_p]
      · have c3 : FgI b.pay.s.length size ≤ 1000 := by
          by_cases q : FgI b.pay.s.length size = 1
          · omega
          · obtain ⟨s, _, _, _, _, e, _, h⟩ := many_big (show b.pay.s.length ≤ 1000 by omega) c2 q
            omega
        have c3' : ¬ 1024 < FgI b.pay.s.length size := by omega
        by_cases c4 : FgI b.pay.s.length size = 1
        · have e : splitR b size = ([b], 0) := by unfold splitR; rw [if_neg (by simp [c1]), if_neg c2, if_pos c4]
          simp (disch := omega) [c2, c4, bbs, e, awake12_p, r0, bv]
          rw [Xp_run rs (by simp [BB.hf]) (by simp) (by simp [scalar])]
          simp (disch := omega)
        · obtain ⟨s, rfl, s0, s1, n0, em, m1, m2⟩ := many_big (show b.pay.s.length ≤ 1000 by omega) c2 c4
          have oq : ∀ q, binV .quo q (.int .u64 b.p.fl) (.int .u64 4) = some (.int .u64 (b.p.fl / 4)) := fun q => by
            have f0 := hp.f0
            have f1 := hp.f1
            rw [show binV .quo q (.int .u64 b.p.fl) (.int .u64 4) = some (.int .u64 (IntKind.u64.wrap (b.p.fl.tdiv 4))) from by simp (disch := decide), Int.tdiv_eq_ediv_of_nonneg f0]
            congr 2
            exact wrap_u64 (by omega) (by omega)
          have ow := fun q => op_rem2 q (b.p.fl / 4) (by have := hp.f0; omega) (by have := hp.f1; omega)
          have fw : fragB (b.p.fl / 4) = wholeB b.p.fl := rfl
          rw [fw] at ow
          cases c5 : wholeB b.p.fl with
          | true =>
            have e : splitR b s = ([], 6) := by unfold splitR; rw [if_neg (by simp [c1]), if_neg c2, if_neg c4, if_pos c5]
            have ow := fun q => (ow q).trans (by rw [c5])
            simp only [if_true] at ow
            simp (disch := omega) [c2, c3', c4, oq, ow, e, bbs, awake12_p, r0]
          | false =>
            have ow := fun q => (ow q).trans (by rw [c5])
            simp only [Bool.false_eq_true, if_false] at ow
            have rest : ∀ c6 : ¬ (fragB b.p.fl = true ∧ b.p.tot - b.p.off < b.pay.s.length), ∀ z, Xc T tlS [] ((1, .int .i64 s) :: (2, .ptr 0 0) :: (5, .ps 25 (bbs (splitR b s).1)) :: (6, .int .i64 (splitR b s).2) :: (9, .int .i64 (FgI b.pay.s.length s)) :: z) [some b.cells] (RetE [RV.t 4] [] (.bool true)) := by
              intro c6 z
              have e : splitR b s = (pcs b s (FgN b.pay.s.length s), 0) := by
                unfold splitR
                rw [if_neg (by simp [c1]), if_neg c2, if_neg c4, if_neg (by simp [c5]), if_neg c6]; rfl
              have C : Cut b s (FgN b.pay.s.length s) := ⟨hb.p, c1, n0, by omega, s0, rfl, m1, c5, fun cf => by
                have : ¬ b.p.tot - b.p.off < b.pay.s.length := fun q => c6 ⟨cf, q⟩
                omega⟩
              rw [e, em]
              exact FgSp_rest C (fun y hy => (hb.bl y hy).nu.1) z _ rfl
            cases cf : fragB b.p.fl with
            | true =>
              have om := fun q => (om q).trans (by rw [cf])
              simp only [if_true] at om
              have hfr := chkB_fr c1 cf
              have su := sub_u b.p.tot b.p.off hp.o0 hfr hb.p.tot.2
              have w3 : IntKind.u64.wrap (b.pay.s.length : Int) = b.pay.s.length := wrap_u64 (by omega) (by omega)
              by_cases c6 : b.p.tot - b.p.off < b.pay.s.length
              · have e : splitR b s = ([], 2) := by
                  unfold splitR
                  rw [if_neg (by simp [c1]), if_neg c2, if_neg c4, if_neg (by simp [c5]), if_pos ⟨cf, c6⟩]
                simp (disch := omega) [c2, c3', c4, oq, ow, om, su, w3, c6, e, bbs, awake12_p, r0]
              · simp (disch := omega) [c2, c3', c4, oq, ow, om, su, w3, c6, r0]
                exact rest (fun q => c6 q.2) _
            | false =>
              have om := fun q => (om q).trans (by rw [cf])
              simp only [Bool.false_eq_true, if_false] at om
              simp (disch := omega) [c2, c3', c4, oq, ow, om, r0]
              exact rest (by simp [cf]) _
    · have e : splitR b size = ([], chkB b) := by unfold splitR; rw [if_pos c1]
      simp (disch := omega) [c1, bbs, e, awake12_p]
theorem law_FragSplits (x y : V) (hx : ∃ vs, x = .agg vs ∧ Row sh25 vs) (hy : Ty (.i .i64) y) : ∃ h', Run T f_law12_FragSplits [x, y] [] (.bool true) h' := by
  obtain ⟨vs, rfl, hr⟩ := hx
  obtain ⟨b, e, hb⟩ := readBB vs hr
  obtain ⟨n, rfl, _⟩ := hy.int
  rw [e]
  exact FgSp_run b hb n
end Ev
