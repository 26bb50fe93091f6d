/- Fragments: which places are in none, to the end. Fragments put together: checks, the first one, a whole bundle's first block. Fragments put together. Fragments put together, as the document says. The law FragJoins. The law FragJoins: fragments read out of what is handed over. Each theorem states its own conditions. -/
import Derived.Test.YtienkohkbihdoaaJCode
import Derived.Test.YtienkohkbihdoaaJFg8
set_option linter.all false
namespace Ev
open Go
set_option maxRecDepth 10000
attribute [-simp] getElem?_pos getElem?_neg List.drop_one
attribute [local simp] BB.tk BB.len BB.one BB.sp BB.c0 BB.c17 BB.c18 BB.c19 BB.c24 PP.len PP.tk PP.one PP.sp BB.vc PP.vc PP.cv BB.tP
theorem hvs_app (a b : List Pr) : hvs (a ++ b) = hvs a ++ hvs b := by simp [hvs]
theorem hol_loop1 (L : List Pr) (o : Nat) (hL : L.length ≤ 2000) : ∀ (m i : Nat) (H : List Pr) (a : Int) (g : Heap), i + m = L.length → H.length ≤ i → g.row o = some (prs L) → ∀ ks Q,
    (∀ z g', Xk T ks (.x 2) ((6, .ps 2 (hvs (H ++ holesF a (L.drop i)))) :: z) g' Q) →
    Xc T l_frag_Holes_1 ks [(6, .ps 2 (hvs H)), (10, .int .u64 a), (39, .hs 2 o 0 L.length), (40, .int .i64 L.length), (41, .int .i64 i)] g Q := by
  intro m
  induction m with
  | zero =>
    intro i H a g hi hH ho ks Q hx
    have e : L.drop i = [] := List.drop_eq_nil_of_le (by omega)
    rw [e, holesF, List.append_nil] at hx
    have c1 : ¬ (i : Int) < L.length := by omega
    rw [L_frag_Holes_1]; unfold bl_frag_Holes_1
    simp (disch := omega) [c1]
    exact hx _ _
  | succ m ih =>
    intro i H a g hi hH ho ks Q hx
    have hil : i < L.length := by omega
    have c1 : (i : Int) < L.length := by omega
    have e := List.drop_eq_getElem_cons hil
    have g1 := prs_part L i hil
    have pl := prs_len L
    rw [e, holesF] at hx
    have ih := fun H a g => ih (i + 1) H a g (by omega)
    rw [show ((i + 1 : Nat) : Int) = (i : Int) + 1 from rfl] at ih
    obtain ⟨s, hs⟩ : ∃ s, s = L[i] := ⟨_, rfl⟩
    rw [← hs] at g1 hx
    have scs : s.cs = [.int .u64 s.lo, .int .u64 s.hi] := rfl
    rw [scs] at g1
    have ol := rlt ho
    have oA : ∀ w, Heap.row (g ++ w) o = some (prs L) := fun w => by rw [row_app ol]; exact ho
    have rA : ∀ x w, Heap.row (g ++ x :: w) g.length = x := fun x w => rowA
    have spl : spliceL [V.int .u64 0, V.int .u64 0] 0 [V.int .u64 s.lo, V.int .u64 s.hi] = [V.int .u64 s.lo, V.int .u64 s.hi] := rfl
    have c2 : i * 2 + 2 ≤ (prs L).length := by omega
    rw [L_frag_Holes_1]; unfold bl_frag_Holes_1
    by_cases c3 : a < s.lo
    · rw [if_pos c3] at hx
      have := ih (H ++ [⟨a, s.lo⟩]) (max a s.hi) (g ++ [some [V.int .u64 s.lo, V.int .u64 s.hi]]) (by simp; omega) (oA _) ks Q (fun z g' => by rw [List.append_assoc]; exact hx z g')
      rw [hvs_app] at this
      have hvl : (hvs H).length = H.length := by simp [hvs]
      have hv1 : ((hvs H).length + 1) * 16 ≤ 140737488355328 := by omega
      simp (disch := omega) [c1, hv1, ho, g1, c2, oA, rA, spl, c3]
      exact this
    · rw [if_neg c3] at hx
      have := ih H (max a s.hi) (g ++ [some [V.int .u64 s.lo, V.int .u64 s.hi]]) (by omega) (oA _) ks Q (fun z g' => hx z g')
      simp (disch := omega) [c1, ho, g1, c2, oA, rA, spl, c3]
      exact this
/-- The spans can be sorted. -/
def CanSort (S : List Pr) : Prop := ∀ (g : Heap) (o : Nat), g.row o = some (prs S) → ∃ g' S', g'.row o = some (prs S') ∧ S'.Perm S ∧ S'.Pairwise (fun a b => a.lo ≤ b.lo) ∧ Run T f_slices_SortFunc_2_uint64_2_uint64 [.hs 2 o 0 S.length, .fn f_frag_Holes_1 []] g (.tup []) g'
theorem FgSet_row {h : Heap} {b : Nat} {cs : List V} (hr : h.row b = some cs) : h.set b (some cs) = h := by
  have hb := rlt hr
  refine List.ext_getElem (by simp) fun i h1 h2 => ?_
  rw [List.getElem_set]
  split
  · rename_i e
    subst e
    unfold Heap.row at hr
    rw [List.getElem?_eq_getElem hb] at hr
    simpa using hr.symm
  · rfl
theorem canSort (S : List Pr) (hS : S.length < 50) : CanSort S := by
  intro g o ho
  have ol := rlt ho
  have hc : Cmp g o f_frag_Holes_1 [] cmpP := ⟨rfl, ol, fun g _ x y => Holes1_run x y g⟩
  obtain ⟨g2, d', ag, hp, hs, rs⟩ := sortf_run (tv := []) hc swoP (Agree.refl) S.toArray (by simpa using hS)
  have sd : SD [] g o S.toArray = g := by
    unfold SD prt
    rw [show S.toArray.toList = S from rfl, List.append_nil]
    exact FgSet_row ho
  have fsz : S.toArray.size = S.length := by simp
  rw [sd, fsz] at rs
  have dsz : d'.size = S.length := by rw [hp.1, fsz]
  have perm : d'.toList.Perm S := by
    have := hp.2.2
    simp at this
    rwa [List.take_of_length_le (by simp [dsz])] at this
  have srt : d'.toList.Pairwise (fun a b => a.lo ≤ b.lo) := by
    rw [List.pairwise_iff_getElem]
    intro i j hi hj hij
    simp at hi hj
    have := hs i j (Nat.zero_le _) hij (by rw [fsz, ← dsz]; exact hj)
    simp only [ltC_p, decide_eq_false_iff_not] at this
    simp only [getElem!_pos d' i hi, getElem!_pos d' j hj] at this
    simp
    omega
  have b2 : o < g2.length := Nat.lt_of_lt_of_le ol ag.1
  have rw2 : Heap.row (SD [] g2 o d') o = some (prs d'.toList ++ []) := SD_row b2 d'
  rw [List.append_nil] at rw2
  exact ⟨_, _, rw2, perm, srt, rs⟩
theorem Holes_run (l : List BB) (N : Nat) (hN : N ≤ 1000000) (hl : l.length ≤ 1000) (hf : ∀ b ∈ l, FOk N b) (hS : spansB l ≠ [] → CanSort (spansB l)) :
    ∃ H h', Run T f_frag_Holes [.int .u64 N, .ps 25 (bbs l)] [] (.ps 2 (hvs H)) h' ∧ (H = [] ↔ ∀ p, p < N → ∃ b ∈ l, (val b p).isSome = true) := by
  have bl := bbs_len l
  have lp := hol_loop0 l N hN hl hf l.length 0 (.hn 2) [] (by omega) (.inl ⟨rfl, rfl⟩)
  have fin : ∀ S' : List Pr, S'.Perm (spansB l) → S'.Pairwise (fun a b => a.lo ≤ b.lo) → (holesF 0 (S' ++ [⟨N, N⟩]) = [] ↔ ∀ p, p < N → ∃ b ∈ l, (val b p).isSome = true) := by
    intro S' hp hs
    have mem : ∀ s, s ∈ S' ↔ ∃ b ∈ l, 0 < b.pay.s.length ∧ spanB b = s := fun s => by
      rw [hp.mem_iff]
      simp only [spansB, List.mem_map, List.mem_filter, posB, decide_eq_true_eq, and_assoc]
    have h1 := holesF_nil N S' 0 hs (fun s h => by
      obtain ⟨b, hb, h0, rfl⟩ := (mem s).1 h
      have k0 := (hf b hb).o0
      have k1 := (hf b hb).o
      show b.p.off < b.p.off + b.pay.s.length ∧ b.p.off + b.pay.s.length ≤ N
      omega)
    rw [h1]
    have cov : ∀ (b : BB), FOk N b → ∀ p : Nat, ((val b p).isSome = true ↔ b.p.off ≤ p ∧ (p : Int) < b.p.off + b.pay.s.length) := fun b hb p => by
      have k0 := hb.o0
      unfold val
      by_cases c : b.p.off ≤ p
      · rw [if_pos c]
        by_cases d : (p : Int) < b.p.off + b.pay.s.length
        · rw [List.getElem?_eq_getElem (by omega)]; simp [c, d]
        · rw [List.getElem?_eq_none (by omega)]; simp [d]
      · rw [if_neg c]; simp [c]
    constructor
    · intro h p hp
      obtain ⟨s, hs, h2, h3⟩ := h p (by omega) (by omega)
      obtain ⟨b, hb, h0, rfl⟩ := (mem s).1 hs
      exact ⟨b, hb, (cov b (hf b hb) p).2 ⟨h2, h3⟩⟩
    · intro h p h0 hp
      obtain ⟨q, rfl⟩ := Int.eq_ofNat_of_zero_le h0
      obtain ⟨b, hb, hv⟩ := h q (by omega)
      obtain ⟨h2, h3⟩ := (cov b (hf b hb) q).1 hv
      exact ⟨spanB b, (mem _).2 ⟨b, hb, by omega, rfl⟩, h2, h3⟩
  have sl : (spansB l).length ≤ 1000 := by
    unfold spansB
    rw [List.length_map]
    exact Nat.le_trans (List.length_filter_le _ _) hl
  obtain ⟨v, h', ⟨H, ev, hH⟩, rr⟩ := Run.startP (P := fun v _ => ∃ H, v = .ps 2 (hvs H) ∧ (H = [] ↔ ∀ p, p < N → ∃ b ∈ l, (val b p).isSome = true)) (vs := [.int .u64 N, .ps 25 (bbs l)]) (h := []) t_frag_Holes (by
    unfold k_frag_Holes
    simp (disch := omega) [bl]
    refine lp _ _ fun z v g hv => ?_
    simp (disch := omega)
    rcases hv with ⟨e, rfl⟩ | ⟨hne, o, rfl, ho⟩
    · rw [Xf_run (FgSort_nil _ (.inl rfl) _)]
      have f := fin [] (by rw [e]) .nil
      have l1 := hol_loop1 [⟨N, N⟩] (g.length) (by simp) 1 0 [] 0 (g ++ [some (prs [⟨N, N⟩])]) (by simp) (by simp) rowA
      simp (disch := omega)
      refine l1 _ _ fun z g' => ?_
      simp (disch := omega)
      exact ⟨_, rfl, f⟩
    · obtain ⟨g', S', r1, r2, r3, r4⟩ := hS hne g o ho
      rw [Xf_run r4]
      have f := fin S' r2 r3
      have pl := prs_len S'
      have sl2 := r2.length_eq
      simp (disch := omega) [r1, pl]
      have l1 := hol_loop1 (S' ++ [⟨N, N⟩]) g'.length (by simp; omega) (S'.length + 1) 0 [] 0 (g'.set o none ++ [some (prs (S' ++ [⟨N, N⟩]))]) (by simp) (by simp) (by rw [show g'.length = (g'.set o none).length by simp]; exact rowA)
      have el : (S' ++ [(⟨N, N⟩ : Pr)]).length = (spansB l).length + 1 := by simp [sl2]
      rw [el, prs_app] at l1
      refine l1 _ _ fun z g' => ?_
      simp (disch := omega)
      exact ⟨_, rfl, f⟩)
  subst ev
  exact ⟨H, h', rr, hH⟩
attribute [local simp] BB.tk BB.len BB.one BB.sp BB.c0 BB.c17 BB.c18 BB.c19 BB.c24 PP.len PP.tk PP.one PP.sp BB.vc PP.vc PP.cv BB.tP
/-- The first check that fails. -/
def fstC : List BB → Int
  | [] => 0
  | b :: r => if chkB b ≠ 0 then chkB b else fstC r
theorem join0_loop (l : List BB) (hl : l.length ≤ 1000000) (hp : ∀ b ∈ l, PPok b.p) (hb : ∀ b ∈ l, b.bl.length ≤ 1000000) : ∀ (m i : Nat) (g : Heap), i + m = l.length → g.row 0 = some zB.cells → ∀ ks Q,
    (fstC (l.drop i) = 0 → ∀ z g', g'.row 0 = some zB.cells → Xk T ks (.x 0) ((0, .ps 25 (bbs l)) :: (2, .ptr 0 0) :: z) g' Q) →
    (fstC (l.drop i) ≠ 0 → ∀ g', g'.row 0 = some zB.cells → Xk T ks .r [(2, .ptr 0 0), (3, .int .i64 (fstC (l.drop i)))] g' Q) →
    Xc T l_frag_Join_0 ks [(0, .ps 25 (bbs l)), (2, .ptr 0 0), (18, .ps 25 (bbs l)), (19, .int .i64 l.length), (20, .int .i64 i)] g Q := by
  intro m
  induction m with
  | zero =>
    intro i g hi h0 ks Q h1 h2
    have e : l.drop i = [] := List.drop_eq_nil_of_le (by omega)
    rw [e] at h1
    have c1 : ¬ (i : Int) < l.length := by omega
    rw [L_frag_Join_0]; unfold bl_frag_Join_0
    simp (disch := omega) [c1]
    exact h1 rfl _ g h0
  | succ m ih =>
    intro i g hi h0 ks Q h1 h2
    have hil : i < l.length := by omega
    have e := List.drop_eq_getElem_cons hil
    rw [e] at h1 h2
    have c1 : (i : Int) < l.length := by omega
    have g1 := bbs_get l i hil
    have pk := hp l[i] (List.getElem_mem _)
    have bk := hb l[i] (List.getElem_mem _)
    obtain ⟨b, hb'⟩ : ∃ b, b = l[i] := ⟨_, rfl⟩
    rw [← hb'] at g1 pk bk h1 h2
    have z0 := rlt h0
    have ih := ih (i + 1) (g ++ [some b.cells]) (by omega) (by rw [row_app z0]; exact h0) ks Q
    rw [show ((i + 1 : Nat) : Int) = (i : Int) + 1 from rfl] at ih
    obtain ⟨_, rb⟩ := BCheck_run b pk bk
    have rA : ∀ x w, Heap.row (g ++ x :: w) g.length = x := fun x w => rowA
    have oA : ∀ w, Heap.row (g ++ w) 0 = some zB.cells := fun w => by rw [row_app z0]; exact h0
    have bv : V.agg b.cells = b.v := rfl
    rw [L_frag_Join_0]; unfold bl_frag_Join_0
    rw [zB_cells]
    simp (disch := omega) [c1, hil, g1, rA, bv]
    rw [Xp_run rb (by simp [BB.hf]) (by simp) (by simp [scalar])]
    simp only [fstC] at h1 h2
    by_cases c2 : chkB b = 0
    · rw [if_neg (by simp [c2])] at h1 h2
      simp (disch := omega) [c2]
      exact ih h1 h2
    · rw [if_pos c2] at h2
      have s0 : ∀ w, Heap.row (g.set 0 (some zB.cells) ++ w) 0 = some zB.cells := fun w => by rw [row_app (by simpa using z0)]; exact row_set z0
      simp (disch := omega) [c2, oA]
      refine h2 c2 _ ?_
      exact s0 _
theorem Join1_run (b : BB) (h : Heap) : Run T f_frag_Join_1 [b.v] h (.bool (decide (b.p.off = 0))) h := by
  refine Run.start t_frag_Join_1 ?_
  unfold k_frag_Join_1 BB.v
  have rA : ∀ x w, Heap.row (h ++ x :: w) h.length = x := fun x w => rowA
  simp (disch := omega) [rA]
theorem FgIdx_loop (l : List BB) (hl : l.length ≤ 1000000) : ∀ (m i : Nat) (g : Heap), i + m = l.length → (∃ b ∈ l.drop i, b.p.off = 0) → ∀ ks Q,
    (∀ k, (∃ h : k < l.length, l[k].p.off = 0) → Xk T ks .r [(4, .int .i64 (k : Nat))] g Q) →
    Xc T l_slices_IndexFunc_api_Bundle_api_Bundle_0 ks [(0, .ps 25 (bbs l)), (1, .fn f_frag_Join_1 []), (7, .int .i64 l.length), (8, .int .i64 i)] g Q := by
  intro m
  induction m with
  | zero =>
    intro i g hi ⟨b, hb, _⟩
    rw [List.drop_eq_nil_of_le (by omega)] at hb
    simp at hb
  | succ m ih =>
    intro i g hi hex ks Q hx
    have hil : i < l.length := by omega
    have c1 : (i : Int) < l.length := by omega
    have e := List.drop_eq_getElem_cons hil
    have g1 := bbs_get l i hil
    have hx0 := hx i
    rw [e] at hex
    obtain ⟨b, hb'⟩ : ∃ b, b = l[i] := ⟨_, rfl⟩
    rw [← hb'] at g1 hex
    have ih := ih (i + 1) g (by omega)
    rw [show ((i + 1 : Nat) : Int) = (i : Int) + 1 from rfl] at ih
    have rj := Join1_run b g
    have hfree : T.free f_frag_Join_1 = true := rfl
    have bv : V.agg b.cells = b.v := rfl
    rw [L_slices_IndexFunc_api_Bundle_api_Bundle_0]; unfold bl_slices_IndexFunc_api_Bundle_api_Bundle_0
    by_cases c2 : b.p.off = 0
    · rw [decide_eq_true c2] at rj
      simp (disch := omega) [c1, hil, g1, hfree, bv]
      rw [Xf_run rj]
      simp (disch := omega)
      exact hx0 ⟨hil, by rw [← hb']; exact c2⟩
    · rw [decide_eq_false c2] at rj
      simp (disch := omega) [c1, hil, g1, hfree, bv]
      rw [Xf_run rj]
      simp (disch := omega)
      obtain ⟨d, hd, hd0⟩ := hex
      rcases List.mem_cons.1 hd with rfl | hd
      · exact absurd hd0 c2
      · exact ih ⟨d, hd, hd0⟩ ks Q hx
theorem FgClr (x : BitVec 64) : x &&& ~~~1#64 = (x >>> 1) <<< 1 := by
  apply BitVec.eq_of_getLsbD_eq
  intro i hi
  have h1 : (1#64).getLsbD i = decide (i = 0) := by simp
  simp only [BitVec.getLsbD_and, BitVec.getLsbD_not, BitVec.getLsbD_shiftLeft, BitVec.getLsbD_ushiftRight, h1, hi, decide_true, Bool.true_and]
  cases i with
  | zero => simp
  | succ i =>
    simp
    congr 1; omega
def wholeP (p : PP) : PP := { p with fl := p.fl - p.fl % 2, off := 0, tot := 0 }
theorem op_clr1 (q : EqK) (fl : Int) (h0 : 0 ≤ fl) (h1 : fl ≤ 18446744073709551615) : binV .andNot q (.int .u64 fl) (.int .u64 1) = some (.int .u64 (fl - fl % 2)) := by
  obtain ⟨n, rfl⟩ := Int.eq_ofNat_of_zero_le h0
  have e1 : (BitVec.ofInt 64 (n : Int) &&& ~~~ BitVec.ofInt 64 1).toNat = n - n % 2 := by
    rw [show BitVec.ofInt 64 1 = 1#64 from rfl, FgClr]
    simp
    omega
  rw [bin_andNot]
  show some (V.int .u64 (IntKind.u64.wrap ((BitVec.ofInt 64 (n : Int) &&& ~~~ BitVec.ofInt 64 1).toNat : Int))) = _
  rw [e1]
  rw [wrap_nat (n - n % 2) (by omega)]
  congr 2
  omega
theorem FgWhole_run (p : PP) (ok : PPok p) (h : Heap) : ∃ h', Run T f_primary_Whole [p.v] h (wholeP p).v h' := by
  have o1 := fun q => op_clr1 q p.fl ok.f0 ok.f1
  refine Run.startE t_primary_Whole ?_
  unfold k_primary_Whole PP.v wholeP
  have rA : ∀ x w, Heap.row (h ++ x :: w) h.length = x := fun x w => rowA
  simp (disch := omega) [o1, rA]
attribute [local simp] BB.tk BB.len BB.one BB.sp BB.c0 BB.c17 BB.c18 BB.c19 BB.c24 PP.len PP.tk PP.one PP.sp BB.vc PP.vc PP.cv BB.tP
theorem FgIdx_run (l : List BB) (hl : l.length ≤ 1000000) (hex : ∃ b ∈ l, b.p.off = 0) (g : Heap) : ∃ k : Nat, (∃ h : k < l.length, l[k].p.off = 0) ∧ Run T f_slices_IndexFunc_api_Bundle_api_Bundle [.ps 25 (bbs l), .fn f_frag_Join_1 []] g (.int .i64 k) g := by
  have bl := bbs_len l
  have lp := FgIdx_loop l hl l.length 0 g (by omega) hex
  obtain ⟨v, h', ⟨k, hk, rfl, rfl⟩, rr⟩ := Run.startP (P := fun v h' => ∃ k : Nat, (∃ h : k < l.length, l[k].p.off = 0) ∧ v = .int .i64 k ∧ h' = g) (vs := [.ps 25 (bbs l), .fn f_frag_Join_1 []]) (h := g) t_slices_IndexFunc_api_Bundle_api_Bundle (by
    unfold k_slices_IndexFunc_api_Bundle_api_Bundle
    simp (disch := omega) [bl]
    refine lp _ _ fun k hk => ?_
    simp (disch := omega)
    exact ⟨k, hk, rfl⟩)
  exact ⟨k, hk, rr⟩
def joinB (b : BB) (d : List UInt8) : BB := ⟨wholeP b.p, b.bl, { b.pay with s := d }⟩
/-- What comes of fragments, where there is one. -/
def JoinC (x : BB) (l : List BB) (r : BB) (e : Int) : Prop :=
    if fstC (x :: l) ≠ 0 then r = zB ∧ e = fstC (x :: l)
    else if l = [] ∧ fragB x.p.fl = false then r = x ∧ e = 0
    else if (x :: l).all (fitB x.p) = false then r = zB ∧ e = 6
    else (Cfl (x :: l) ∧ r = zB ∧ e = 6) ∨ ∃ d t, Inv (x :: l) d t x.p.tot.toNat ∧ ((r = zB ∧ e = 8 ∧ ∃ p, p < x.p.tot.toNat ∧ ∀ b ∈ x :: l, val b p = none) ∨ (e = 0 ∧ (∀ p, p < x.p.tot.toNat → ∃ b ∈ x :: l, (val b p).isSome = true) ∧ ∃ b ∈ x :: l, b.p.off = 0 ∧ r = joinB b d))
def JoinR (l : List BB) (r : BB) (e : Int) : Prop := match l with
  | [] => r = zB ∧ e = 8
  | x :: l => JoinC x l r e
theorem J_c {x : BB} {l : List BB} (h : fstC (x :: l) ≠ 0) : JoinR (x :: l) zB (fstC (x :: l)) := by show JoinC _ _ _ _; unfold JoinC; rw [if_pos h]; exact ⟨rfl, rfl⟩
theorem J_1 {x : BB} (h : fstC [x] = 0) (hf : fragB x.p.fl = false) : JoinR [x] x 0 := by show JoinC _ _ _ _; unfold JoinC; rw [if_neg (by simp [h]), if_pos ⟨rfl, hf⟩]; exact ⟨rfl, rfl⟩
theorem J_f {x : BB} {l : List BB} (h : fstC (x :: l) = 0) (h1 : ¬ (l = [] ∧ fragB x.p.fl = false)) (h2 : (x :: l).all (fitB x.p) = false) : JoinR (x :: l) zB 6 := by show JoinC _ _ _ _; unfold JoinC; rw [if_neg (by simp [h]), if_neg h1, if_pos h2]; exact ⟨rfl, rfl⟩
theorem J_x {x : BB} {l : List BB} (h : fstC (x :: l) = 0) (h1 : ¬ (l = [] ∧ fragB x.p.fl = false)) (h2 : (x :: l).all (fitB x.p) = true) (h3 : Cfl (x :: l)) : JoinR (x :: l) zB 6 := by show JoinC _ _ _ _; unfold JoinC; rw [if_neg (by simp [h]), if_neg h1, if_neg (by rw [h2]; simp)]; exact .inl ⟨h3, rfl, rfl⟩
theorem J_h {x : BB} {l : List BB} {d : List UInt8} {t : List Bool} (h : fstC (x :: l) = 0) (h1 : ¬ (l = [] ∧ fragB x.p.fl = false)) (h2 : (x :: l).all (fitB x.p) = true) (h3 : Inv (x :: l) d t x.p.tot.toNat) (h4 : ¬ ∀ p, p < x.p.tot.toNat → ∃ b ∈ x :: l, (val b p).isSome = true) : JoinR (x :: l) zB 8 := by
  show JoinC _ _ _ _; unfold JoinC; rw [if_neg (by simp [h]), if_neg h1, if_neg (by rw [h2]; simp)]
  refine .inr ⟨d, t, h3, .inl ⟨rfl, rfl, Decidable.byContradiction fun q => h4 fun p hp => Decidable.byContradiction fun w => q ⟨p, hp, fun b hb => ?_⟩⟩⟩
  cases e : val b p with
  | none => rfl
  | some z => exact absurd ⟨b, hb, by rw [e]; rfl⟩ w
theorem J_o {x : BB} {l : List BB} {d : List UInt8} {t : List Bool} (h : fstC (x :: l) = 0) (h1 : ¬ (l = [] ∧ fragB x.p.fl = false)) (h2 : (x :: l).all (fitB x.p) = true) (h3 : Inv (x :: l) d t x.p.tot.toNat) (h4 : ∀ p, p < x.p.tot.toNat → ∃ b ∈ x :: l, (val b p).isSome = true) {b : BB} (hb : b ∈ x :: l) (h5 : b.p.off = 0) : JoinR (x :: l) (joinB b d) 0 := by
  show JoinC _ _ _ _; unfold JoinC; rw [if_neg (by simp [h]), if_neg h1, if_neg (by rw [h2]; simp)]
  exact .inr ⟨d, t, h3, .inr ⟨rfl, h4, b, hb, h5, rfl⟩⟩
def tlJ1 : ACode := match k_frag_Join with
  | .seq _ (.seq _ (.seq _ t)) => t
  | _ => .skip
def tlJ2 : ACode := match k_frag_Join with
  | .seq _ (.seq _ (.seq _ (.seq _ t))) => t
  | _ => .skip
def tlJ3 : ACode := match k_frag_Join with
  | .seq _ (.seq _ (.seq _ (.seq _ (.seq _ (.seq _ t))))) => t
  | _ => .skip
def tlJ4 : ACode := match k_frag_Join with
  | .seq _ (.seq _ (.seq _ (.seq _ (.seq _ (.seq _ (.seq _ (.seq _ (.seq _ t)))))))) => t
  | _ => .skip
theorem fit_all {x : BB} {l : List BB} (hok : ∀ b ∈ x :: l, BOk b) (h : (x :: l).all (fitB x.p) = true) : 1 ≤ x.p.tot ∧ x.p.tot ≤ 65536 ∧ ∀ b ∈ x :: l, FOk x.p.tot.toNat b := by
  rw [List.all_eq_true] at h
  have h1 : ∀ b ∈ x :: l, fragB b.p.fl = true ∧ b.p.tot = x.p.tot ∧ (b.pay.s.length : Int) ≤ b.p.tot - b.p.off ∧ b.p.tot ≤ 65536 := fun b hb => by
    have := h b hb
    simp only [fitB, sameP, Bool.and_eq_true, decide_eq_true_eq] at this
    exact ⟨this.1.1.1, this.1.1.2.2, this.1.2, this.2⟩
  have hx := h1 x (by simp)
  have k := (hok x (by simp)).fr hx.1
  have k0 := (hok x (by simp)).p.o0
  refine ⟨by omega, hx.2.2.2, fun b hb => ?_⟩
  have hb1 := h1 b hb
  have kb := (hok b hb).p.o0
  exact ⟨kb, by omega⟩
theorem hvs_hf (l : List Pr) : V.hfs (hvs l) = true := by
  induction l with
  | nil => rfl
  | cons x l ih => show (x.v.hf && V.hfs (hvs l)) = true; rw [ih]; simp [Pr.v, Pr.cs]
theorem Fgjoin_rest (x : BB) (r : List BB) (hl : (x :: r).length ≤ 1000) (hc : fstC (x :: r) = 0) (hok : ∀ b ∈ x :: r, BOk b) (hb : ∀ b ∈ x :: r, b.bl.length ≤ 1000000) (hS : spansB (x :: r) ≠ [] → CanSort (spansB (x :: r))) (h1 : ¬ (r = [] ∧ fragB x.p.fl = false)) (z : List (Nat × V)) (g : Heap) (h0 : g.row 0 = some zB.cells) :
    Xc T tlJ2 [] ((0, .ps 25 (bbs (x :: r))) :: (2, .ptr 0 0) :: z) g (RetP [RV.c 2 25, RV.t 3] [] fun v _ => ∃ r_1 e, v = V.tup [BB.v r_1, V.int IntKind.i64 e] ∧ JoinR (x :: r) r_1 e) := by
  have bl := bbs_len (x :: r)
  have bv : ∀ b : BB, V.agg b.cells = b.v := fun _ => rfl
  obtain ⟨_, rt⟩ := FgFits_run x r (by omega) hok
  have z0 := rlt h0
  have g0 : (bbs (x :: r))[0]? = some x.v := rfl
  have s0 : ∀ w, Heap.row (g.set 0 (some zB.cells) ++ w) 0 = some zB.cells := fun w => by rw [row_app (by simpa using z0)]; exact row_set z0
  have s1 : Heap.row (g.set 0 (some zB.cells)) 0 = some zB.cells := row_set z0
  have ci : ((x :: r).length : Int) = (r.length : Int) + 1 := rfl
  show Xc T (.seq _ (.seq _ tlJ3)) _ _ _ _
  rw [zB_cells]
  simp (disch := omega)
  rw [Xp_run rt (by simp [bbs_hf]) (by simp) (by simp [scalar])]
  cases h2 : (x :: r).all (fitB x.p) with
  | false =>
    simp (disch := omega) [h0, bv, s1]
    exact ⟨zB, _, ⟨rfl, rfl⟩, J_f hc h1 h2⟩
  | true =>
    obtain ⟨n1, n2, hf⟩ := fit_all hok h2
    obtain ⟨N, hN⟩ := Int.eq_ofNat_of_zero_le (show 0 ≤ x.p.tot by omega)
    rw [hN] at hf n1 n2
    have eN : ((N : Int)).toNat = N := rfl
    rw [eN] at hf
    simp (disch := omega) [g0, hN]
    show Xc T (.seq _ (.seq _ (.seq (.seq _ _) tlJ4))) _ _ _ _
    simp (disch := omega) [ci, bl]
    have I0 : Inv ((x :: r).take 0) (List.replicate N 0) (List.replicate N false) N := ⟨by simp, by simp, fun p hp => by simp [List.getElem?_replicate, hp], fun b hb => by simp at hb⟩
    have bz : bys (List.replicate N 0) = List.replicate N (.int .u8 0) := by simp [bys, byteV]
    have tz : blsF (List.replicate N false) = List.replicate N (.bool false) := by simp [blsF]
    have lp := join1_loop (x :: r) N g.length (g.length + 1) (by omega) (by omega) (by omega) (by omega) (by omega) hf (x :: r).length 0 _ _ (g ++ [some (List.replicate N (V.int IntKind.u8 0)), some (List.replicate N (V.bool false))]) (by omega) I0 (by rw [row_app z0]; exact h0) (by rw [bz]; exact rowA) (by
      rw [tz, show g ++ [some (List.replicate N (V.int IntKind.u8 0)), some (List.replicate N (V.bool false))] = (g ++ [some (List.replicate N (V.int IntKind.u8 0))]) ++ [some (List.replicate N (V.bool false))] by simp, show g.length + 1 = (g ++ [some (List.replicate N (V.int IntKind.u8 0))]).length by simp]
      exact rowA)
    rw [ci] at lp
    obtain ⟨D, hD⟩ : ∃ D, D = g.length := ⟨_, rfl⟩
    rw [← hD] at lp ⊢
    refine lp _ _ (fun d t g' hI h0' hDr z' => ?_) (fun hcf g' h0' => ?_)
    · clear lp
      obtain ⟨H, _, rh, hH⟩ := Holes_run (x :: r) N (by omega) (by omega) hf hS
      have z0' := rlt h0'
      have s1' : Heap.row (g'.set 0 (some zB.cells)) 0 = some zB.cells := row_set z0'
      rw [zB_cells]
      simp (disch := omega)
      rw [Xp_run rh (by simp [bbs_hf]) (by simp [hvs_hf]) (by simp [scalar])]
      by_cases cH : H = []
      · subst cH
        have cov := hH.1 rfl
        obtain ⟨b0, hb0, hv0⟩ := cov 0 (by omega)
        have hex : ∃ b ∈ x :: r, b.p.off = 0 := ⟨b0, hb0, by
          have k0 := (hf b0 hb0).o0
          unfold val at hv0
          by_cases q : b0.p.off ≤ ((0 : Nat) : Int)
          · omega
          · rw [if_neg q] at hv0; cases hv0⟩
        obtain ⟨k, ⟨hk, hk0⟩, rk⟩ := FgIdx_run (x :: r) (by omega) hex g'
        have gk := bbs_get (x :: r) k hk
        have mk : (x :: r)[k] ∈ x :: r := List.getElem_mem _
        obtain ⟨b, hbk⟩ : ∃ b, b = (x :: r)[k] := ⟨_, rfl⟩
        rw [← hbk] at gk mk hk0
        obtain ⟨_, rw'⟩ := FgWhole_run b.p (hok b mk).p []
        have c4 : (hvs []).length = 0 := rfl
        have hk' : (k : Int) < r.length + 1 := by omega
        show Xo _ _ _ _ _ _ _
        simp (disch := omega) [c4]
        rw [show tlJ4 = (.seq _ (.seq _ _)) from rfl]
        simp (disch := omega)
        rw [Xf_run rk]
        simp (disch := omega) [gk, hk', bl]
        rw [zB_cells]
        have D0 := rlt hDr
        have rA : ∀ x w, Heap.row (g' ++ x :: w) g'.length = x := fun x w => rowA
        have rDA : ∀ w, Heap.row (g' ++ w) D = some (bys d) := fun w => by rw [row_app D0]; exact hDr
        have r0A : ∀ w, Heap.row (g' ++ w) 0 = some zB.cells := fun w => by rw [row_app z0']; exact h0'
        have t19 : b.cells.take 19 = b.p.cells := rfl
        have t20 : (b.cells.drop 20).take 5 = [.int .u64 b.pay.ty, .int .u64 b.pay.nu, .int .u64 b.pay.fl, .int .i64 b.pay.k, .str b.pay.s] := rfl
        have nh := hb b mk
        have b5 := b5s_len b.bl
        have b5t : (b5s b.bl).take b.bl.length = b5s b.bl := List.take_of_length_le (by omega)
        simp only [BB.sp]
        apply Xc_regf
        simp (disch := omega) [rA, t19]
        rw [Xp_run rw' (by simp [PP.hf]) (by simp [PP.hf]) (by simp [scalar, PP.v])]
        have sl1 : (spliceL zB.cells 0 (wholeP b.p).cells).length = 25 := rfl
        obtain ⟨w, hw⟩ : ∃ w : BB, w = ⟨wholeP b.p, b.bl, b.pay⟩ := ⟨_, rfl⟩
        have sl2 : spliceL ((spliceL zB.cells 0 (wholeP b.p).cells).set 19 (V.ps 5 (b5s b.bl))) 20 [V.int IntKind.u64 b.pay.ty, V.int IntKind.u64 b.pay.nu, V.int IntKind.u64 b.pay.fl, V.int IntKind.i64 b.pay.k, V.str b.pay.s] = w.cells := by rw [hw]; rfl
        have rB : ∀ x y w, Heap.row (g' ++ x :: y :: w) (g'.length + 1) = y := fun x y w => by
          rw [show g' ++ x :: y :: w = (g' ++ [x]) ++ y :: w by simp, show g'.length + 1 = (g' ++ [x]).length by simp]; exact rowA
        simp (disch := omega) [rA, t20, b5, b5t, sl1, sl2]
        simp (disch := omega) [flagsIn, flagP, evOp, rA, rB]
        have hdl := hI.dl
        have cv : convV (g' ++ [some b.cells, some w.cells]) CK.bs (V.hs 1 D 0 N) = some (.str d) := by
          have yl := bys_len d
          have e : hsCells (g' ++ [some b.cells, some w.cells]) 1 D 0 N = some (bys d) := by
            simp only [hsCells, rDA, Option.bind_some, Nat.zero_add, List.drop_zero, Nat.mul_one]
            rw [if_pos (by omega), List.take_of_length_le (by omega)]
          show (hsCells _ 1 D 0 N).bind _ = _
          rw [e, Option.bind_some, bys_back]; rfl
        have wl : w.cells.length = 25 := rfl
        have w24 : w.cells.set 24 (.str d) = (joinB b d).cells := by rw [hw]; rfl
        have rB1 : ∀ x y, Heap.row (g' ++ [x, y]) (g'.length + 1) = y := fun x y => rB x y []
        rw [cv]
        simp (disch := omega) [rA, rB1, r0A, BB.one, w24]
        have rJ : ∀ w, Heap.row (g'.set 0 (some (joinB b d).cells) ++ w) 0 = some (joinB b d).cells := fun w => by rw [row_app (by simpa using z0')]; exact row_set z0'
        simp (disch := omega) [rJ]
        exact ⟨joinB b d, 0, ⟨rfl, rfl⟩, J_o hc h1 h2 (by rw [hN]; exact hI) (by rw [hN]; exact cov) mk hk0⟩
      · have c2 : (0 : Int) < (hvs H).length := by
          have : (hvs H).length = H.length := by simp [hvs]
          have := List.length_pos_iff.2 cH
          omega
        have c3 : 0 < (hvs H).length := by omega
        simp (disch := omega) [c2, c3, h0', s1', bv]
        exact ⟨zB, _, ⟨rfl, rfl⟩, J_h hc h1 h2 (by rw [hN]; exact hI) (by rw [hN]; exact fun q => cH (hH.2 q))⟩
    · simp (disch := omega) [h0', bv]
      exact ⟨zB, _, ⟨rfl, rfl⟩, J_x hc h1 h2 hcf⟩
theorem FgJoin_run (l : List BB) (hl : l.length ≤ 1000) (hp : ∀ b ∈ l, PPok b.p) (hb : ∀ b ∈ l, b.bl.length ≤ 1000000) (hok : fstC l = 0 → ∀ b ∈ l, BOk b) (hS : spansB l ≠ [] → CanSort (spansB l)) :
    ∃ r e h', JoinR l r e ∧ Run T f_frag_Join [.ps 25 (bbs l)] [] (.tup [r.v, .int .i64 e]) h' := by
  have bl := bbs_len l
  have lp := join0_loop l (by omega) hp hb l.length 0 [some zB.cells] (by omega) rfl
  rw [List.drop_zero] at lp
  have bv : ∀ b : BB, V.agg b.cells = b.v := fun _ => rfl
  obtain ⟨v, h', ⟨r, e, ev, hJ⟩, rr⟩ := Run.startP (P := fun v _ => ∃ r e, v = .tup [BB.v r, .int .i64 e] ∧ JoinR l r e) (vs := [.ps 25 (bbs l)]) (h := []) t_frag_Join (by
    show Xc T (.seq _ (.seq _ (.seq _ tlJ1))) _ _ _ _
    rw [zB_cells]
    cases l with
    | nil =>
      simp (disch := omega) [bbs]
      exact ⟨zB, 8, ⟨rfl, rfl⟩, rfl, rfl⟩
    | cons x r =>
      have hx1 : (x :: r).length = r.length + 1 := rfl
      have hx2 : ¬ ((bbs (x :: r)).length : Int) = 0 := by rw [bl]; omega
      have c0 : ¬ ((r.length : Int) + 1 = 0) := by omega
      have ci : ((x :: r).length : Int) = (r.length : Int) + 1 := rfl
      rw [ci] at lp
      simp (disch := omega) [bl, hx2, c0]
      refine lp _ _ (fun hc z g h0 => ?_) (fun hc g h0 => ?_)
      · have hok := hok hc
        clear lp
        have xk := hok x (by simp)
        obtain ⟨_, rf⟩ := Fragment_run x.p xk.p.f0 xk.p.f1 []
        have g0 : (bbs (x :: r))[0]? = some x.v := rfl
        obtain ⟨_, rt⟩ := FgFits_run x r (by omega) hok
        have xf := fun {ks ops K e h Q d lent} => Xp_run (ks := ks) (ops := ops) (K := K) (e := e) (h := h) (Q := Q) (d := d) (b := lent) rf (by simp [PP.hf]) rfl (by simp [scalar])
        have z0 := rlt h0
        show Xc T (.seq _ tlJ2) _ _ _ _
        by_cases cr : r = []
        · subst cr
          cases cf : fragB x.p.fl with
          | false =>
            rw [cf] at xf
            simp (disch := omega) [bl, g0, xf, h0, bv]
            exact ⟨x, _, ⟨rfl, rfl⟩, J_1 hc cf⟩
          | true =>
            rw [cf] at xf
            simp (disch := omega) [bl, g0, xf]
            exact Fgjoin_rest x [] hl hc hok hb hS (by simp [cf]) [(41, .bool false)] g h0
        · have c1 : ¬ ((r.length : Int) + 1 = 1) := fun q => cr (List.eq_nil_of_length_eq_zero (by omega))
          simp (disch := omega) [bl, g0, xf, c1]
          exact Fgjoin_rest x r hl hc hok hb hS (by simp [cr]) [(41, .bool false)] g h0
      · simp (disch := omega) [h0, bv]
        exact ⟨zB, _, ⟨rfl, rfl⟩, J_c hc⟩)
  subst ev
  exact ⟨r, e, h', hJ, rr⟩
attribute [local simp] BB.tk BB.len BB.one BB.sp BB.c0 BB.c17 BB.c18 BB.c19 BB.c24 PP.len PP.tk PP.one PP.sp BB.vc PP.vc PP.cv BB.tP
attribute [local simp] PP.c0 PP.c17 PP.c18 PP.t6 PP.t14
theorem FgJ0_loop (l : List BB) (hl : l.length ≤ 1000000) (hp : ∀ b ∈ l, PPok b.p) (hb : ∀ b ∈ l, b.bl.length ≤ 1000000) (hn : ∀ b ∈ l, ∀ y ∈ b.bl, 0 ≤ y.nu) : ∀ (m i : Nat) (g : Heap), i + m = l.length → ∀ ks Q,
    (fstC (l.drop i) = 0 → ∀ z, Xk T ks (.x 0) ((0, .ps 25 (bbs l)) :: z) g Q) →
    (fstC (l.drop i) ≠ 0 → Xk T ks .r [(2, .str []), (3, .int .i64 (fstC (l.drop i)))] g Q) →
    Xc T l_ref12_Joins_0 ks [(0, .ps 25 (bbs l)), (4, .int .i64 i)] g Q := by
  intro m
  have bl := bbs_len l
  induction m with
  | zero =>
    intro i g hi ks Q h1 h2
    have e : l.drop i = [] := List.drop_eq_nil_of_le (by omega)
    rw [e] at h1
    have c1 : ¬ (i : Int) < l.length := by omega
    rw [L_ref12_Joins_0]; unfold bl_ref12_Joins_0
    simp (disch := omega) [c1, bl]
    exact h1 rfl _
  | succ m ih =>
    intro i g hi ks Q h1 h2
    have hil : i < l.length := by omega
    have e := List.drop_eq_getElem_cons hil
    rw [e] at h1 h2
    have c1 : (i : Int) < l.length := by omega
    have g1 := bbs_get l i hil
    have pk := hp l[i] (List.getElem_mem _)
    have bk := hb l[i] (List.getElem_mem _)
    have nk := hn l[i] (List.getElem_mem _)
    obtain ⟨b, hb'⟩ : ∃ b, b = l[i] := ⟨_, rfl⟩
    rw [← hb'] at g1 pk bk nk h1 h2
    have ih := ih (i + 1) g (by omega) ks Q
    rw [show ((i + 1 : Nat) : Int) = (i : Int) + 1 from rfl] at ih
    obtain ⟨_, rb⟩ := R11Check_run b pk bk nk
    have bv : V.agg b.cells = b.v := rfl
    rw [L_ref12_Joins_0]; unfold bl_ref12_Joins_0
    simp (disch := omega) [c1, hil, g1, bv, bl]
    rw [Xp_run rb (by simp [BB.hf]) (by simp) (by simp [scalar])]
    simp only [fstC] at h1 h2
    by_cases c2 : chkB b = 0
    · rw [if_neg (by simp [c2])] at h1 h2
      simp (disch := omega) [c2]
      exact ih h1 h2
    · rw [if_pos c2] at h2
      simp (disch := omega) [c2]
      exact h2 c2
/-- A place's byte as a number. -/
def cvO : Option UInt8 → Int
  | none => -1
  | some x => x.toNat
theorem FgJ2_loop (l : List BB) (hl : l.length ≤ 1000000) (hok : ∀ b ∈ l, BOk b) (p : Nat) (hp : p < 1000000) (R : Nat) (sv hv : V) : ∀ (m i : Nat) (c : Option UInt8) (g : Heap), i + m = l.length → ∀ ks Q,
    (∀ r, scanP p (l.drop i) c = some r → ∀ z, Xk T ks (.x 6) ((0, .ps 25 (bbs l)) :: (6, .ptr R 0) :: (9, sv) :: (10, hv) :: (11, .int .u64 p) :: (12, .int .i64 (cvO r)) :: z) g Q) →
    (scanP p (l.drop i) c = none → Xk T ks .r [(2, .str []), (3, .int .i64 6)] g Q) →
    Xc T l_ref12_Joins_2 ks [(0, .ps 25 (bbs l)), (6, .ptr R 0), (9, sv), (10, hv), (11, .int .u64 p), (12, .int .i64 (cvO c)), (13, .int .i64 i)] g Q := by
  intro m
  have bl := bbs_len l
  induction m with
  | zero =>
    intro i c g hi ks Q h1 h2
    have e : l.drop i = [] := List.drop_eq_nil_of_le (by omega)
    rw [e] at h1
    have c1 : ¬ (i : Int) < l.length := by omega
    rw [L_ref12_Joins_2]; unfold bl_ref12_Joins_2
    simp (disch := omega) [c1, bl]
    exact h1 c rfl _
  | succ m ih =>
    intro i c g hi ks Q h1 h2
    have hil : i < l.length := by omega
    have e := List.drop_eq_getElem_cons hil
    rw [e] at h1 h2
    have c1 : (i : Int) < l.length := by omega
    have g1 := bbs_get l i hil
    have bk := hok l[i] (List.getElem_mem _)
    obtain ⟨b, hb'⟩ : ∃ b, b = l[i] := ⟨_, rfl⟩
    rw [← hb'] at g1 bk h1 h2
    have ih := fun c => ih (i + 1) c g (by omega) ks Q
    rw [show ((i + 1 : Nat) : Int) = (i : Int) + 1 from rfl] at ih
    obtain ⟨_, ri⟩ := FgIn_run b bk p (by omega) []
    have bv : V.agg b.cells = b.v := rfl
    simp only [scanP] at h1 h2
    rw [L_ref12_Joins_2]; unfold bl_ref12_Joins_2
    cases hv : val b p with
    | none =>
      rw [hv] at ri h1 h2
      simp (disch := omega) [c1, hil, g1, bv, bl]
      rw [Xp_run ri (by simp [BB.hf]) (by simp) (by simp [scalar])]
      simp (disch := omega)
      exact ih c h1 h2
    | some x =>
      rw [hv] at ri h1 h2
      simp only at h1 h2
      have hof : b.p.off ≤ p := by
        unfold val at hv
        by_cases q : b.p.off ≤ (p : Int)
        · exact q
        · rw [if_neg q] at hv; cases hv
      have ho0 := bk.p.o0
      obtain ⟨o, ho⟩ := Int.eq_ofNat_of_zero_le ho0
      have gx : b.pay.s[p - o]? = some x := by
        unfold val at hv
        rw [if_pos hof] at hv
        rw [← hv]; congr 1; omega
      have e6 : IntKind.u64.wrap ((p : Int) - b.p.off) = ((p - o : Nat) : Int) := by
        rw [show (p : Int) - b.p.off = ((p - o : Nat) : Int) by omega]; exact wrap_nat _ (by omega)
      have xw : IntKind.i64.wrap (x.toNat : Int) = x.toNat := wrap_i64 (by omega) (by have := x.toNat_lt; omega)
      have xl := x.toNat_lt
      simp (disch := omega) [c1, hil, g1, bv, bl]
      rw [Xp_run ri (by simp [BB.hf]) (by simp) (by simp [scalar])]
      simp (disch := omega) [hil, g1, bv, bl, e6, gx, xw]
      have ih := ih (some x)
      have cx : cvO (some x) = x.toNat := rfl
      rw [cx] at ih
      cases c with
      | none =>
        have c0 : ¬ (0 : Int) ≤ cvO none := by decide
        rw [if_neg (by simp)] at h1 h2
        simp (disch := omega) [c0]
        exact ih h1 h2
      | some y =>
        have c0 : (0 : Int) ≤ cvO (some y) := by show (0 : Int) ≤ (y.toNat : Int); omega
        have cy : cvO (some y) = y.toNat := rfl
        by_cases cyx : y = x
        · subst cyx
          rw [if_neg (by simp)] at h1 h2
          simp (disch := omega) [c0, cy]
          exact ih h1 h2
        · have c3 : ¬ ((y.toNat : Int) = x.toNat) := fun q => cyx (u8_inj.1 q)
          rw [if_pos (by simp [cyx])] at h2
          rw [cy] at c0
          simp (disch := omega) [c0, cy, c3]
          exact h2 rfl
theorem FgJ3_loop (l : List BB) (hl : l.length ≤ 1000000) (hok : ∀ b ∈ l, BOk b) (a : PP) (N : Nat) (hN : N ≤ 65536) (ha : a.tot = N) (R : Nat) : ∀ (m p : Nat) (s : List UInt8) (hv : Bool) (g : Heap), p + m = N → s.length ≤ p → g.row R = some a.cells → ∀ ks Q,
    (∀ s' hv', refJ l m p s hv = (if hv' = true then ([], 8) else (s', 0)) → ∀ z, Xk T ks (.x 4) ((0, .ps 25 (bbs l)) :: (6, .ptr R 0) :: (9, .str s') :: (10, .bool hv') :: z) g Q) →
    (refJ l m p s hv = ([], 6) → Xk T ks .r [(2, .str []), (3, .int .i64 6)] g Q) →
    Xc T l_ref12_Joins_3 ks [(0, .ps 25 (bbs l)), (6, .ptr R 0), (9, .str s), (10, .bool hv), (11, .int .u64 p)] g Q := by
  intro m
  have bl := bbs_len l
  induction m with
  | zero =>
    intro p s hv g hi hs hR ks Q h1 h2
    have c1 : ¬ (p : Int) < a.tot := by omega
    rw [L_ref12_Joins_3]; unfold bl_ref12_Joins_3
    simp (disch := omega) [c1, hR]
    exact h1 s hv rfl _
  | succ m ih =>
    intro p s hv g hi hs hR ks Q h1 h2
    have c1 : (p : Int) < a.tot := by omega
    have ih := fun s hv => ih (p + 1) s hv g (by omega)
    rw [show ((p + 1 : Nat) : Int) = (p : Int) + 1 from rfl] at ih
    simp only [refJ] at h1 h2
    rw [L_ref12_Joins_3]; unfold bl_ref12_Joins_3
    simp (disch := omega) [c1, hR]
    have l2 := FgJ2_loop l hl hok p (by omega) R (.str s) (.bool hv) l.length 0 none g (by omega)
    rw [List.drop_zero] at l2
    refine l2 _ _ (fun r hr z => ?_) (fun hr => ?_)
    · rw [hr] at h1 h2
      cases r with
      | none =>
        have c0 : ¬ (0 : Int) ≤ cvO none := by decide
        have c0' : cvO none < (0 : Int) := by decide
        cases hv <;> simp (disch := omega) [c0, c0']
        · exact ih s true (by omega) hR ks Q h1 h2
        · exact ih s true (by omega) hR ks Q h1 h2
      | some c =>
        have xl := c.toNat_lt
        have cc : cvO (some c) = c.toNat := rfl
        have c0 : (0 : Int) ≤ (c.toNat : Int) := by omega
        have c0' : ¬ (c.toNat : Int) < (0 : Int) := by omega
        rw [cc]
        have := ih (s ++ [c]) hv (by simp; omega) hR ks Q h1 h2
        have tb : toBytes [V.int .u8 (c.toNat : Int)] = some [c] := bys_back [c]
        have ba : binV .add .int (.str s) (.str [c]) = some (.str (s ++ [c])) := bin_adds _ s [c] (by simp; omega)
        cases hv <;> simp (disch := omega) [c0, c0', tb, ba] <;> exact this
    · rw [hr] at h2
      simp (disch := omega)
      exact h2 rfl
/-- What comes of fragments, as the document says. -/
def refR (l : List BB) : List UInt8 × Int := match l with
  | [] => ([], 8)
  | x :: l => if fstC (x :: l) ≠ 0 then ([], fstC (x :: l)) else if l = [] ∧ fragB x.p.fl = false then (x.pay.s, 0) else if (x :: l).all (fitB x.p) = false then ([], 6) else refJ (x :: l) x.p.tot.toNat 0 [] false
def tlR1 : ACode := match k_ref12_Joins with
  | .seq _ (.seq _ (.seq _ (.seq _ t))) => t
  | _ => .skip
def tlR2 : ACode := match k_ref12_Joins with
  | .seq _ (.seq _ (.seq _ (.seq _ (.seq _ t)))) => t
  | _ => .skip
def tlR3 : ACode := match k_ref12_Joins with
  | .seq _ (.seq _ (.seq _ (.seq _ (.seq _ (.seq _ (.seq _ (.seq _ (.seq _ t)))))))) => t
  | _ => .skip
theorem FgRef_rest (x : BB) (r : List BB) (hl : (x :: r).length ≤ 1000) (hok : ∀ b ∈ x :: r, BOk b) (R : Nat) (z : List (Nat × V)) (g : Heap) (hR : g.row R = some x.p.cells) (v : V) (hv : v = .tup [.str (if (x :: r).all (fitB x.p) = false then ([], 6) else refJ (x :: r) x.p.tot.toNat 0 [] false).1, .int .i64 (if (x :: r).all (fitB x.p) = false then ([], (6 : Int)) else refJ (x :: r) x.p.tot.toNat 0 [] false).2]) :
    Xc T tlR2 [] ((0, .ps 25 (bbs (x :: r))) :: (6, .ptr R 0) :: z) g (RetE [RV.t 2, RV.t 3] [] v) := by
  have bl := bbs_len (x :: r)
  have Rl := rlt hR
  have lp := FgJ1_loop (x :: r) x.p (hok x (by simp)).p (by omega) hok R (x :: r).length 0 g (by omega) hR
  rw [List.drop_zero] at lp
  show Xc T (.seq _ (.seq _ (.seq _ (.seq _ tlR3)))) _ _ _ _
  simp (disch := omega)
  refine lp _ _ (fun h2 z w => ?_) (fun h2 g' => ?_)
  · obtain ⟨n1, n2, hf⟩ := fit_all hok h2
    obtain ⟨N, hN⟩ := Int.eq_ofNat_of_zero_le (show 0 ≤ x.p.tot by omega)
    have eN : x.p.tot.toNat = N := by omega
    rw [eN, h2, if_neg (by simp)] at hv
    have hRA : ∀ w, Heap.row (g ++ w) R = some x.p.cells := fun w => by rw [row_app Rl]; exact hR
    have l3 := FgJ3_loop (x :: r) (by omega) hok x.p N (by omega) hN R N 0 [] false (g ++ w) (by omega) (by simp) (hRA w)
    simp (disch := omega)
    refine l3 _ _ (fun s' hv' e z => ?_) (fun e => ?_)
    · rw [e] at hv
      show Xc T (.seq (.seq _ _) (.seq _ _)) _ _ _ _
      cases hv' with
      | true =>
        rw [if_pos rfl] at hv
        simp (disch := omega) [hv]
      | false =>
        rw [if_neg (by simp)] at hv
        simp (disch := omega) [hv]
    · rw [e] at hv
      simp (disch := omega) [hv]
  · rw [h2, if_pos rfl] at hv
    simp (disch := omega) [hv]
theorem FgRef_run (l : List BB) (hl : l.length ≤ 1000) (hp : ∀ b ∈ l, PPok b.p) (hb : ∀ b ∈ l, b.bl.length ≤ 1000000) (hn : ∀ b ∈ l, ∀ y ∈ b.bl, 0 ≤ y.nu) (hok : fstC l = 0 → ∀ b ∈ l, BOk b) :
    ∃ h', Run T f_ref12_Joins [.ps 25 (bbs l)] [] (.tup [.str (refR l).1, .int .i64 (refR l).2]) h' := by
  have bl := bbs_len l
  have lp := FgJ0_loop l (by omega) hp hb hn l.length 0 [] (by omega)
  rw [List.drop_zero] at lp
  refine Run.startE t_ref12_Joins ?_
  show Xc T (.seq _ (.seq _ (.seq _ (.seq _ tlR1)))) _ _ _ _
  rw [zP_cells]
  cases l with
  | nil =>
    simp (disch := omega) [bbs, refR]
  | cons x r =>
    have c0 : ¬ ((r.length : Int) + 1 = 0) := by omega
    have ci : ((x :: r).length : Int) = (r.length : Int) + 1 := rfl
    simp (disch := omega) [bl, c0]
    refine lp _ _ (fun hc z => ?_) (fun hc => ?_)
    · have hok := hok hc
      have xk := hok x (by simp)
      have g0 : (bbs (x :: r))[0]? = some x.v := rfl
      have oa := fun q => op_rem2 q x.p.fl xk.p.f0 xk.p.f1
      have rf : refR (x :: r) = if r = [] ∧ fragB x.p.fl = false then (x.pay.s, 0) else if (x :: r).all (fitB x.p) = false then ([], 6) else refJ (x :: r) x.p.tot.toNat 0 [] false := by
        show (if _ then _ else _) = _
        rw [if_neg (by simp [hc])]
      have r0 : ∀ v w, Heap.row (v :: w : Heap) 0 = v := fun v w => rfl
      simp (disch := omega) [bl, g0, r0]
      show Xc T (.seq _ tlR2) _ _ _ _
      by_cases cr : r = []
      · subst cr
        cases cf : fragB x.p.fl with
        | false =>
          rw [if_pos ⟨rfl, cf⟩] at rf
          have oa := fun q => (oa q).trans (by rw [cf])
          simp (disch := omega) [bl, g0, oa, r0, rf]
        | true =>
          rw [if_neg (by simp [cf])] at rf
          have oa := fun q => (oa q).trans (by rw [cf])
          simp only [if_true] at oa
          simp (disch := omega) [bl, g0, oa, r0]
          exact FgRef_rest x [] hl hok 0 _ _ rfl _ (by rw [rf])
      · have c1 : ¬ ((r.length : Int) + 1 = 1) := fun q => cr (List.eq_nil_of_length_eq_zero (by omega))
        rw [if_neg (by simp [cr])] at rf
        simp (disch := omega) [bl, g0, c1, r0]
        exact FgRef_rest x r hl hok 0 _ _ rfl _ (by rw [rf])
    · have rf : refR (x :: r) = ([], fstC (x :: r)) := if_pos hc
      simp (disch := omega) [rf]
attribute [local simp] BB.tk BB.len BB.one BB.sp BB.c0 BB.c17 BB.c18 BB.c19 BB.c24 PP.len PP.tk PP.one PP.sp BB.vc PP.vc PP.cv BB.tP
attribute [local simp] PP.c0 PP.c17 PP.c18 PP.t6 PP.t14
theorem chkB_fr {b : BB} (h : chkB b = 0) (hf : fragB b.p.fl = true) : b.p.off < b.p.tot := by
  unfold chkB at h
  split at h
  · cases h
  · split at h
    · rename_i k; exact absurd h k
    · rename_i k
      have k : chkP b.p = 0 := Decidable.byContradiction fun q => k q
      unfold chkP at k
      split at k
      · cases k
      · split at k
        · cases k
        · rename_i q
          rcases Int.lt_or_le b.p.off b.p.tot with w | w
          · exact w
          · exact absurd (.inl ⟨hf, .inr w⟩) q
theorem fstC_all : ∀ {l : List BB}, fstC l = 0 → ∀ b ∈ l, chkB b = 0
  | [], _, b, hb => by simp at hb
  | x :: r, h, b, hb => by
    simp only [fstC] at h
    split at h
    · rename_i k; exact absurd h k
    · rename_i k
      rcases List.mem_cons.1 hb with rfl | hb
      · exact Decidable.byContradiction fun q => k q
      · exact fstC_all h b hb
theorem light_s {b : BB} (h : lightB b = true) : b.bl.length ≤ 20 ∧ b.pay.s.length ≤ 500 := by
  unfold lightB at h
  split at h
  · cases h
  · omega
theorem bok_of {b : BB} (hp : PPin b.p) (h1 : lightB b = true) (h2 : chkB b = 0) : BOk b :=
  ⟨hp.ok, hp.off.2, hp.tot.2, by have := (light_s h1).2; omega, chkB_fr h2⟩
theorem frag_clr (fl : Int) : fragB (fl - fl % 2) = false := by
  unfold fragB
  rw [decide_eq_false_iff_not]
  omega
theorem join_ref (l : List BB) (r : BB) (e : Int) (hok : fstC l = 0 → ∀ b ∈ l, BOk b) (h : JoinR l r e) :
    ((refR l).2 ≠ 0 → e = (refR l).2 ∧ r = zB) ∧ ((refR l).2 = 0 → e = 0 ∧ r.pay.s = (refR l).1 ∧ fragB r.p.fl = false ∧ (0 ≤ r.p.fl ∧ r.p.fl ≤ 18446744073709551615) ∧ ∃ x t, l = x :: t ∧ r.p.s = x.p.s ∧ r.p.st = x.p.st ∧ r.p.sq = x.p.sq) := by
  cases l with
  | nil =>
    obtain ⟨rfl, rfl⟩ := h
    exact ⟨fun _ => ⟨rfl, rfl⟩, fun h => by cases h⟩
  | cons x l =>
    have h : JoinC x l r e := h
    have rf : refR (x :: l) = if fstC (x :: l) ≠ 0 then ([], fstC (x :: l)) else if l = [] ∧ fragB x.p.fl = false then (x.pay.s, 0) else if (x :: l).all (fitB x.p) = false then ([], 6) else refJ (x :: l) x.p.tot.toNat 0 [] false := rfl
    unfold JoinC at h
    by_cases c1 : fstC (x :: l) ≠ 0
    · rw [if_pos c1] at h rf
      rw [rf]
      exact ⟨fun _ => ⟨h.2, h.1⟩, fun h => absurd h c1⟩
    · rw [if_neg c1] at h rf
      by_cases c2 : l = [] ∧ fragB x.p.fl = false
      · rw [if_pos c2] at h rf
        rw [rf]
        refine ⟨fun q => absurd rfl q, fun _ => ⟨h.2, by rw [h.1], by rw [h.1]; exact c2.2, by have := hok (Decidable.byContradiction fun q => c1 q) x (by simp); rw [h.1]; exact ⟨this.p.f0, this.p.f1⟩, x, l, rfl, by rw [h.1], by rw [h.1], by rw [h.1]⟩⟩
      · rw [if_neg c2] at h rf
        by_cases c3 : (x :: l).all (fitB x.p) = false
        · rw [if_pos c3] at h rf
          rw [rf]
          exact ⟨fun _ => ⟨h.2, h.1⟩, fun h => by cases h⟩
        · rw [if_neg c3] at h rf
          have c3 : (x :: l).all (fitB x.p) = true := by simpa using c3
          have hok := hok (Decidable.byContradiction fun q => c1 q)
          obtain ⟨n1, n2, hf⟩ := fit_all hok c3
          rcases h with ⟨h1, h2, h3⟩ | ⟨d, t, hI, h⟩
          · obtain ⟨q, q1, q2⟩ := Cfl_scan hf h1
            rw [rf, refJ_cfl _ _ _ _ _ ⟨q, by omega, by omega, q2⟩]
            exact ⟨fun _ => ⟨h3, h2⟩, fun h => by cases h⟩
          · have nc : ∀ q, 0 ≤ q → q < x.p.tot.toNat → scanP q (x :: l) none ≠ none := fun q _ _ hs => by
              obtain ⟨b, hb, c, hc, p, y, z, v1, v2, v3⟩ := scan_Cfl hs
              have d1 := hI.da b hb p y v1
              have d2 := hI.da c hc p z v2
              rw [d1] at d2
              exact v3 (Option.some.inj d2)
            have rj := refJ_ok (x :: l) d x.p.tot.toNat hI.dl hI.da x.p.tot.toNat 0 [] false (by omega) nc
            rcases h with ⟨h1, h2, p, hp, hh⟩ | ⟨h1, h2, b, hb, h3, h4⟩
            · rw [if_pos (.inr ⟨p, by omega, hp, hh⟩)] at rj
              rw [rf, rj]
              exact ⟨fun _ => ⟨h2, h1⟩, fun h => by cases h⟩
            · rw [if_neg (by
                rintro (q | ⟨q, _, q1, q2⟩)
                · cases q
                · obtain ⟨c, hc, k⟩ := h2 q q1
                  rw [q2 c hc] at k; cases k)] at rj
              rw [rf, rj]
              have fb := (List.all_eq_true.1 c3) b hb
              simp only [fitB, sameP, eqE, eqT, Bool.and_eq_true, decide_eq_true_eq] at fb
              obtain ⟨⟨⟨_, ⟨⟨⟨⟨⟨s1, s2⟩, s3⟩, s4⟩, s5, s6⟩, _⟩, _⟩, _⟩, _⟩ := fb
              refine ⟨fun q => absurd rfl q, fun _ => ⟨h1, by rw [h4]; rfl, by rw [h4]; exact frag_clr _, by have := (hok b hb).p; have f0 := this.f0; have f1 := this.f1; rw [h4]; show 0 ≤ b.p.fl - b.p.fl % 2 ∧ b.p.fl - b.p.fl % 2 ≤ _; omega, x, l, rfl, ?_, by rw [h4]; exact s5, by rw [h4]; exact s6⟩⟩
              rw [h4]
              show b.p.s = x.p.s
              cases hs : b.p.s; cases hs2 : x.p.s
              rw [hs, hs2] at s1 s2 s3 s4
              simp only at s1 s2 s3 s4
              subst s1 s2 s3 s4; rfl
/-- What the law looks at. -/
def okJ (b : BB) : Bool := lightB b && !(decide (300 < b.p.tot) && decide (b.p.tot ≤ 65536))
theorem FgLaw_loop (l : List BB) (hl : l.length ≤ 1000000) (hn : ∀ b ∈ l, PPin b.p) : ∀ (m i : Nat) (g : Heap), i + m = l.length → ∀ ks Q,
    ((l.drop i).all okJ = true → ∀ z, Xk T ks (.x 0) ((0, .ps 25 (bbs l)) :: z) g Q) →
    ((l.drop i).all okJ = false → Xk T ks .r [(2, .bool true)] g Q) →
    Xc T l_law12_FragJoins_0 ks [(0, .ps 25 (bbs l)), (3, .int .i64 i)] g Q := by
  intro m
  have bl := bbs_len l
  induction m with
  | zero =>
    intro i g hi ks Q h1 h2
    have e : l.drop i = [] := List.drop_eq_nil_of_le (by omega)
    rw [e] at h1
    have c1 : ¬ (i : Int) < l.length := by omega
    rw [L_law12_FragJoins_0]; unfold bl_law12_FragJoins_0
    simp (disch := omega) [c1, bl]
    exact h1 rfl _
  | succ m ih =>
    intro i g hi ks Q h1 h2
    have hil : i < l.length := by omega
    have e := List.drop_eq_getElem_cons hil
    rw [e] at h1 h2
    have c1 : (i : Int) < l.length := by omega
    have g1 := bbs_get l i hil
    have pk := hn l[i] (List.getElem_mem _)
    obtain ⟨b, hb'⟩ : ∃ b, b = l[i] := ⟨_, rfl⟩
    rw [← hb'] at g1 pk h1 h2
    have ih := ih (i + 1) g (by omega) ks Q
    rw [show ((i + 1 : Nat) : Int) = (i : Int) + 1 from rfl] at ih
    obtain ⟨_, rl⟩ := Light_run b ⟨pk.n1, pk.n2, pk.n3⟩
    have bv : V.agg b.cells = b.v := rfl
    rw [List.all_cons] at h1 h2
    rw [L_law12_FragJoins_0]; unfold bl_law12_FragJoins_0
    simp (disch := omega) [c1, hil, g1, bv, bl]
    rw [Xp_run rl (by simp [BB.hf]) (by simp) (by simp [scalar])]
    cases c2 : lightB b with
    | false =>
      have k : okJ b = false := by simp [okJ, c2]
      rw [k] at h2
      simp (disch := omega) [awake12_p]
      exact h2 rfl
    | true =>
      by_cases c3 : 300 < b.p.tot
      · by_cases c4 : b.p.tot ≤ 65536
        · have k : okJ b = false := by simp [okJ, c3, c4]
          rw [k] at h2
          simp (disch := omega) [hil, g1, bl, c3, c4, awake12_p]
          exact h2 rfl
        · have k : okJ b = true := by simp [okJ, c2, c4]
          rw [k] at h1 h2
          simp (disch := omega) [hil, g1, bl, c3, c4]
          exact ih h1 h2
      · have k : okJ b = true := by simp [okJ, c2, c3]
        rw [k] at h1 h2
        simp (disch := omega) [hil, g1, bl, c3]
        exact ih h1 h2
def tlF1 : ACode := match k_law12_FragJoins with
  | .seq _ (.seq _ (.seq _ t)) => t
  | _ => .skip
def tlF2 : ACode := match k_law12_FragJoins with
  | .seq _ (.seq _ (.seq _ (.seq _ (.seq _ t)))) => t
  | _ => .skip
theorem spans_len (l : List BB) : (spansB l).length ≤ l.length := by
  unfold spansB
  rw [List.length_map]
  exact List.length_filter_le _ _
theorem FgLaw_rest (l : List BB) (hl : l.length ≤ 12) (hn : ∀ b ∈ l, BBin b) (hj : l.all okJ = true) (z : List (Nat × V)) :
    Xc T tlF1 [] ((0, .ps 25 (bbs l)) :: z) [] (RetE [RV.t 2] [] (.bool true)) := by
  have bl := bbs_len l
  have hj := List.all_eq_true.1 hj
  have lt : ∀ b ∈ l, lightB b = true := fun b hb => by have := hj b hb; simp only [okJ, Bool.and_eq_true] at this; exact this.1
  have bn : ∀ b ∈ l, b.bl.length ≤ 1000000 := fun b hb => by have := (light_s (lt b hb)).1; omega
  have hok : fstC l = 0 → ∀ b ∈ l, BOk b := fun h b hb => bok_of (hn b hb).p (lt b hb) (fstC_all h b hb)
  have pp : ∀ b ∈ l, PPok b.p := fun b hb => (hn b hb).p.ok
  obtain ⟨r, e, _, hJ, r1⟩ := FgJoin_run l (by omega) pp bn hok (fun _ => canSort _ (by have := spans_len l; omega))
  obtain ⟨_, r2⟩ := FgRef_run l (by omega) pp bn (fun b hb y hy => ((hn b hb).bl y hy).nu.1) hok
  obtain ⟨k1, k2⟩ := join_ref l r e hok hJ
  have bv : ∀ b : BB, V.agg b.cells = b.v := fun _ => rfl
  have r0 : ∀ v w, Heap.row (v :: w : Heap) 0 = v := fun v w => rfl
  obtain ⟨_, r3⟩ := R11Same_run zB (by decide)
  show Xc T (.seq _ (.seq _ tlF2)) _ _ _ _
  rw [zB_cells]
  simp (disch := omega)
  rw [Xp_run r1 (by simp [bbs_hf]) (by simp [BB.hf]) (by simp [scalar])]
  simp (disch := omega)
  rw [Xp_run r2 (by simp [bbs_hf]) (by simp) (by simp [scalar])]
  simp (disch := omega)
  rw [show tlF2 = .seq _ _ from rfl]
  by_cases c : (refR l).2 = 0
  · obtain ⟨rfl, h1, h2, ⟨h6, h7⟩, x, t, rfl, h3, h4, h5⟩ := k2 c
    have oa := fun q => (op_rem2 q r.p.fl h6 h7).trans (by rw [h2])
    have g0 : (bbs (x :: t))[0]? = some x.v := rfl
    have t6 : ∀ b : BB, (b.cells.drop 6).take 4 = [.int .i64 b.p.s.sc, .str b.p.s.nm, .int .u64 b.p.s.nd, .int .u64 b.p.s.sv] := fun _ => rfl
    have t14 : ∀ b : BB, (b.cells.drop 14).take 2 = [.int .u64 b.p.st, .int .u64 b.p.sq] := fun _ => rfl
    simp (disch := omega) [c, awake12_p, r0, h1, oa, bl, g0, t6, t14, h3, h4, h5]
  · obtain ⟨rfl, rfl⟩ := k1 c
    simp (disch := omega) [c, awake12_p, r0, bv]
    rw [zB_cells, bv, Xp_run r3 (by simp [BB.hf]) (by simp) (by simp [scalar])]
    simp (disch := omega)
theorem readBBs : ∀ xs : List V, (∀ y ∈ xs, ∃ vs, y = .agg vs ∧ Row sh25 vs) → ∃ l : List BB, xs = bbs l ∧ ∀ y ∈ l, BBin y
  | [], _ => ⟨[], rfl, fun _ h => nomatch h⟩
  | x :: xs, h => by
    obtain ⟨vs, rfl, hr⟩ := h _ List.mem_cons_self
    obtain ⟨y, e, hy⟩ := readBB vs hr
    obtain ⟨l, rfl, hl⟩ := readBBs xs (fun y hy => h y (List.mem_cons_of_mem _ hy))
    refine ⟨y :: l, by rw [e]; rfl, fun z hz => ?_⟩
    rcases List.mem_cons.1 hz with q | q
    · rw [q]; exact hy
    · exact hl z q
theorem FgLaw_cut (l : List BB) (hl : l.length ≤ 12) (hn : ∀ b ∈ l, BBin b) :
    Xc T l_law12_FragJoins_0 [.block 0, .seq tlF1] [(0, .ps 25 (bbs l)), (3, .int .i64 0)] [] (RetE [RV.t 2] [] (.bool true)) := by
  have lp := FgLaw_loop l (by omega) (fun b hb => (hn b hb).p) l.length 0 [] (by omega)
  rw [List.drop_zero] at lp
  refine lp _ _ (fun hj z => ?_) (fun hj => ?_)
  · exact FgLaw_rest l hl hn hj z
  · simp (disch := omega)
theorem law_FragJoins (x : V) (hx : Ty (.sl true 248 sh25) x) : ∃ h', Run T f_law12_FragJoins [x] [] (.bool true) h' := by
  obtain ⟨xs, rfl, hb, hxs⟩ := hx.elems_agg
  obtain ⟨l, rfl, hn⟩ := readBBs xs hxs
  have bl := bbs_len l
  rw [bl] at hb
  refine Run.startE t_law12_FragJoins ?_
  show Xc T (.seq _ (.seq _ (.seq _ tlF1))) _ _ _ _
  by_cases c : l.length ≤ 12
  · have c1 : ¬ (12 : Int) < l.length := by omega
    have c2 : ¬ 12 < l.length := by omega
    simp (disch := omega) [bl, c1, c2]
    exact FgLaw_cut l c hn
  · have c1 : (12 : Int) < l.length := by omega
    have c2 : 12 < l.length := by omega
    have e : (bbs l).take 12 = bbs (l.take 12) := by simp [bbs, List.map_take]
    simp (disch := omega) [bl, c1, c2, e]
    exact FgLaw_cut (l.take 12) (by rw [List.length_take]; omega) fun b hb => hn b (List.mem_of_mem_take hb)
end Ev
