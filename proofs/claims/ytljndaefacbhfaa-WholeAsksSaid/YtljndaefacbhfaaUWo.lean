/- The law WholeAsks. Each theorem states its own conditions. -/
import Derived.Test.YtljndaefacbhfaaUCode
import Derived.Test.YtljndaefacbhfaaUWa
set_option linter.all false
namespace Ev
open Go
set_option maxRecDepth 10000
attribute [-simp] getElem?_pos getElem?_neg
theorem BundleN_run (n : Int) (h : Heap) : Run T f_whole_Station_Bundle [.nilp, .int .u64 n] h (.tup [.ps 1 [], .int .i64 1]) h := by
  refine Run.start t_whole_Station_Bundle ?_
  unfold k_whole_Station_Bundle
  simp (disch := omega)
theorem TakeN_run (h : Heap) : ∃ h', Run T f_whole_Station_Take [.nilp, .agg [.int .u64 0, .int .u64 0, .int .i64 0, .int .i64 0, .str []]] h (.int .i64 1) h' := by
  refine Run.startE t_whole_Station_Take ?_
  unfold k_whole_Station_Take
  simp (disch := omega)
theorem ManyN_run (h : Heap) : Run T f_whole_Station_Many [.nilp] h (.int .i64 0) h := by
  refine Run.start t_whole_Station_Many ?_
  unfold k_whole_Station_Many
  simp (disch := omega)
theorem DoneN_run (n : Int) (h : Heap) : Run T f_whole_Station_Done [.nilp, .int .u64 n] h (.int .i64 0) h := by
  refine Run.start t_whole_Station_Done ?_
  unfold k_whole_Station_Done
  simp (disch := omega)
theorem numbersN_run (n : Int) (h : Heap) : Run T f_whole_Station_numbers [.nilp, .int .u64 n] h (.ps 1 []) h := by
  refine Run.start t_whole_Station_numbers ?_
  unfold k_whole_Station_numbers
  simp (disch := omega)
theorem MissingN_run (n : Int) (h : Heap) : ∃ h', Run T f_whole_Station_Missing [.nilp, .int .u64 n] h (.ps 2 []) h' := by
  refine Run.startE t_whole_Station_Missing ?_
  unfold k_whole_Station_Missing
  simp (disch := omega)
  rw [Xf_run (numbersN_run _ _)]
  simp (disch := omega)
  rw [L_whole_Station_Missing_0]; unfold bl_whole_Station_Missing_0
  simp (disch := omega)
theorem AskN_run (n : Int) (h : Heap) : ∃ h', Run T f_whole_Station_Ask [.nilp, .int .u64 n] h (.ps 5 []) h' := by
  refine Run.startE t_whole_Station_Ask ?_
  unfold k_whole_Station_Ask
  obtain ⟨h', mr⟩ := MissingN_run n h
  simp (disch := omega)
  rw [Xf_run mr]
  simp (disch := omega)
  rw [L_whole_Station_Ask_1]; unfold bl_whole_Station_Ask_1
  simp (disch := omega)
theorem IdsN_run (h : Heap) : ∃ h', Run T f_whole_Station_Ids [.nilp] h (.ps 1 []) h' := by
  refine Run.startE t_whole_Station_Ids ?_
  unfold k_whole_Station_Ids
  simp (disch := omega)
  rw [Xf_run (numbersN_run _ _)]
  simp (disch := omega)
  rw [L_whole_Station_Ids_0]; unfold bl_whole_Station_Ids_0
  simp (disch := omega)
  rw [Xf_run (SortU_hn _)]
  simp (disch := omega)
  rw [Xf_run (CompactP_hn _)]
  simp (disch := omega)
theorem GetN_run (h : Heap) : ∃ h', Run T f_frame_Get [.ps 1 []] h (.tup [.agg [.int .u64 0, .int .u64 0, .int .i64 0, .int .i64 0, .str []], .int .i64 0, .int .i64 5]) h' := by
  refine Run.startE t_frame_Get ?_
  unfold k_frame_Get
  simp (disch := omega)
theorem AllN_run (h : Heap) : ∃ h', Run T f_frame_All [.ps 1 []] h (.tup [.ps 5 [], .int .i64 0]) h' := by
  refine Run.startE t_frame_All ?_
  unfold k_frame_All
  obtain ⟨h', gr⟩ := GetN_run []
  simp (disch := omega)
  rw [L_frame_All_0]; unfold bl_frame_All_0
  simp (disch := omega)
  rw [Xp_run gr (by simp) (by simp) (by simp)]
  simp (disch := omega)
theorem HearN_run (h : Heap) : ∃ h', Run T f_whole_Station_Hear [.nilp, .ps 1 []] h (.int .i64 0) h' := by
  refine Run.startE t_whole_Station_Hear ?_
  unfold k_whole_Station_Hear
  obtain ⟨h', ar⟩ := AllN_run []
  simp (disch := omega)
  rw [Xp_run ar (by simp) (by simp) (by simp)]
  simp (disch := omega)
  rw [L_whole_Station_Hear_0]; unfold bl_whole_Station_Hear_0
  simp (disch := omega)
def sumP (l : List Pr) : Int := (l.map fun p => p.hi - p.lo + 1).sum
theorem sumP_app (a b : List Pr) : sumP (a ++ b) = sumP a + sumP b := by simp [sumP]
theorem cutF_ok : ∀ (k : Nat) (a b : Int), b + 1 - a ≤ 256 * k → (∀ p, p ∈ cutF k a b → a ≤ p.lo ∧ p.lo ≤ p.hi ∧ p.hi ≤ b ∧ p.hi - p.lo ≤ 255) ∧ (cutF k a b).Pairwise (fun q p => q.hi < p.lo) ∧ sumP (cutF k a b) = if a ≤ b then b - a + 1 else 0
  | 0, a, b, h => by
    have : ¬ a ≤ b := by omega
    simp [cutF, sumP, this]
  | k + 1, a, b, h => by
    unfold cutF
    by_cases c : a ≤ b
    · obtain ⟨h1, h2, h3⟩ := cutF_ok k (a + 256) b (by omega)
      rw [if_pos c, if_pos c]
      refine ⟨fun p hp => ?_, ?_, ?_⟩
      · rcases List.mem_cons.1 hp with rfl | hp
        · simp only; omega
        · have := h1 p hp; omega
      · rw [List.pairwise_cons]
        refine ⟨fun p hp => ?_, h2⟩
        have := h1 p hp
        simp only
        omega
      · have : sumP (⟨a, min (a + 255) b⟩ :: cutF k (a + 256) b) = (min (a + 255) b - a + 1) + sumP (cutF k (a + 256) b) := by simp [sumP]
        rw [this, h3]
        split <;> omega
    · rw [if_neg c, if_neg c]
      simp [sumP]
structure AskOk (M A : List Pr) : Prop where
  b : ∀ p, p ∈ A → 0 ≤ p.lo ∧ p.lo ≤ p.hi ∧ p.hi < 65536 ∧ p.hi - p.lo ≤ 255
  i : ∀ p, p ∈ A → inP M p.lo = true ∧ inP M p.hi = true
  s : A.Pairwise fun q p => q.hi < p.lo
  t : sumP A = sumP M
theorem askL_ok : ∀ (M : List Pr), (∀ p, p ∈ M → 0 ≤ p.lo ∧ p.lo ≤ p.hi ∧ p.hi < 65536) → (M.Pairwise fun q p => q.hi + 2 ≤ p.lo) → AskOk M (askL M)
  | [], _, _ => ⟨by simp [askL], by simp [askL], by simp [askL], by simp [askL]⟩
  | m :: M, hb, hs => by
    rw [List.pairwise_cons] at hs
    have ih := askL_ok M (fun p hp => hb p (List.mem_cons_of_mem _ hp)) hs.2
    have hm := hb m List.mem_cons_self
    obtain ⟨c1, c2, c3⟩ := cutF_ok 300 m.lo m.hi (by omega)
    have e : askL (m :: M) = cutR m ++ askL M := by simp [askL]
    have hin : ∀ x, inP (m :: M) x = (decide (m.lo ≤ x) && decide (x ≤ m.hi) || inP M x) := fun x => by simp [inP]
    have hfar : ∀ p, p ∈ askL M → m.hi < p.lo := fun p hp => by
      obtain ⟨q, hq, hp⟩ := List.mem_flatMap.1 hp
      have h1 := (cutF_ok 300 q.lo q.hi (by have := hb q (List.mem_cons_of_mem _ hq); omega)).1 p hp
      have h2 := hs.1 q hq
      omega
    rw [e]
    refine ⟨fun p hp => ?_, fun p hp => ?_, ?_, ?_⟩
    · rcases List.mem_append.1 hp with hp | hp
      · have := c1 p hp; omega
      · exact ih.b p hp
    · rw [hin, hin]
      rcases List.mem_append.1 hp with hp | hp
      · have := c1 p hp
        simp
        omega
      · have := ih.i p hp
        simp [this]
    · rw [List.pairwise_append]
      refine ⟨c2, ih.s, fun q hq p hp => ?_⟩
      have := c1 q hq
      have := hfar p hp
      omega
    · rw [sumP_app, ih.t]
      have : sumP (m :: M) = (m.hi - m.lo + 1) + sumP M := by simp [sumP]
      rw [this]
      unfold cutR
      rw [c3, if_pos hm.2.1]
theorem sumP_le (b : Int) : ∀ (l : List Pr), (∀ p, p ∈ l → 0 ≤ p.hi - p.lo + 1 ∧ p.hi - p.lo + 1 ≤ b) → 0 ≤ sumP l ∧ sumP l ≤ b * l.length
  | [], _ => by simp [sumP]
  | p :: l, h => by
    have ih := sumP_le b l fun q hq => h q (List.mem_cons_of_mem _ hq)
    have h1 := h p List.mem_cons_self
    have e : sumP (p :: l) = (p.hi - p.lo + 1) + sumP l := by simp [sumP]
    rw [e, List.length_cons]
    have : b * ((l.length + 1 : Nat) : Int) = b * l.length + b := by
      rw [Int.natCast_add, Int.mul_add]; simp
    omega
theorem wa_loop0 (l : List Fm) (hl : l.length ≤ 40) (hok : ∀ f, f ∈ l → f.ok) (v1 : V) {s m : Nat} : ∀ (k i : Nat) (L : List Fm) (g : Heap), i + k = l.length → SH g s m L → Sta L → L.length ≤ i → ∀ ks Q,
    (∀ L g, SH g s m L → Sta L → ∀ e, Xk T ks (.x 0) ([(0, .ps 5 (fms l)), (1, v1), (5, .ptr s 0)] ++ e) g Q) → (∀ g, Xk T ks .r [(4, .bool true)] g Q) →
    Xc T l_law46_WholeAsks_0 ks [(0, .ps 5 (fms l)), (1, v1), (5, .ptr s 0), (6, .int .i64 i)] g Q := by
  intro k
  induction k with
  | zero =>
    intro i L g hi hS st hLi ks Q h1 h2
    rw [L_law46_WholeAsks_0]; unfold bl_law46_WholeAsks_0
    have c : ¬ (i : Int) < l.length := by omega
    simp (disch := omega) [fms_len, c]
    have := h1 L g hS st [(6, .int .i64 i), (34, .bool false)]
    simpa using this
  | succ k ih =>
    intro i L g hi hS st hLi ks Q h1 h2
    rw [L_law46_WholeAsks_0]; unfold bl_law46_WholeAsks_0
    have c : (i : Int) < l.length := by omega
    have hil : i < l.length := by omega
    have fg := fms_get l i hil
    have fo := hok l[i] (List.getElem_mem hil)
    generalize l[i] = f at *
    have gt : ∀ g : Fm, List.take 5 g.cs = g.cs := fun _ => rfl
    have gl : ∀ g : Fm, g.cs.length = 5 := fun _ => rfl
    have a4 : f.cs[4]? = some (.str f.dat) := rfl
    by_cases c3 : 300 < (f.dat.length : Int)
    · simp (disch := omega) [fms_len, c, fg, Fm.v, a4, c3]
      exact h2 _
    · obtain ⟨g', hS', wr⟩ := WTake_run hS st.ok f fo
      simp only [Fm.v] at wr
      simp (disch := omega) [fms_len, c, fg, Fm.v, a4, c3, gt, gl]
      rw [Xf_run wr]
      have st' : Sta (if takeE L f = 0 then L ++ [f] else L) := by
        split
        · rename_i ct; exact st.take fo ct (by omega)
        · exact st
      have ih' := ih (i + 1) _ g' (by omega) hS' st' (by split <;> (try simp) <;> omega) ks Q h1 h2
      simp (disch := omega)
      simpa using ih'
theorem stps_get (A : List Pr) (i : Nat) (h : i < A.length) : (stps A)[i]? = some (.agg (stpC A[i])) := by
  unfold stps
  rw [List.getElem?_map, List.getElem?_eq_getElem h]
  rfl
theorem wa_loop1 (M A : List Pr) (hM : M.length ≤ 50) (hA : A.length ≤ 15000) (ok : AskOk M A) (v1 v5 v10 : V) (g : Heap) : ∀ (k i : Nat), i + k = A.length → ∀ ks Q,
    (∀ e, Xk T ks (.x 2) ([(1, v1), (5, v5), (7, .ps 5 (stps A)), (8, .ps 2 (Pr.vs M)), (9, .int .u64 (sumP A)), (10, v10)] ++ e) g Q) →
    Xc T l_law46_WholeAsks_1 ks [(1, v1), (5, v5), (7, .ps 5 (stps A)), (8, .ps 2 (Pr.vs M)), (9, .int .u64 (sumP (A.take i))), (10, v10), (11, .int .i64 i)] g Q := by
  intro k
  induction k with
  | zero =>
    intro i hi ks Q h1
    rw [L_law46_WholeAsks_1]; unfold bl_law46_WholeAsks_1
    have c : ¬ (i : Int) < A.length := by omega
    rw [List.take_of_length_le (by omega)]
    simp (disch := omega) [stps_len, c]
    have := h1 [(11, .int .i64 i), (59, .bool false)]
    simpa using this
  | succ k ih =>
    intro i hi ks Q h1
    rw [L_law46_WholeAsks_1]; unfold bl_law46_WholeAsks_1
    have c : (i : Int) < A.length := by omega
    have hil : i < A.length := by omega
    have ga := stps_get A i hil
    have hm := List.getElem_mem hil
    have hb := ok.b _ hm
    have hin := ok.i _ hm
    have hs0 := sumP_le 256 (A.take i) fun p hp => by
      have := ok.b p (List.mem_of_mem_take hp)
      omega
    have hlt : (A.take i).length ≤ 15000 := by simp; omega
    have ht : sumP (A.take (i + 1)) = sumP (A.take i) + (A[i].hi - A[i].lo + 1) := by
      rw [take_get A i hil, sumP_app]
      simp [sumP]
    have ih' := ih (i + 1) (by omega) ks Q h1
    rw [ht] at ih'
    have hprev : 0 < i → ∃ q : Pr, (stps A)[i - 1]? = some (.agg (stpC q)) ∧ q.hi < A[i].lo := fun h0 =>
      ⟨A[i - 1], stps_get A (i - 1) (by omega), List.pairwise_iff_getElem.1 ok.s (i - 1) i (by omega) hil (by omega)⟩
    generalize sumP (A.take i) = S at *
    generalize A[i] = p at *
    have c1 : ¬ p.hi < p.lo := by omega
    have c2 : ¬ 255 < p.hi - p.lo := by omega
    have s3 : stpC p = [.int .i64 4, .str [], .int .i64 0, .int .u64 p.lo, .int .u64 p.hi] := rfl
    by_cases c0 : 0 < i
    · obtain ⟨q, hq, hql⟩ := hprev c0
      have c3 : ¬ p.lo ≤ q.hi := by omega
      have c0' : (0 : Int) < i := by omega
      have ei : ((i : Int) - 1).toNat = i - 1 := by omega
      simp (disch := omega) [stps_len, c, ga, stpC, c1, c2, c0, c0', c3, hq, ei, hin, In_p]
      simpa using ih'
    · have e0 : i = 0 := by omega
      subst e0
      simp (disch := omega) [stps_len, c, hil, ga, stpC, c1, c2, hin, In_p]
      simpa using ih'
theorem wa_loop2 (M : List Pr) (hM : M.length ≤ 50) (hb : ∀ p, p ∈ M → 0 ≤ p.lo ∧ p.lo ≤ p.hi ∧ p.hi < 65536) (v1 v5 v9 : V) (g : Heap) : ∀ (k i : Nat), i + k = M.length → ∀ ks Q,
    (∀ e, Xk T ks (.x 4) ([(1, v1), (5, v5), (8, .ps 2 (Pr.vs M)), (9, v9), (10, .int .u64 (sumP M))] ++ e) g Q) →
    Xc T l_law46_WholeAsks_2 ks [(1, v1), (5, v5), (8, .ps 2 (Pr.vs M)), (9, v9), (10, .int .u64 (sumP (M.take i))), (12, .int .i64 i)] g Q := by
  intro k
  induction k with
  | zero =>
    intro i hi ks Q h1
    rw [L_law46_WholeAsks_2]; unfold bl_law46_WholeAsks_2
    have c : ¬ (i : Int) < M.length := by omega
    rw [List.take_of_length_le (by omega)]
    simp (disch := omega) [vs_len, c]
    have := h1 [(12, .int .i64 i), (150, .bool false)]
    simpa using this
  | succ k ih =>
    intro i hi ks Q h1
    rw [L_law46_WholeAsks_2]; unfold bl_law46_WholeAsks_2
    have c : (i : Int) < M.length := by omega
    have hil : i < M.length := by omega
    have gm : (Pr.vs M)[i]? = some M[i].v := by rw [vs_get, List.getElem?_eq_getElem hil]; rfl
    have hp := hb M[i] (List.getElem_mem hil)
    have hs0 := sumP_le 65536 (M.take i) fun p hp => by
      have := hb p (List.mem_of_mem_take hp)
      omega
    have hlt : (M.take i).length ≤ 50 := by simp; omega
    have ht : sumP (M.take (i + 1)) = sumP (M.take i) + (M[i].hi - M[i].lo + 1) := by
      rw [take_get M i hil, sumP_app]
      simp [sumP]
    have ih' := ih (i + 1) (by omega) ks Q h1
    rw [ht] at ih'
    generalize sumP (M.take i) = S at *
    generalize M[i] = p at *
    simp (disch := omega) [vs_len, c, gm, Pr.v, Pr.cs]
    simpa using ih'
theorem wa_loop3 (U : List Int) (hU : U.length ≤ 40) (hs : U.Pairwise (· < ·)) (v1 v9 v10 : V) (g : Heap) : ∀ (k i : Nat), i + k = U.length → 1 ≤ i → ∀ ks Q,
    (∀ e, Xk T ks (.x 6) ([(1, v1), (9, v9), (10, v10)] ++ e) g Q) →
    Xc T l_law46_WholeAsks_3 ks [(1, v1), (9, v9), (10, v10), (13, .ps 1 (u64L U)), (14, .int .i64 i)] g Q := by
  intro k
  induction k with
  | zero =>
    intro i hi h1i ks Q h1
    rw [L_law46_WholeAsks_3]; unfold bl_law46_WholeAsks_3
    have c : ¬ (i : Int) < U.length := by omega
    simp (disch := omega) [u64L_len, c]
    have := h1 [(13, .ps 1 (u64L U)), (14, .int .i64 i), (172, .bool false)]
    simpa using this
  | succ k ih =>
    intro i hi h1i ks Q h1
    rw [L_law46_WholeAsks_3]; unfold bl_law46_WholeAsks_3
    have c : (i : Int) < U.length := by omega
    have hil : i < U.length := by omega
    have g1 : (u64L U)[i]? = some (.int .u64 U[i]) := by rw [u64L_get, List.getElem?_eq_getElem hil]; rfl
    have g2 : (u64L U)[i - 1]? = some (.int .u64 (U[i - 1]'(by omega))) := by rw [u64L_get, List.getElem?_eq_getElem (by omega)]; rfl
    have hlt := List.pairwise_iff_getElem.1 hs (i - 1) i (by omega) hil (by omega)
    have ih' := ih (i + 1) (by omega) (by omega) ks Q h1
    generalize U[i] = x at *
    generalize U[i - 1]'(by omega) = y at *
    have c2 : ¬ x ≤ y := by omega
    have ei : ((i : Int) - 1).toNat = i - 1 := by omega
    simp (disch := omega) [u64L_len, c, g1, g2, ei, c2]
    simpa using ih'
theorem wa_loop3' (U : List Int) (hU : U.length ≤ 40) (hs : U.Pairwise (· < ·)) (v1 v9 v10 : V) (g : Heap) (ks : List Kt) (Q : Ex → Env → Heap → Prop)
    (h1 : ∀ e, Xk T ks (.x 6) ([(1, v1), (9, v9), (10, v10)] ++ e) g Q) : Xc T l_law46_WholeAsks_3 ks [(1, v1), (9, v9), (10, v10), (13, .ps 1 (u64L U)), (14, .int .i64 1)] g Q := by
  by_cases c : 1 ≤ U.length
  · exact wa_loop3 U hU hs v1 v9 v10 g (U.length - 1) 1 (by omega) (by omega) ks Q h1
  · rw [L_law46_WholeAsks_3]; unfold bl_law46_WholeAsks_3
    have c : ¬ (1 : Int) < U.length := by omega
    simp (disch := omega) [u64L_len, c]
    have := h1 [(13, .ps 1 (u64L U)), (14, .int .i64 1), (172, .bool false)]
    simpa using this
theorem Asks_run (l : List Fm) (hl : l.length < 4611686018427387904) (hok : ∀ f, f ∈ l → f.ok) (next : Int) (h0 : 0 ≤ next) : ∃ h', Run T f_law46_WholeAsks [.ps 5 (fms l), .int .u64 next] [] (.bool true) h' := by
  by_cases c : l.length ≤ 40 ∧ next ≤ 65536
  · obtain ⟨c1, c2⟩ := c
    have k1 : ¬ (40 : Int) < l.length := by omega
    have k2 : ¬ 65536 < next := by omega
    refine Run.startE t_law46_WholeAsks ?_
    unfold k_law46_WholeAsks
    obtain ⟨s, m, g, hs, nr⟩ := New_run []
    simp (disch := omega) [fms_len, k1, k2, awake46_p]
    rw [Xf_run nr]
    simp (disch := omega)
    have st0 : Sta [] := ⟨⟨by simp, by simp, by simp⟩, by simp, by simp⟩
    refine wa_loop0 l c1 hok (.int .u64 next) l.length 0 [] g (by omega) hs st0 (by simp) _ _ (fun K g hS st e => ?_) (fun g => ?_)
    · obtain ⟨J1, ar⟩ := Ask_run hS st next h0 c2
      simp (disch := omega)
      rw [Xf_run ar]
      have hS2 := hS.app J1
      generalize g ++ J1 = g2 at *
      obtain ⟨J3, ms⟩ := Missing_run hS2 st.ok next (by omega)
      simp (disch := omega)
      rw [Xf_run ms]
      have hS3 := hS2.app J3
      generalize g2 ++ J3 = g3 at *
      have hst := numsL_strict st next
      have hlt : ∀ n, n ∈ numsL K next → 0 ≤ n ∧ n < next := fun n hn => by
        obtain ⟨h1, h2⟩ := numsL_mem.1 hn
        obtain ⟨f, hf, rfl⟩ := List.mem_map.1 h1
        exact ⟨(st.ok.ok f hf).n0, h2⟩
      have hMm := missL_mem (numsL K next) 0 next hst hlt
      have hMa := missL_apart (numsL K next) 0 next hst hlt
      have hMl := missL_len (numsL K next) 0 next
      have hNl : (numsL K next).length ≤ 40 := by
        rw [(numsL_perm K next).length_eq]
        exact Nat.le_trans (List.length_filter_le _ _) (by simpa using st.ok.len)
      generalize missL 0 (numsL K next) next = M at *
      have hb : ∀ p, p ∈ M → 0 ≤ p.lo ∧ p.lo ≤ p.hi ∧ p.hi < 65536 := fun p hp => by have := hMm p hp; omega
      have ok := askL_ok M hb hMa
      have hAl : (askL M).length ≤ 15000 := by
        have : ∀ l : List Pr, (askL l).length ≤ 300 * l.length := fun l => by
          induction l with
          | nil => simp [askL]
          | cons p l ih =>
            have := cutF_len 300 p.lo p.hi
            simp only [askL, List.flatMap_cons, List.length_append, List.length_cons, cutR] at ih ⊢
            omega
        have := this M
        omega
      have ht := ok.t
      generalize askL M = A at *
      simp (disch := omega)
      have l1 := wa_loop1 M A (by omega) hAl ok (.int .u64 next) (.ptr s 0) (.int .u64 0) g3 A.length 0 (by omega)
      have e0 : sumP ([] : List Pr) = 0 := rfl
      rw [List.take_zero, e0] at l1
      refine l1 _ _ fun e => ?_
      simp (disch := omega)
      have l2 := wa_loop2 M (by omega) hb (.int .u64 next) (.ptr s 0) (.int .u64 (sumP A)) g3 M.length 0 (by omega)
      rw [List.take_zero, e0] at l2
      refine l2 _ _ fun e => ?_
      obtain ⟨U, g4, hU1, hU2, ir⟩ := Ids_run hS3 st
      simp (disch := omega)
      rw [Xf_run ir]
      simp (disch := omega)
      refine wa_loop3' U hU2 hU1 _ _ _ g4 _ _ fun e => ?_
      rw [ht]
      simp (disch := omega)
      rw [Xf_run (BundleN_run _ _)]
      obtain ⟨g5, tr⟩ := TakeN_run g4
      simp (disch := omega)
      rw [Xf_run tr]
      simp (disch := omega)
      rw [Xf_run (ManyN_run _)]
      obtain ⟨g6, anr⟩ := AskN_run next g5
      simp (disch := omega)
      rw [Xf_run anr]
      obtain ⟨g7, inr⟩ := IdsN_run g6
      simp (disch := omega)
      rw [Xf_run inr]
      simp (disch := omega)
      rw [Xf_run (DoneN_run _ _)]
      obtain ⟨g8, hnr⟩ := HearN_run g7
      simp (disch := omega)
      rw [Xf_run hnr]
      simp (disch := omega)
    · simp (disch := omega)
  · refine Run.startE t_law46_WholeAsks ?_
    unfold k_law46_WholeAsks
    by_cases k1 : (40 : Int) < l.length
    · simp (disch := omega) [fms_len, k1, awake46_p]
    · have k2 : 65536 < next := by omega
      simp (disch := omega) [fms_len, k1, k2, awake46_p]
theorem law_WholeAsks (x0 x1 : V) (h0 : Ty (.sl true 48 [.i .u64, .i .u64, .i .i64, .i .i64, .s]) x0) (h1 : Ty (.i .u64) x1) : ∃ h', Run T f_law46_WholeAsks [x0, x1] [] (.bool true) h' := by
  obtain ⟨l, rfl, hl, hok⟩ := h0.frames
  obtain ⟨n, rfl, n0, _⟩ := h1.int
  have e0 : IntKind.u64.min = 0 := by decide
  rw [e0] at n0
  exact Asks_run l (by omega) hok n n0
end Ev
