/- The law ResendRuns. Each theorem states its own conditions. -/
import Derived.Test.YtnpegllmmckpgaaUCode
import Derived.Test.YtnpegllmmckpgaaUB
set_option linter.all false
namespace Ev
open Go
set_option maxRecDepth 10000
attribute [-simp] getElem?_pos getElem?_neg
theorem oneQ_num (l : List Rc) (n next : Int) : (oneQ l n next).num = n := by
  unfold oneQ
  split
  · rfl
  · split <;> rfl
theorem oneQ_st (l : List Rc) (n next : Int) : (oneQ l n next).st = 0 ∨ (oneQ l n next).st = 1 ∨ (oneQ l n next).st = 2 := by
  unfold oneQ
  split
  · exact .inl rfl
  · split
    · exact .inr (.inl rfl)
    · exact .inr (.inr rfl)
theorem rngQ_nums (l : List Rc) (a next : Int) (k : Nat) : nums (rngQ l a next k) a := fun j h => by simp [rngQ, oneQ_num]
theorem rngQ_st (l : List Rc) (a next : Int) (k : Nat) : ∀ f, f ∈ rngQ l a next k → f.st = 0 ∨ f.st = 1 ∨ f.st = 2 := fun f h => by
  unfold rngQ at h
  obtain ⟨j, _, rfl⟩ := List.mem_map.1 h
  exact oneQ_st _ _ _
theorem rngQ_add (l : List Rc) (a next : Int) (k m : Nat) : rngQ l a next (k + m) = rngQ l a next k ++ rngQ l (a + k) next m := by
  unfold rngQ
  rw [List.range_add, List.map_append, List.map_map]
  congr 1
  refine List.map_congr_left fun j _ => ?_
  show oneQ l (a + ((k + j : Nat) : Int)) next = oneQ l (a + k + j) next
  congr 1
  omega
def lostN (l : List Fq) : Nat := (l.filter fun f => !decide (f.st = 0)).length
theorem lost_cnt : ∀ (l : List Fq), cntQ l 0 + lostN l = l.length
  | [] => rfl
  | f :: l => by
    have ih := lost_cnt l
    unfold cntQ lostN at *
    by_cases e : f.st = 0
    · simp [e]; omega
    · simp [e]; omega
theorem cnt_st : ∀ (l : List Fq), (∀ f, f ∈ l → f.st = 0 ∨ f.st = 1 ∨ f.st = 2) → cntQ l 1 + cntQ l 2 = lostN l
  | [], _ => rfl
  | f :: l, h => by
    have ih := cnt_st l fun g hg => h g (List.mem_cons_of_mem _ hg)
    unfold cntQ lostN at *
    rcases h f List.mem_cons_self with e | e | e
    · simp [e, ih]
    · simp [e]; omega
    · simp [e]; omega
theorem ru_loop0 (L : List Fq) (hL : L.length ≤ 256) (a : Int) (hn : nums L a) (out : List Pr) (on : Bool) (r : RI a (lostF L) L.length out on) (v1 v2 v5 : V) (g : Heap) : ∀ (m i : Nat), i + m = L.length → ∀ ks Q,
    (∀ e, Xk T ks (.x 0) ([(1, v1), (2, v2), (5, v5), (6, .ps 4 (fqs L)), (8, .ps 2 (Pr.vs out)), (9, .int .i64 (lostN L))] ++ e) g Q) →
    Xc T l_law34_ResendRuns_0 ks [(1, v1), (2, v2), (5, v5), (6, .ps 4 (fqs L)), (8, .ps 2 (Pr.vs out)), (9, .int .i64 (lostN (L.take i))), (10, .int .i64 i)] g Q := by
  intro m
  induction m with
  | zero =>
    intro i hi ks Q hQ
    rw [L_law34_ResendRuns_0]; unfold bl_law34_ResendRuns_0
    have c : ¬ (i : Int) < L.length := by omega
    rw [List.take_of_length_le (by omega)]
    simp (disch := omega) [c, fqs_len]
    have := hQ [(10, .int .i64 i), (57, .bool false)]
    simpa using this
  | succ m ih =>
    intro i hi ks Q hQ
    rw [L_law34_ResendRuns_0]; unfold bl_law34_ResendRuns_0
    have c : (i : Int) < L.length := by omega
    have hil : i < L.length := by omega
    have gt := fqs_get L i hil
    have hnum := hn i hil
    have ht : L.take (i + 1) = L.take i ++ [L[i]] := by rw [List.take_add_one, List.getElem?_eq_getElem hil]; rfl
    have hc : lostN (L.take (i + 1)) = lostN (L.take i) + if L[i].st = 0 then 0 else 1 := by
      rw [ht]
      unfold lostN
      rw [List.filter_append, List.filter_cons, List.filter_nil]
      by_cases k : L[i].st = 0 <;> simp [k]
    have hb : lostN (L.take i) ≤ 1000 := Nat.le_trans (List.length_filter_le _ _) (by simp; omega)
    have hlo : lostF L i = !decide (L[i].st = 0) := by unfold lostF; rw [List.getElem?_eq_getElem hil]; simp
    have hin := r.mem i hil
    rw [hlo, ← hnum] at hin
    have ol := r.len
    have ih' := ih (i + 1) (by omega) ks Q hQ
    rw [hc] at ih'
    generalize L[i] = f at *
    have c0 : f.cs[0]? = some (.int .u64 f.num) := rfl
    have c1 : f.cs[1]? = some (.int .i64 f.st) := rfl
    by_cases cs : f.st = 0
    · rw [if_pos cs] at ih'
      simp [cs] at hin
      simp (disch := omega) [fqs_len, c, gt, Fq.cl, c0, c1, cs, In_p, hin]
      simpa using ih'
    · rw [if_neg cs] at ih'
      simp [cs] at hin
      simp (disch := omega) [fqs_len, c, gt, Fq.cl, c0, c1, cs, In_p, hin]
      simpa using ih'
theorem ru_loop1 (L : List Fq) (hL : L.length ≤ 256) (v8 v9 : V) (g : Heap) : ∀ (m i : Nat), i + m = L.length → ∀ ks Q,
    (∀ e, Xk T ks (.x 2) ([(6, .ps 4 (fqs L)), (8, v8), (9, v9)] ++ e) g Q) →
    Xc T l_law34_ResendRuns_1 ks [(6, .ps 4 (fqs L)), (8, v8), (9, v9), (12, .ps 4 (fqs L)), (16, .int .i64 i)] g Q := by
  intro m
  induction m with
  | zero =>
    intro i hi ks Q hQ
    rw [L_law34_ResendRuns_1]; unfold bl_law34_ResendRuns_1
    have c : ¬ (i : Int) < L.length := by omega
    simp (disch := omega) [c, fqs_len]
    have := hQ [(12, .ps 4 (fqs L)), (16, .int .i64 i), (125, .bool false)]
    simpa using this
  | succ m ih =>
    intro i hi ks Q hQ
    rw [L_law34_ResendRuns_1]; unfold bl_law34_ResendRuns_1
    have c : (i : Int) < L.length := by omega
    have hil : i < L.length := by omega
    have gt := fqs_get L i hil
    have ih' := ih (i + 1) (by omega) ks Q hQ
    generalize L[i] = f at *
    simp (disch := omega) [fqs_len, c, gt, Fq.cl, Fq.tk, Fq.eqs, -eq_fcons]
    simpa using ih'
theorem RI.apart {a : Int} {F : Nat → Bool} {i : Nat} {out : List Pr} {on : Bool} (r : RI a F i out on) : ∀ j, j < out.length → aptC out j := fun j hj => by
  refine ⟨out[j], List.getElem?_eq_getElem hj, (r.rng _ (List.getElem_mem hj)).2.1, fun h0 => ⟨out[j - 1]'(by omega), List.getElem?_eq_getElem (by omega), ?_⟩⟩
  exact (List.pairwise_iff_getElem.1 r.apt) (j - 1) j (by omega) hj (by omega)
section
variable {ks : List Kt} {ops : List AOpr} {K : Kp} {e : Env} {h : Heap} {Q : Ex → Env → Heap → Prop} {d : Nat} {lent : Bool}
theorem Apart_p (l : List Pr) (hb : l.length < 4611686018427387904) (hok : ∀ p ∈ l, p.ok) (ha : ∀ i, i < l.length → aptC l i) : Xp T f_ref34_Apart (some ([.ps 2 (Pr.vs l)], lent)) h (some d) ops K ks e Q = Xo T ops K ks ((d, .bool true) :: e) h Q :=
  Xp_run (Apart_run l hb hok ha []) (by simp [vs_hf]) rfl (by simp [scalar])
end
theorem Ru_run (q : Aq) (ok : q.ok) (cut : Int) (hc0 : 0 ≤ cut) (hc1 : cut ≤ 255) : ∃ h', Run T f_law34_ResendRuns [.agg q.cs, .int .u8 cut] [] (.bool true) h' := by
  have q0 : q.cs[0]? = some (.ps 8 (rvs q.l)) := rfl
  have q1 : q.cs[1]? = some (.int .u64 q.next) := rfl
  have q2 : q.cs[2]? = some (.int .u64 q.a) := rfl
  have q3 : q.cs[3]? = some (.int .u64 q.b) := rfl
  have qon : q.cs.all V.one = true := rfl
  have ql : q.cs.length = 4 := rfl
  have qt : q.cs.take 4 = q.cs := rfl
  have rr : Heap.row [some q.cs] 0 = some q.cs := rfl
  obtain ⟨oa, ob, oc, od, oe, of, og⟩ := ok
  have lp := fun {ks ops K e h Q d lent} => light_p (ks := ks) (ops := ops) (K := K) (e := e) (h := h) (Q := Q) (d := d) (lent := lent) q oa ob
  have hr : ∃ v h', v = .bool true ∧ Run T f_law34_ResendRuns [.agg q.cs, .int .u8 cut] [] v h' := by
    refine Run.startP t_law34_ResendRuns ?_
    unfold k_law34_ResendRuns
    by_cases cl : litB q.l = true
    · by_cases c1 : q.b < q.a
      · simp (disch := omega) [qon, ql, qt, rr, lp, cl, q2, q3, c1, awakeR_p]
      · by_cases c2 : 255 < q.b - q.a
        · simp (disch := omega) [qon, ql, qt, rr, lp, cl, q2, q3, c1, c2, awakeR_p]
        · obtain ⟨l1, l2⟩ := litB_ok cl
          obtain ⟨p, g, x, nr⟩ := New_run q.l (by omega) l2 [some q.cs]
          have km := (kept_ok q.l).2.1
          have kl := (kept_ok q.l).2.2
          have kf : ∀ r, r ∈ keptL q.l → 0 ≤ r.fst := fun r hr => oc r (kept_mem hr)
          have rq : g.row 0 = some q.cs := by obtain ⟨⟨J, rfl⟩, _⟩ := x; rfl
          simp (disch := omega) [qon, ql, qt, rr, lp, cl, q0, q2, q3, c1, c2]
          rw [Xf_run nr]
          obtain ⟨J, rg⟩ := Range_run x (by omega) km kf q.next q.a q.b od og (by omega) (by omega)
          simp (disch := omega) [rq, q1, q2, q3]
          rw [Xf_run rg]
          have rqJ : Heap.row (g ++ J) 0 = some q.cs := by rw [row_app (row_lt rq)]; exact rq
          have rl := rngQ_len (keptL q.l) q.a q.next ((q.b - q.a).toNat + 1)
          have e : ((q.b - q.a).toNat : Int) = q.b - q.a := by omega
          have nu := rngQ_nums (keptL q.l) q.a q.next ((q.b - q.a).toNat + 1)
          have sts := rngQ_st (keptL q.l) q.a q.next ((q.b - q.a).toNat + 1)
          have lc := lost_cnt (rngQ (keptL q.l) q.a q.next ((q.b - q.a).toNat + 1))
          have cs := cnt_st _ sts
          obtain ⟨out, on, h', ri, ru⟩ := Runs_run (rngQ (keptL q.l) q.a q.next ((q.b - q.a).toNat + 1)) q.a (by omega) nu od (by omega)
          have ho : ∀ p, p ∈ out → p.ok := fun p hp => by
            obtain ⟨x1, x2, x3⟩ := ri.rng p hp
            exact ⟨by omega, by omega, by omega, by omega⟩
          have hap := ri.apart
          have hol := ri.len
          obtain ⟨C, hC, hCb⟩ : ∃ C : Nat, (C : Int) = cut % (q.b - q.a + 1) ∧ C ≤ (q.b - q.a).toNat := by
            have m0 := Int.emod_nonneg cut (b := q.b - q.a + 1) (by omega)
            have m1 := Int.emod_lt_of_pos cut (b := q.b - q.a + 1) (by omega)
            generalize cut % (q.b - q.a + 1) = m at *
            exact ⟨m.toNat, by omega, by omega⟩
          have tm : cut.tmod (q.b - q.a + 1) = C := by rw [Int.tmod_eq_emod_of_nonneg hc0]; exact hC.symm
          simp (disch := omega)
          rw [Xp_run ru (by simp [fqs_hf]) (by simp [vs_hf]) (by simp)]
          simp (disch := omega)
          have l0 := ru_loop0 (rngQ (keptL q.l) q.a q.next ((q.b - q.a).toNat + 1)) (by omega) q.a nu out on ri (.int .u8 cut) (.ptr 0 0) (.ptr p 0) (g ++ J) ((q.b - q.a).toNat + 1) 0 (by omega)
          simp only [List.take_zero] at l0
          refine l0 _ _ fun e => ?_
          clear l0
          simp (disch := omega) [rqJ, q1, q2, q3, tm]
          obtain ⟨J1, rg1⟩ := Range_run (x.app J) (by omega) km kf q.next q.a (q.a + C) od (by omega) (by omega) (by omega)
          have eC : (q.a + C - q.a).toNat = C := by omega
          rw [eC] at rg1
          rw [Xf_run rg1]
          have rqJ1 : Heap.row (g ++ J ++ J1) 0 = some q.cs := by rw [row_app (row_lt rqJ)]; exact rqJ
          by_cases cm : q.a + C < q.b
          · obtain ⟨J2, rg2⟩ := Range_run ((x.app J).app J1) (by omega) km kf q.next (q.a + C + 1) q.b (by omega) og (by omega) (by omega)
            have eA := rngQ_add (keptL q.l) q.a q.next (C + 1) ((q.b - (q.a + C + 1)).toNat + 1)
            have eN : C + 1 + ((q.b - (q.a + C + 1)).toNat + 1) = (q.b - q.a).toNat + 1 := by omega
            have eB : q.a + ((C + 1 : Nat) : Int) = q.a + C + 1 := by omega
            rw [eN, eB] at eA
            have fA : fqs (rngQ (keptL q.l) q.a q.next (C + 1)) ++ fqs (rngQ (keptL q.l) (q.a + C + 1) q.next ((q.b - (q.a + C + 1)).toNat + 1)) = fqs (rngQ (keptL q.l) q.a q.next ((q.b - q.a).toNat + 1)) := by rw [eA]; simp [fqs]
            have la := rngQ_len (keptL q.l) q.a q.next (C + 1)
            have lb := rngQ_len (keptL q.l) (q.a + C + 1) q.next ((q.b - (q.a + C + 1)).toNat + 1)
            have bd : (C + 1 + ((q.b - (q.a + C + 1)).toNat + 1)) * 32 ≤ 140737488355328 := by omega
            simp only [List.append_assoc] at rqJ1 rg2
            simp (disch := omega) [rqJ1, q1, q2, q3, cm]
            rw [Xf_run rg2]
            simp (disch := omega) [fqs_len, la, lb, bd, fA]
            refine ru_loop1 _ (by omega) _ _ _ (rngQ (keptL q.l) q.a q.next ((q.b - q.a).toNat + 1)).length 0 (by omega) _ _ fun e => ?_
            generalize rngQ (keptL q.l) q.a q.next ((q.b - q.a).toNat + 1) = L at *
            have b0 : cntQ L 0 ≤ 1000 := by omega
            have e0 : (cntQ L 0 : Int) = L.length - lostN L := by omega
            have e1 : (cntQ L 1 : Int) + cntQ L 2 = lostN L := by omega
            simp (disch := first | omega | assumption) [awakeR_p, Apart_p, Count_p, fqs_len, e0, e1]
          · have eN : C + 1 = (q.b - q.a).toNat + 1 := by omega
            simp only [List.append_assoc] at rqJ1
            simp (disch := omega) [rqJ1, q1, q2, q3, cm]
            rw [eN]
            refine ru_loop1 _ (by omega) _ _ _ (rngQ (keptL q.l) q.a q.next ((q.b - q.a).toNat + 1)).length 0 (by omega) _ _ fun e => ?_
            generalize rngQ (keptL q.l) q.a q.next ((q.b - q.a).toNat + 1) = L at *
            have b0 : cntQ L 0 ≤ 1000 := by omega
            have e0 : (cntQ L 0 : Int) = L.length - lostN L := by omega
            have e1 : (cntQ L 1 : Int) + cntQ L 2 = lostN L := by omega
            simp (disch := first | omega | assumption) [awakeR_p, Apart_p, Count_p, fqs_len, e0, e1]
    · have cl' : litB q.l = false := by simpa using cl
      simp (disch := omega) [qon, ql, qt, rr, lp, cl', awakeR_p]
  obtain ⟨v, h', rfl, r⟩ := hr
  exact ⟨h', r⟩
theorem law_ResendRuns (x0 x1 : V) (h0 : ∃ vs, x0 = .agg vs ∧ Row [.sl true 80 esR, .i .u64, .i .u64, .i .u64] vs) (h1 : Ty (.i .u8) x1) : ∃ h', Run T f_law34_ResendRuns [x0, x1] [] (.bool true) h' := by
  obtain ⟨vs, rfl, h⟩ := h0
  obtain ⟨q, rfl, ok⟩ := h.aq
  obtain ⟨n, rfl, n0, n1⟩ := h1.int
  exact Ru_run q ok n n0 n1
end Ev
