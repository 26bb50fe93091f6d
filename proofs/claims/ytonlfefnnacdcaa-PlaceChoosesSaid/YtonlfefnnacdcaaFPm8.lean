/- Choosing copies: place.Choose. Choosing copies: what the reference says can be freed. The law PlaceLess. The law PlaceLess, of any values. The law PlaceChooses. Each theorem states its own conditions. -/
import Derived.Test.YtonlfefnnacdcaaFCode
import Derived.Test.YtonlfefnnacdcaaFSo3l
set_option linter.all false
namespace Ev
open Go
set_option maxRecDepth 10000
attribute [-simp] getElem?_pos getElem?_neg
def hasAt (c : Cp) : Bool := decide (c.ats ≠ [])
def fst1 (c : Cp) : Pt := c.ats.headD ⟨0, 0⟩
def firsts (v : List Cp) : List Pt := v.map fst1
/-- What is chosen so far, in the heap. -/
def GrC (P : Nat) (w : List Cp) (bad : List Int) (g : Heap) : Prop :=
  (w = [] ∧ g.row P = some [.hn 3, .ps 1 (ints bad), .hn 2]) ∨
  (w ≠ [] ∧ ∃ vb lb, g.row P = some [.hs 3 vb 0 w.length, .ps 1 (ints bad), .hs 2 lb 0 w.length] ∧ g.row vb = some (crow w) ∧ g.row lb = some (pts (firsts w)) ∧ vb ≠ lb ∧ P ≠ vb ∧ P ≠ lb)
theorem cv_get (l : List Cp) (i : Nat) (h : i < l.length) : (Cp.vs l)[i]? = some l[i].v := by simp [Cp.vs, List.getElem?_eq_getElem h]
theorem cv_len (l : List Cp) : (Cp.vs l).length = l.length := by simp [Cp.vs]
theorem row_at2 (g w : Heap) (x y : Option (List V)) (i : Nat) (hi : i = g.length + 1) : Heap.row (g ++ x :: y :: w) i = y := by
  rw [show g ++ x :: y :: w = (g ++ [x]) ++ y :: w by simp]
  exact row_at _ _ _ _ (by simp [hi])
theorem row_at3 (g w : Heap) (x y z : Option (List V)) (i : Nat) (hi : i = g.length + 2) : Heap.row (g ++ x :: y :: z :: w) i = z := by
  rw [show g ++ x :: y :: z :: w = (g ++ [x, y]) ++ z :: w by simp]
  exact row_at _ _ _ _ (by simp [hi])
theorem cho_loop (P : Nat) (v : List Cp) (bad : List Int) (hv : v.length ≤ 1000) (hc : ∀ c ∈ v, c.ats.length ≤ 1000) : ∀ (m i : Nat) (w : List Cp) (g : Heap), i + m = v.length → w.length ≤ i → GrC P w bad g → ∀ ks Q,
    (∀ g', GrC P (w ++ (v.drop i).filter hasAt) bad g' → Xk T ks (.x 0) [(5, .ptr P 0), (11, .ps 3 (Cp.vs v)), (12, .int .i64 v.length), (13, .int .i64 v.length), (14, .bool false)] g' Q) →
    Xc T l_place_Choose_0 ks [(5, .ptr P 0), (11, .ps 3 (Cp.vs v)), (12, .int .i64 v.length), (13, .int .i64 i)] g Q := by
  intro m
  induction m with
  | zero =>
    intro i w g hi hw hg ks Q hx
    rw [L_place_Choose_0]; unfold bl_place_Choose_0
    have c1 : ¬ (i : Int) < v.length := by omega
    have e : v.drop i = [] := List.drop_eq_nil_of_le (by omega)
    rw [e] at hx
    have ei : (i : Int) = v.length := by omega
    rw [ei]
    simp (disch := omega)
    exact hx g (by simpa using hg)
  | succ m ih =>
    intro i w g hi hw hg ks Q hx
    rw [L_place_Choose_0]; unfold bl_place_Choose_0
    have hil : i < v.length := by omega
    have c1 : (i : Int) < v.length := by omega
    have e := List.drop_eq_getElem_cons hil
    rw [e] at hx
    have g1 := cv_get v i hil
    have hcc := hc v[i] (List.getElem_mem _)
    have ih := ih (i + 1)
    rw [show ((i + 1 : Nat) : Int) = (i : Int) + 1 from rfl] at ih
    obtain ⟨c, hc'⟩ : ∃ c, c = v[i] := ⟨_, rfl⟩
    rw [← hc'] at g1 hcc hx
    have pc : c.v.cells = [.int .i64 c.lpn, .int .i64 c.seq, .ps 2 (Pt.vs c.ats)] := rfl
    have ca : c.v = .agg [.int .i64 c.lpn, .int .i64 c.seq, .ps 2 (Pt.vs c.ats)] := rfl
    have sp : spliceL [V.int .i64 0, V.int .i64 0, V.ps 2 []] 0 [V.int .i64 c.lpn, V.int .i64 c.seq, V.ps 2 (Pt.vs c.ats)] = [V.int .i64 c.lpn, V.int .i64 c.seq, V.ps 2 (Pt.vs c.ats)] := rfl
    by_cases c2 : c.ats = []
    · have c3 : hasAt c = false := by simp [hasAt, c2]
      rw [List.filter_cons_of_neg (by simp [c3])] at hx
      have c4 : Pt.vs c.ats = [] := by rw [c2]; rfl
      rw [c4] at pc ca sp
      simp (disch := omega) [c1, hil, g1, pc, sp]
      refine ih w _ (by omega) (by omega) ?_ ks Q hx
      rcases hg with ⟨a1, a2⟩ | ⟨a1, vb, lb, a2, a3, a4, a5⟩
      · exact .inl ⟨a1, by rw [row_app (hlt a2)]; exact a2⟩
      · exact .inr ⟨a1, vb, lb, by rw [row_app (hlt a2)]; exact a2, by rw [row_app (hlt a3)]; exact a3, by rw [row_app (hlt a4)]; exact a4, a5⟩
    · have c3 : hasAt c = true := by simp [hasAt, c2]
      rw [List.filter_cons_of_pos c3] at hx
      obtain ⟨p, r, c4⟩ : ∃ p r, c.ats = p :: r := by
        cases h : c.ats with
        | nil => exact absurd h c2
        | cons p r => exact ⟨p, r, rfl⟩
      have c5 : Pt.vs c.ats = p.v :: Pt.vs r := by rw [c4]; rfl
      have c6 : fst1 c = p := by simp [fst1, c4]
      have pl := pt_len c.ats
      have cpos : 0 < c.ats.length := by rw [c4]; simp
      rcases hg with ⟨rfl, h1⟩ | ⟨hne, vb, lb, h1, h2, h3, h4, h5, h6⟩
      · have Pl := hlt h1
        simp (disch := omega) [c1, hil, g1, pc, sp, pl, cpos, h1]
        apply Xc_regf
        have q0 : (Pt.vs c.ats)[0]? = some p.v := by rw [c5]; rfl
        have q1 : p.v.cells = [.int .i64 p.b, .int .i64 p.k] := rfl
        have rA : ∀ x w, Heap.row (g ++ x :: w) g.length = x := fun x w => row_at _ _ _ _ rfl
        have sP : ∀ x w, Heap.row (List.set g P x ++ w) P = x := fun x w => by rw [row_app (by simpa using Pl), row_set Pl]
        simp (disch := omega) [h1, pl, cpos, rA, q0, q1, sP]
        simp (disch := omega) [flagsIn, flagP, evOp, h1, pl, cpos, rA, q0, q1, sP]
        refine ih [c] _ (by omega) (by simp) (.inr ⟨by simp, g.length + 1, g.length + 2, ?_, ?_, ?_, by omega, by omega, by omega⟩) ks Q (by simpa using hx)
        · exact row_set (by simp; omega)
        · rw [row_ne (by omega), row_at2 _ _ _ _ _ (by simp)]
          simp [crow, Cp.cs]
        · rw [row_ne (by omega), row_at3 _ _ _ _ _ _ (by simp)]
          simp [pts, firsts, c6, Pt.cs]
      · have Pl := hlt h1
        have Vl := hlt h2
        have Ll := hlt h3
        have q0 : (Pt.vs c.ats)[0]? = some p.v := by rw [c5]; rfl
        have q1 : p.v.cells = [.int .i64 p.b, .int .i64 p.k] := rfl
        have rA : ∀ x w, Heap.row (g ++ x :: w) g.length = x := fun x w => row_at _ _ _ _ rfl
        have crl := crow_len w
        have prl := pts_len (firsts w)
        have fsl : (firsts w).length = w.length := by simp [firsts]
        simp (disch := omega) [c1, hil, g1, pc, sp, pl, cpos, h1, rA]
        apply Xc_regf
        have sVP : ∀ w', Heap.row (List.set g vb none ++ w') P = some [.hs 3 vb 0 w.length, .ps 1 (ints bad), .hs 2 lb 0 w.length] := fun w' => by rw [row_app (by simpa using Pl), row_ne (fun e => h5 e.symm)]; exact h1
        have sVL : ∀ w', Heap.row (List.set g vb none ++ w') lb = some (pts (firsts w)) := fun w' => by rw [row_app (by simpa using Ll), row_ne h4]; exact h3
        have sVg : ∀ x w', Heap.row (List.set g vb none ++ x :: w') g.length = x := fun x w' => row_at _ _ _ _ (by simp)
        have lY : ∀ w1 : Heap, P < ((List.set g vb none ++ w1).set lb none).length := fun w1 => by simp; omega
        have sYP : ∀ w1 w2, Heap.row ((List.set g vb none ++ w1).set lb none ++ w2) P = some [.hs 3 vb 0 w.length, .ps 1 (ints bad), .hs 2 lb 0 w.length] := fun w1 w2 => by rw [row_app (lY _), row_ne (fun e => h6 e.symm)]; exact sVP _
        have sYS : ∀ w1 w2 x, Heap.row (((List.set g vb none ++ w1).set lb none ++ w2).set P x) P = x := fun w1 w2 x => row_set (by have := lY w1; simp at this ⊢; omega)
        have sYT : ∀ w1 w2 x, Heap.row (((List.set g vb none ++ w1).set lb none).set P x ++ w2) P = x := fun w1 w2 x => by rw [row_app (by have := lY w1; simp at this ⊢; omega)]; exact row_set (lY _)
        simp (disch := omega) [h1, h2, pl, cpos, rA, q0, q1, crl, sVP, sVL, sVg, fsl, prl, sYP, sYS, sYT]
        simp (disch := omega) [flagsIn, flagP, evOp, h1, h2, pl, cpos, rA, q0, q1, crl, sVP, sVL, sVg, fsl, prl, sYP, sYS, sYT]
        refine ih (w ++ [c]) _ (by omega) (by simp; omega) (.inr ⟨by simp, g.length + 1, g.length + 2, ?_, ?_, ?_, by omega, by omega, by omega⟩) ks Q (by simpa using hx)
        · rw [List.length_append]; exact row_set (by simp; omega)
        · rw [row_ne (by omega), row_app (by simp), row_ne (by omega), row_at2 _ _ _ _ _ (by simp)]
          simp [crow, Cp.cs]
        · rw [row_ne (by omega), row_at _ _ _ _ (by simp)]
          simp [pts, firsts, c6, Pt.cs]
/-- shrink, where nothing is chosen. -/
theorem shrink0 (P : Nat) (bad : List Int) (g : Heap) (hr : g.row P = some [.hn 3, .ps 1 (ints bad), .hn 2]) : Run T f_place_choice_shrink [.ptr P 0] g (.bool false) g := by
  have ru : Run T f_place_Used [.hn 2] g (.ps 1 []) g := by
    refine Run.start t_place_Used ?_
    unfold k_place_Used
    simp (disch := omega)
    rw [L_place_Used_0]; unfold bl_place_Used_0
    simp (disch := omega)
    rw [Xf_run (Sort_hn _)]
    simp (disch := omega)
    rw [Xf_run (CompactP_hn _)]
    simp (disch := omega)
  refine Run.start t_place_choice_shrink ?_
  unfold k_place_choice_shrink
  simp (disch := omega) [hr]
  rw [Xf_run ru]
  simp (disch := omega)
  rw [L_place_choice_shrink_0]; unfold bl_place_choice_shrink_0
  simp (disch := omega)
theorem Choose_run (v : List Cp) (bad : List Int) (hv : v.length ≤ 60) (hb : bad.length ≤ 1000) (hc : ∀ c ∈ v, c.ats.length ≤ 1000) :
    ∃ r h', ((v.filter hasAt = [] ∧ r = []) ∨ (v.filter hasAt ≠ [] ∧ ∃ n, n ≤ v.length ∧ Fin' (v.filter hasAt) bad n (firsts (v.filter hasAt)) r)) ∧ Run T f_place_Choose [.ps 3 (Cp.vs v), .ps 1 (ints bad)] [] (.ps 2 (Pt.vs r)) h' := by
  obtain ⟨w, hw⟩ : ∃ w, w = v.filter hasAt := ⟨_, rfl⟩
  have wl : w.length ≤ v.length := by rw [hw]; exact List.length_filter_le _ _
  rw [← hw]
  have l0 := cho_loop 0 v bad (by omega) hc v.length 0 [] [some [.hn 3, .ps 1 (ints bad), .hn 2]] (by omega) (by simp) (.inl ⟨rfl, rfl⟩)
  rw [List.drop_zero, List.nil_append, ← hw] at l0
  obtain ⟨n, r, hn, hf⟩ : ∃ n r, n ≤ v.length ∧ Fin' w bad n (firsts w) r := by
    have ex : ∀ l : List Pt, l.length = w.length → ∃ U, IsU U l := fun l hl => by
      obtain ⟨s, h1, h2, _⟩ := Blocks_run l (by omega) []
      exact ⟨s, h1, h2⟩
    obtain ⟨U, g', h1, h2, _, h3, _⟩ := Used_run (firsts w) (by simp [firsts]; omega) []
    have h4 : (firsts w).length = w.length := by simp [firsts]
    obtain ⟨m, r, h5, h6⟩ := fin_ex w bad ex w.length (firsts w) U h4 ⟨h1, h2⟩ (by omega)
    exact ⟨m, r, by omega, h6⟩
  by_cases hne : w = []
  · refine ⟨[], ?_⟩
    obtain ⟨u, h', ev, rr⟩ := Run.startP (P := fun u h' => u = .ps 2 []) (vs := [.ps 3 (Cp.vs v), .ps 1 (ints bad)]) (h := []) t_place_Choose (by
      unfold k_place_Choose
      simp (disch := omega) [cv_len]
      refine l0 _ _ fun g' hg => ?_
      rcases hg with ⟨_, h1⟩ | ⟨h1, _⟩
      · simp (disch := omega)
        rw [L_place_Choose_1]; unfold bl_place_Choose_1
        simp (disch := omega)
        rw [Xf_run (shrink0 0 bad g' h1)]
        simp (disch := omega) [h1]
      · exact absurd hne h1)
    subst ev
    exact ⟨h', .inl ⟨hne, rfl⟩, rr⟩
  · refine ⟨r, ?_⟩
    obtain ⟨u, h', ev, rr⟩ := Run.startP (P := fun u h' => u = .ps 2 (Pt.vs r)) (vs := [.ps 3 (Cp.vs v), .ps 1 (ints bad)]) (h := []) t_place_Choose (by
      unfold k_place_Choose
      simp (disch := omega) [cv_len]
      refine l0 _ _ fun g' hg => ?_
      rcases hg with ⟨h1, _⟩ | ⟨_, vb, lb, h1, h2, h3, h4, h5, h6⟩
      · exact absurd h1 hne
      · have fl : (firsts w).length = w.length := by simp [firsts]
        simp (disch := omega)
        refine again_loop (P := 0) (vb := vb) (v := w) (bad := bad) (by omega) hb (fun c hc' => hc c (by rw [hw] at hc'; exact (List.mem_filter.1 hc').1)) hne h5 n (firsts w) r hf _ g' ⟨h1, h2, .inr ⟨lb, by rw [fl], h3⟩, fl.symm⟩ _ _ (fun g2 rv ch => ?_) _ (.inr (.inr ⟨_, _, _, _, rfl⟩))
        rcases ch.lrow with rfl | ⟨o, rfl, ho⟩
        · simp (disch := omega)
        · have fz := fzPt g2 o r ho
          simp (disch := omega)
          rw [fz]
          simp only [Option.bind_some, epiP_some]
          rfl)
    subst ev
    exact ⟨h', .inr ⟨hne, n, hn, hf⟩, rr⟩
theorem awake20 : ∃ h', Run T f_law20_awake [] [] (.bool true) h' := Run.closed (n := 300) (by kernel_rfl)
section
variable {ks : List Kt} {ops : List AOpr} {K : Kp} {e : Env} {h : Heap} {Q : Ex → Env → Heap → Prop} {d : Nat} {lent : Bool}
theorem awake20_p : Xp T f_law20_awake (some ([], lent)) h (some d) ops K ks e Q = Xo T ops K ks ((d, .bool true) :: e) h Q := by
  obtain ⟨h', r⟩ := awake20
  exact Xp_run r rfl rfl (by simp [scalar])
end
@[simp] theorem ccs_len (c : Cp) : c.cs.length = 3 := rfl
@[simp] theorem ccs_take (c : Cp) : c.cs.take 3 = c.cs := rfl
theorem cv_hf (l : List Cp) : V.hfs (Cp.vs l) = true := by
  induction l with
  | nil => rfl
  | cons x l ih =>
    have : V.hfs (Pt.vs x.ats) = true := pt_hf _
    show (V.hf x.v && V.hfs (Cp.vs l)) = true
    rw [ih]
    simp [Cp.v, Cp.cs, V.hf, V.hfs, this]
def fewS (v : List Cp) : List Cp := (v.take 40).filter fun c => decide (0 < c.ats.length) && decide (c.ats.length ≤ 6)
theorem few_loop (v : List Cp) (hv : v.length < 4611686018427387904) (hc : ∀ c ∈ v, c.ats.length < 4611686018427387904) (h : Heap) : ∀ (m i : Nat), i + m = min v.length 40 → ∀ ks Q,
    (∀ z, Xk T ks (.x 0) ((0, .ps 3 (Cp.vs v)) :: (3, .ps 3 (Cp.vs (fewS v))) :: z) h Q) →
    Xc T l_law20_few_0 ks [(0, .ps 3 (Cp.vs v)), (3, .ps 3 (Cp.vs ((v.take i).filter fun c => decide (0 < c.ats.length) && decide (c.ats.length ≤ 6)))), (4, .int .i64 i)] h Q := by
  intro m
  induction m with
  | zero =>
    intro i hi ks Q hx
    rw [L_law20_few_0]; unfold bl_law20_few_0
    have e : v.take i = v.take 40 := by
      rcases Nat.le_total v.length 40 with c | c
      · rw [List.take_of_length_le (by omega), List.take_of_length_le c]
      · congr 1; omega
    rw [e]
    by_cases c1 : (i : Int) < v.length
    · have c2 : ¬ (i : Int) < 40 := by omega
      simp (disch := omega) [c1, c2, cv_len]
      exact hx _
    · simp (disch := omega) [c1, cv_len]
      exact hx _
  | succ m ih =>
    intro i hi ks Q hx
    rw [L_law20_few_0]; unfold bl_law20_few_0
    have hil : i < v.length := by omega
    have c1 : (i : Int) < v.length := by omega
    have c2 : (i : Int) < 40 := by omega
    have g1 := cv_get v i hil
    have hcc := hc v[i] (List.getElem_mem _)
    have ih := ih (i + 1) (by omega) ks Q hx
    have sl : ((v.take i).filter fun c => decide (0 < c.ats.length) && decide (c.ats.length ≤ 6)).length ≤ 40 := Nat.le_trans (List.length_filter_le _ _) (by rw [List.length_take]; omega)
    rw [show ((i + 1 : Nat) : Int) = (i : Int) + 1 from rfl, List.take_succ_eq_append_getElem hil, List.filter_append] at ih
    obtain ⟨c, hc'⟩ : ∃ c, c = v[i] := ⟨_, rfl⟩
    rw [← hc'] at g1 hcc ih
    generalize ((v.take i).filter fun c => decide (0 < c.ats.length) && decide (c.ats.length ≤ 6)) = S at *
    have pc : c.v.cells = [.int .i64 c.lpn, .int .i64 c.seq, .ps 2 (Pt.vs c.ats)] := rfl
    have ca : c.v = .agg [.int .i64 c.lpn, .int .i64 c.seq, .ps 2 (Pt.vs c.ats)] := rfl
    have sb : (S.length + 1) * 40 ≤ 140737488355328 := by omega
    have va : Cp.vs (S ++ [c]) = Cp.vs S ++ [.agg [.int .i64 c.lpn, .int .i64 c.seq, .ps 2 (Pt.vs c.ats)]] := by simp [Cp.vs, ca]
    by_cases c3 : 0 < c.ats.length
    · by_cases c4 : c.ats.length ≤ 6
      · have c5 : (c.ats.length : Int) ≤ 6 := by omega
        have fe : [c].filter (fun c => decide (0 < c.ats.length) && decide (c.ats.length ≤ 6)) = [c] := by simp [c3, c4]
        rw [fe, va] at ih
        simp (disch := omega) [c1, c2, cv_len, pt_len, g1, pc, c3, c4, c5, sb]
        exact ih
      · have c5 : ¬ (c.ats.length : Int) ≤ 6 := by omega
        have fe : [c].filter (fun c => decide (0 < c.ats.length) && decide (c.ats.length ≤ 6)) = [] := by simp [c4]
        rw [fe, List.append_nil] at ih
        simp (disch := omega) [c1, c2, cv_len, pt_len, g1, pc, c3, c4, c5]
        exact ih
    · have fe : [c].filter (fun c => decide (0 < c.ats.length) && decide (c.ats.length ≤ 6)) = [] := by simp [c3]
      rw [fe, List.append_nil] at ih
      simp (disch := omega) [c1, c2, cv_len, pt_len, g1, pc, c3]
      exact ih
theorem few_run (v : List Cp) (hv : v.length < 4611686018427387904) (hc : ∀ c ∈ v, c.ats.length < 4611686018427387904) (h : Heap) : Run T f_law20_few [.ps 3 (Cp.vs v)] h (.ps 3 (Cp.vs (fewS v))) h := by
  refine Run.start t_law20_few ?_
  unfold k_law20_few
  simp (disch := omega)
  refine few_loop v hv hc h (min v.length 40) 0 (by omega) _ _ fun z => ?_
  simp (disch := omega)
theorem Oth_loop (c : Cp) (l : List Pt) (bad : List Int) (b : Int) (hc : c.ats.length ≤ 1000) (hl : l.length ≤ 1000) (hb : bad.length ≤ 1000) (h : Heap) (P : Nat) (hP : h.row P = some c.cs) : ∀ (m i : Nat), i + m = c.ats.length → ∀ ks Q,
    (fIx2t (okF l bad b) (c.ats.drop i) i = -1 → ∀ z, Xk T ks (.x 0) z h Q) →
    (fIx2t (okF l bad b) (c.ats.drop i) i ≠ -1 → Xk T ks .r [(8, .int .i64 (fIx2t (okF l bad b) (c.ats.drop i) i))] h Q) →
    Xc T l_ref20_Other_0 ks [(1, .ps 2 (Pt.vs l)), (2, .ps 1 (ints bad)), (3, .int .i64 b), (4, .ptr P 0), (9, .int .i64 i)] h Q := by
  have cc : c.cs = [.int .i64 c.lpn, .int .i64 c.seq, .ps 2 (Pt.vs c.ats)] := rfl
  rw [cc] at hP
  have hp := fun {ks ops K e h Q d lent} x => Has_p (ks := ks) (ops := ops) (K := K) (e := e) (h := h) (Q := Q) (d := d) (lent := lent) bad x (by omega)
  have ip := fun {ks ops K e h Q d lent} x => RIn_p (ks := ks) (ops := ops) (K := K) (e := e) (h := h) (Q := Q) (d := d) (lent := lent) l x hl
  intro m
  induction m with
  | zero =>
    intro i hi ks Q h1 h2
    have e : c.ats.drop i = [] := List.drop_eq_nil_of_le (by omega)
    rw [e] at h1
    have c1 : ¬ (i : Int) < c.ats.length := by omega
    rw [L_ref20_Other_0]; unfold bl_ref20_Other_0
    simp (disch := omega) [c1, pt_len, hP]
    exact h1 rfl _
  | succ m ih =>
    intro i hi ks Q h1 h2
    have hil : i < c.ats.length := by omega
    have e := List.drop_eq_getElem_cons hil
    rw [e] at h1 h2
    have c1 : (i : Int) < c.ats.length := by omega
    have g1 := pt_at c.ats i hil
    have pc := pt_cells c.ats[i]
    have ih := ih (i + 1) (by omega) ks Q
    rw [show ((i + 1 : Nat) : Int) = (i : Int) + 1 from rfl] at ih
    obtain ⟨q, hq⟩ : ∃ q, q = c.ats[i] := ⟨_, rfl⟩
    rw [← hq] at g1 h1 h2 pc
    simp only [fIx2t] at h1 h2
    rw [L_ref20_Other_0]; unfold bl_ref20_Other_0
    by_cases c2 : q.b = b
    · have k : okF l bad b q = false := by simp [okF, useF, c2]
      rw [k] at h1 h2
      simp (disch := omega) [c1, pt_len, hP, g1, pc, c2]
      exact ih h1 h2
    · by_cases c3 : q.b ∈ bad
      · have k : okF l bad b q = false := by simp [okF, useF, c3]
        rw [k] at h1 h2
        simp (disch := omega) [c1, pt_len, hP, g1, pc, c2, hp, c3]
        exact ih h1 h2
      · by_cases c4 : q.b ∈ blkOf l
        · have k : okF l bad b q = true := by simp [okF, useF, c2, c3, c4]
          rw [k] at h2
          simp (disch := omega) [c1, pt_len, hP, g1, pc, c2, hp, c3, ip, c4]
          exact h2 (by simp)
        · have k : okF l bad b q = false := by simp [okF, c4]
          rw [k] at h1 h2
          simp (disch := omega) [c1, pt_len, hP, g1, pc, c2, hp, c3, ip, c4]
          exact ih h1 h2
theorem Other_run (c : Cp) (l : List Pt) (bad : List Int) (b : Int) (hc : c.ats.length ≤ 1000) (hl : l.length ≤ 1000) (hb : bad.length ≤ 1000) (h : Heap) : Run T f_ref20_Other [.agg c.cs, .ps 2 (Pt.vs l), .ps 1 (ints bad), .int .i64 b] h (.int .i64 (fIx2t (okF l bad b) c.ats 0)) (h ++ [some c.cs]) := by
  have cc : c.cs = [.int .i64 c.lpn, .int .i64 c.seq, .ps 2 (Pt.vs c.ats)] := rfl
  have lp := Oth_loop c l bad b hc hl hb (h ++ [some c.cs]) h.length (row_at _ _ _ _ rfl) c.ats.length 0 (by omega)
  rw [List.drop_zero, cc] at lp
  rw [cc]
  refine Run.start t_ref20_Other ?_
  unfold k_ref20_Other
  simp (disch := omega)
  refine lp _ _ (fun h z => ?_) (fun h => ?_)
  · have h : fIx2t (okF l bad b) c.ats 0 = -1 := h
    simp [h]
  · have h : ¬ fIx2t (okF l bad b) c.ats 0 = -1 := h
    simp [h]
section
variable {ks : List Kt} {ops : List AOpr} {K : Kp} {e : Env} {h : Heap} {Q : Ex → Env → Heap → Prop} {d : Nat} {lent : Bool}
theorem Other_p (c : Cp) (l : List Pt) (bad : List Int) (b : Int) (hc : c.ats.length ≤ 1000) (hl : l.length ≤ 1000) (hb : bad.length ≤ 1000) : Xp T f_ref20_Other (some ([.agg c.cs, .ps 2 (Pt.vs l), .ps 1 (ints bad), .int .i64 b], lent)) h (some d) ops K ks e Q = Xo T ops K ks ((d, .int .i64 (fIx2t (okF l bad b) c.ats 0)) :: e) h Q := by
  have k := pt_hf c.ats
  exact Xp_run (Other_run c l bad b hc hl hb []) (by simp [pt_hf, ints_hfs, Cp.cs, V.hf, V.hfs, k]) rfl (by simp [scalar])
end
theorem Can_loop (v : List Cp) (l : List Pt) (bad : List Int) (b : Int) (hv : v.length = l.length) (hc : ∀ c ∈ v, c.ats.length ≤ 1000) (hl : l.length ≤ 1000) (hb : bad.length ≤ 1000) (h : Heap) : ∀ (m i : Nat), i + m = l.length → ∀ ks Q,
    (mvF (okF l bad b) b (v.drop i) (l.drop i) ≠ none → ∀ z, Xk T ks (.x 0) z h Q) →
    (mvF (okF l bad b) b (v.drop i) (l.drop i) = none → Xk T ks .r [(8, .bool false)] h Q) →
    Xc T l_ref20_Can_0 ks [(0, .ps 3 (Cp.vs v)), (1, .ps 2 (Pt.vs l)), (2, .ps 1 (ints bad)), (3, .int .i64 b), (9, .int .i64 i)] h Q := by
  intro m
  induction m with
  | zero =>
    intro i hi ks Q h1 h2
    have e : l.drop i = [] := List.drop_eq_nil_of_le (by omega)
    have e2 : mvF (okF l bad b) b (v.drop i) (l.drop i) = some [] := by rw [e]; cases v.drop i <;> rfl
    rw [e2] at h1
    have c1 : ¬ (i : Int) < l.length := by omega
    rw [L_ref20_Can_0]; unfold bl_ref20_Can_0
    simp (disch := omega) [c1, pt_len]
    exact h1 (by simp) _
  | succ m ih =>
    intro i hi ks Q h1 h2
    have hil : i < l.length := by omega
    have hiv : i < v.length := by omega
    have el := List.drop_eq_getElem_cons hil
    have ev := List.drop_eq_getElem_cons hiv
    rw [el, ev] at h1 h2
    have c1 : (i : Int) < l.length := by omega
    have c2 : (i : Int) < v.length := by omega
    have g1 := pt_at l i hil
    have g2 := cv_get v i hiv
    have pc := pt_cells l[i]
    have hcc := hc v[i] (List.getElem_mem _)
    have ih := ih (i + 1) (by omega) ks Q
    rw [show ((i + 1 : Nat) : Int) = (i : Int) + 1 from rfl] at ih
    obtain ⟨p, hp⟩ : ∃ p, p = l[i] := ⟨_, rfl⟩
    obtain ⟨c, hc'⟩ : ∃ c, c = v[i] := ⟨_, rfl⟩
    rw [← hp] at g1 pc h1 h2
    rw [← hc'] at g2 hcc h1 h2
    have vc : c.v.cells = c.cs := rfl
    have op := fun {ks ops K e h Q d lent} => Other_p (ks := ks) (ops := ops) (K := K) (e := e) (h := h) (Q := Q) (d := d) (lent := lent) c l bad b hcc hl hb
    rw [L_ref20_Can_0]; unfold bl_ref20_Can_0
    by_cases c3 : p.b = b
    · have mv : mvF (okF l bad b) b (c :: v.drop (i + 1)) (p :: l.drop (i + 1)) = (c.ats.find? (okF l bad b)).bind fun q => (mvF (okF l bad b) b (v.drop (i + 1)) (l.drop (i + 1))).map (q :: ·) := by simp only [mvF, if_pos c3]
      rw [mv] at h1 h2
      rcases fIx2_find (okF l bad b) c.ats 0 with ⟨f1, f2⟩ | ⟨k, f1, hk, f2⟩
      · rw [f2] at h2
        rw [f1] at op
        simp (disch := omega) [c1, c2, pt_len, cv_len, g1, g2, pc, vc, c3, op, hiv]
        exact h2 rfl
      · rw [f2] at h1 h2
        rw [f1] at op
        have k1 : ¬ ((k : Int) < 0) := by omega
        simp (disch := omega) [c1, c2, pt_len, cv_len, g1, g2, pc, vc, c3, op, hiv, k1]
        exact ih (fun q => h1 (by simpa using q)) (fun q => h2 (by simp [q]))
    · have mv : mvF (okF l bad b) b (c :: v.drop (i + 1)) (p :: l.drop (i + 1)) = (mvF (okF l bad b) b (v.drop (i + 1)) (l.drop (i + 1))).map (p :: ·) := by simp only [mvF, if_neg c3]
      rw [mv] at h1 h2
      simp (disch := omega) [c1, c2, pt_len, cv_len, g1, g2, pc, vc, c3, hiv]
      exact ih (fun q => h1 (by simpa using q)) (fun q => h2 (by simp [q]))
def canS (v : List Cp) (l : List Pt) (bad : List Int) (b : Int) : Bool := !decide (b ∈ bad) && decide (b ∈ blkOf l) && (othS v bad l b).isSome
theorem Can_run (v : List Cp) (l : List Pt) (bad : List Int) (b : Int) (hv : v.length = l.length) (hc : ∀ c ∈ v, c.ats.length ≤ 1000) (hl : l.length ≤ 1000) (hb : bad.length ≤ 1000) (h : Heap) : Run T f_ref20_Can [.ps 3 (Cp.vs v), .ps 2 (Pt.vs l), .ps 1 (ints bad), .int .i64 b] h (.bool (canS v l bad b)) h := by
  refine Run.start t_ref20_Can ?_
  unfold k_ref20_Can
  have hp := fun {ks ops K e h Q d lent} x => Has_p (ks := ks) (ops := ops) (K := K) (e := e) (h := h) (Q := Q) (d := d) (lent := lent) bad x (by omega)
  have ip := fun {ks ops K e h Q d lent} x => RIn_p (ks := ks) (ops := ops) (K := K) (e := e) (h := h) (Q := Q) (d := d) (lent := lent) l x hl
  by_cases c1 : b ∈ bad
  · simp (disch := omega) [hp, c1, canS]
  · by_cases c2 : b ∈ blkOf l
    · simp (disch := omega) [hp, ip, c1, c2]
      refine Can_loop v l bad b hv hc hl hb h l.length 0 (by omega) _ _ (fun q z => ?_) (fun q => ?_)
      · have q : othS v bad l b ≠ none := q
        have q2 := Option.isSome_iff_ne_none.2 q
        simp (disch := omega) [canS, c1, c2, q2]
      · have q : othS v bad l b = none := q
        simp (disch := omega) [canS, c1, c2, q]
    · simp (disch := omega) [hp, ip, c1, c2, canS]
section
variable {ks : List Kt} {ops : List AOpr} {K : Kp} {e : Env} {h : Heap} {Q : Ex → Env → Heap → Prop} {d : Nat} {lent : Bool}
theorem Can_p (v : List Cp) (l : List Pt) (bad : List Int) (b : Int) (hv : v.length = l.length) (hc : ∀ c ∈ v, c.ats.length ≤ 1000) (hl : l.length ≤ 1000) (hb : bad.length ≤ 1000) : Xp T f_ref20_Can (some ([.ps 3 (Cp.vs v), .ps 2 (Pt.vs l), .ps 1 (ints bad), .int .i64 b], lent)) h (some d) ops K ks e Q = Xo T ops K ks ((d, .bool (canS v l bad b)) :: e) h Q :=
  Xp_run (Can_run v l bad b hv hc hl hb []) (by simp [pt_hf, cv_hf, ints_hfs]) rfl (by simp [scalar])
end
theorem few_all (v : List Cp) : ∀ c ∈ fewS v, hasAt c = true ∧ c.ats.length ≤ 1000 := fun c hc => by
  have := (List.mem_filter.1 hc).2
  simp only [Bool.and_eq_true, decide_eq_true_eq] at this
  refine ⟨?_, by omega⟩
  simp only [hasAt, decide_eq_true_eq]
  intro e
  rw [e] at this
  simp at this
theorem few_len (v : List Cp) : (fewS v).length ≤ 40 := Nat.le_trans (List.length_filter_le _ _) (by rw [List.length_take]; omega)
theorem Ty.pts {b : Nat} {x : V} (h : Ty (.sl true b [.i .i64, .i .i64]) x) (hb : 0 < b) : ∃ l : List Pt, x = .ps 2 (Pt.vs l) ∧ l.length ≤ 140737488351232 := by
  cases h with
  | sl ag b es xs hn hs ha ho k =>
    have one : ∀ i (hi : i < xs.length), ∃ p : Pt, xs[i] = p.v := fun i hi => by
      obtain ⟨vs, hv⟩ := ha xs[i] (List.getElem_mem _) rfl
      have hl := hs xs[i] (List.getElem_mem _)
      rw [hv] at hl
      have k0 := k i hi 0 (by simp) (by rw [hv]; simpa [V.cells] using (by simpa [V.cells] using hl : vs.length = 2) ▸ (by omega : 0 < 2))
      have k1 := k i hi 1 (by simp) (by rw [hv]; simpa [V.cells] using (by simpa [V.cells] using hl : vs.length = 2) ▸ (by omega : 1 < 2))
      simp only [hv] at k0 k1
      match vs, hl, hv, k0, k1 with
      | [a, c], _, hv, k0, k1 =>
        simp only [V.cells, List.getElem_cons_zero, List.getElem_cons_succ] at k0 k1
        obtain ⟨m, rfl, _⟩ := k0.int
        obtain ⟨n, rfl, _⟩ := k1.int
        exact ⟨⟨m, n⟩, hv⟩
    have all : ∀ k, k ≤ xs.length → ∃ l : List Pt, Pt.vs l = xs.take k := by
      intro k
      induction k with
      | zero => exact fun _ => ⟨[], by simp [Pt.vs]⟩
      | succ k ih =>
        intro hk
        obtain ⟨l, h1⟩ := ih (by omega)
        obtain ⟨p, h3⟩ := one k (by omega)
        refine ⟨l ++ [p], ?_⟩
        rw [List.take_succ, List.getElem?_eq_getElem (by omega), ← h1, h3]; simp [Pt.vs]
    obtain ⟨l, h1⟩ := all xs.length (Nat.le_refl _)
    rw [List.take_length] at h1
    refine ⟨l, by rw [h1]; rfl, ?_⟩
    have e : l.length = xs.length := by rw [← h1]; simp [Pt.vs]
    rw [e]
    exact Nat.le_trans (Nat.le_mul_of_pos_right _ hb) hn
theorem Ty.cps {b : Nat} {x : V} (h : Ty (.sl true b [.i .i64, .i .i64, .sl true 16 [.i .i64, .i .i64]]) x) (hb : 0 < b) : ∃ l : List Cp, x = .ps 3 (Cp.vs l) ∧ l.length ≤ 140737488351232 ∧ ∀ c ∈ l, c.ats.length ≤ 140737488351232 := by
  cases h with
  | sl ag b es xs hn hs ha ho k =>
    have one : ∀ i (hi : i < xs.length), ∃ c : Cp, xs[i] = c.v ∧ c.ats.length ≤ 140737488351232 := fun i hi => by
      obtain ⟨vs, hv⟩ := ha xs[i] (List.getElem_mem _) rfl
      have hl := hs xs[i] (List.getElem_mem _)
      rw [hv] at hl
      have h3 : vs.length = 3 := by simpa [V.cells] using hl
      have k0 := k i hi 0 (by simp) (by rw [hv]; show 0 < vs.length; omega)
      have k1 := k i hi 1 (by simp) (by rw [hv]; show 1 < vs.length; omega)
      have k2 := k i hi 2 (by simp) (by rw [hv]; show 2 < vs.length; omega)
      simp only [hv] at k0 k1 k2
      match vs, h3, hv, k0, k1, k2 with
      | [a, c, d], _, hv, k0, k1, k2 =>
        simp only [V.cells, List.getElem_cons_zero, List.getElem_cons_succ] at k0 k1 k2
        obtain ⟨m, rfl, _⟩ := k0.int
        obtain ⟨n, rfl, _⟩ := k1.int
        obtain ⟨l, rfl, hql⟩ := k2.pts (by omega)
        exact ⟨⟨m, n, l⟩, hv, hql⟩
    have all : ∀ k, k ≤ xs.length → ∃ l : List Cp, Cp.vs l = xs.take k ∧ ∀ c ∈ l, c.ats.length ≤ 140737488351232 := by
      intro k
      induction k with
      | zero => exact fun _ => ⟨[], by simp [Cp.vs], by simp⟩
      | succ k ih =>
        intro hk
        obtain ⟨l, h1, h2⟩ := ih (by omega)
        obtain ⟨p, h3, h4⟩ := one k (by omega)
        refine ⟨l ++ [p], ?_, fun q hq => ?_⟩
        · rw [List.take_succ, List.getElem?_eq_getElem (by omega), ← h1, h3]; simp [Cp.vs]
        · rcases List.mem_append.1 hq with hq | hq
          · exact h2 q hq
          · rw [List.mem_singleton.1 hq]; exact h4
    obtain ⟨l, h1, h2⟩ := all xs.length (Nat.le_refl _)
    rw [List.take_length] at h1
    refine ⟨l, by rw [h1]; rfl, ?_, h2⟩
    have e : l.length = xs.length := by rw [← h1]; simp [Cp.vs]
    rw [e]
    exact Nat.le_trans (Nat.le_mul_of_pos_right _ hb) hn
theorem rc_loop0 (v : List Cp) (bad : List Int) (hv : v.length ≤ 1000) (hh : ∀ c ∈ v, hasAt c = true) (hc : ∀ c ∈ v, c.ats.length ≤ 1000) (h : Heap) : ∀ (m i : Nat), i + m = v.length → ∀ ks Q,
    (∀ z, Xk T ks (.x 0) ((0, .ps 3 (Cp.vs v)) :: (1, .ps 1 (ints bad)) :: (5, .ps 2 (Pt.vs (firsts v))) :: z) h Q) →
    Xc T l_ref20_Choose_0 ks [(0, .ps 3 (Cp.vs v)), (1, .ps 1 (ints bad)), (5, .ps 2 (Pt.vs (firsts (v.take i)))), (6, .int .i64 i)] h Q := by
  intro m
  induction m with
  | zero =>
    intro i hi ks Q hx
    have c1 : ¬ (i : Int) < v.length := by omega
    have e : i = v.length := by omega
    subst e
    rw [List.take_length, L_ref20_Choose_0]; unfold bl_ref20_Choose_0
    simp (disch := omega) [c1, cv_len]
    exact hx _
  | succ m ih =>
    intro i hi ks Q hx
    have hiv : i < v.length := by omega
    have c1 : (i : Int) < v.length := by omega
    have g1 := cv_get v i hiv
    have hcc := hc v[i] (List.getElem_mem _)
    have hhc := hh v[i] (List.getElem_mem _)
    have ih := ih (i + 1) (by omega) ks Q hx
    have fa : firsts (v.take (i + 1)) = firsts (v.take i) ++ [fst1 v[i]] := by
      unfold firsts
      rw [List.take_succ_eq_append_getElem hiv, List.map_append]; rfl
    rw [fa, show ((i + 1 : Nat) : Int) = (i : Int) + 1 from rfl] at ih
    have sl : (firsts (v.take i)).length ≤ 1000 := by simp [firsts]; omega
    obtain ⟨c, hc'⟩ : ∃ c, c = v[i] := ⟨_, rfl⟩
    rw [← hc'] at g1 hcc hhc ih
    generalize firsts (v.take i) = S at *
    have pc : c.v.cells = [.int .i64 c.lpn, .int .i64 c.seq, .ps 2 (Pt.vs c.ats)] := rfl
    have cne : c.ats ≠ [] := by simpa [hasAt] using hhc
    obtain ⟨p, t, c4⟩ : ∃ p t, c.ats = p :: t := by
      cases e : c.ats with
      | nil => exact absurd e cne
      | cons p r => exact ⟨p, r, rfl⟩
    have c5 : (Pt.vs c.ats)[0]? = some p.v := by rw [c4]; rfl
    have c6 : fst1 c = p := by simp [fst1, c4]
    have cpos : 0 < c.ats.length := by rw [c4]; simp
    have q1 : p.v.cells = [.int .i64 p.b, .int .i64 p.k] := rfl
    have sb : (S.length + 1) * 16 ≤ 140737488355328 := by omega
    have va : Pt.vs (S ++ [p]) = Pt.vs S ++ [.agg [.int .i64 p.b, .int .i64 p.k]] := by simp [Pt.vs, pt_v]
    rw [c6, va] at ih
    rw [L_ref20_Choose_0]; unfold bl_ref20_Choose_0
    simp (disch := omega) [c1, hiv, cv_len, pt_len, g1, pc, c5, cpos, q1, sb]
    exact ih
theorem shr_no {v : List Cp} {bad : List Int} {l : List Pt} {b : Int} (r : List Int) (hb : b ∈ blkOf l) (h : canS v l bad b = false) : shrS v bad l (b :: r) = shrS v bad l r := by
  simp only [shrS]
  by_cases c : b ∈ bad
  · rw [if_pos c]
  · rw [if_neg c]
    cases e : othS v bad l b with
    | none => rfl
    | some s => simp [canS, c, hb, e] at h
theorem shr_yes {v : List Cp} {bad : List Int} {l : List Pt} {b : Int} (r : List Int) (h : canS v l bad b = true) : ∃ s, othS v bad l b = some s ∧ shrS v bad l (b :: r) = some s := by
  simp only [canS, Bool.and_eq_true, Bool.not_eq_true', decide_eq_false_iff_not, decide_eq_true_eq] at h
  obtain ⟨s, hs⟩ := Option.isSome_iff_exists.1 h.2
  refine ⟨s, hs, ?_⟩
  simp only [shrS, if_neg h.1.1, hs]
theorem rc_loop1 (v : List Cp) (bad : List Int) (l : List Pt) (hlen : v.length = l.length) (hl : l.length ≤ 1000) (hb : bad.length ≤ 1000) (hc : ∀ c ∈ v, c.ats.length ≤ 1000) (B : List Int) (hB : B.length ≤ 1000) (hm : ∀ x ∈ B, x ∈ blkOf l) (a n : Int) (h : Heap) : ∀ (m k : Nat), k + m = B.length → shrS v bad l B = shrS v bad l (B.drop k) → ∀ ks Q,
    (∀ (k' : Nat) z, k' ≤ B.length → shrS v bad l B = shrS v bad l (B.drop k') → (∀ hk : k' < B.length, canS v l bad B[k'] = true) → Xk T ks (.x 4) ((0, .ps 3 (Cp.vs v)) :: (1, .ps 1 (ints bad)) :: (5, .ps 2 (Pt.vs l)) :: (7, .int .i64 a) :: (8, .int .i64 n) :: (9, .ps 1 (ints B)) :: (10, .int .i64 k') :: z) h Q) →
    Xc T l_ref20_Choose_1 ks [(0, .ps 3 (Cp.vs v)), (1, .ps 1 (ints bad)), (5, .ps 2 (Pt.vs l)), (7, .int .i64 a), (8, .int .i64 n), (9, .ps 1 (ints B)), (10, .int .i64 k)] h Q := by
  intro m
  induction m with
  | zero =>
    intro k hk hs ks Q hx
    have c1 : ¬ (k : Int) < B.length := by omega
    rw [L_ref20_Choose_1]; unfold bl_ref20_Choose_1
    simp (disch := omega) [c1, ints_len]
    exact hx k _ (by omega) hs (fun q => by omega)
  | succ m ih =>
    intro k hk hs ks Q hx
    have hkB : k < B.length := by omega
    have c1 : (k : Int) < B.length := by omega
    have g1 : (ints B)[k]? = some (.int .i64 B[k]) := by rw [ints_get, List.getElem?_eq_getElem hkB]; rfl
    have e := List.drop_eq_getElem_cons hkB
    have hmk := hm B[k] (List.getElem_mem _)
    have cp := fun {ks ops K e h Q d lent} x => Can_p (ks := ks) (ops := ops) (K := K) (e := e) (h := h) (Q := Q) (d := d) (lent := lent) v l bad x hlen hc hl hb
    rw [L_ref20_Choose_1]; unfold bl_ref20_Choose_1
    cases c2 : canS v l bad B[k] with
    | true =>
      simp (disch := omega) [c1, ints_len, g1, cp, c2]
      exact hx k _ (by omega) hs (fun _ => c2)
    | false =>
      simp (disch := omega) [c1, ints_len, g1, cp, c2]
      have := ih (k + 1) (by omega) (by rw [hs, e, shr_no _ hmk c2]) ks Q hx
      simpa using this
theorem rc_loop2 (v : List Cp) (bad : List Int) (l : List Pt) (hlen : v.length = l.length) (hl : l.length ≤ 1000) (hb : bad.length ≤ 1000) (hc : ∀ c ∈ v, c.ats.length ≤ 1000) (B : List Int) (a n : Int) (k : Nat) (hk : k < B.length) (h : Heap) : ∀ (m i : Nat) (pre suf : List Pt), i + m = l.length → pre.length = i → mvF (okF l bad B[k]) B[k] (v.drop i) (l.drop i) = some suf → ∀ ks Q,
    (∀ z, Xk T ks (.x 6) ((0, .ps 3 (Cp.vs v)) :: (1, .ps 1 (ints bad)) :: (5, .ps 2 (Pt.vs l)) :: (7, .int .i64 a) :: (8, .int .i64 n) :: (9, .ps 1 (ints B)) :: (10, .int .i64 k) :: (11, .ps 2 (Pt.vs (pre ++ suf))) :: z) h Q) →
    Xc T l_ref20_Choose_2 ks [(0, .ps 3 (Cp.vs v)), (1, .ps 1 (ints bad)), (5, .ps 2 (Pt.vs l)), (7, .int .i64 a), (8, .int .i64 n), (9, .ps 1 (ints B)), (10, .int .i64 k), (11, .ps 2 (Pt.vs pre)), (12, .int .i64 i)] h Q := by
  intro m
  have gB : (ints B)[k]? = some (.int .i64 B[k]) := by rw [ints_get, List.getElem?_eq_getElem hk]; rfl
  have ckB : (k : Int) < B.length := by omega
  generalize B[k] = b at *
  induction m with
  | zero =>
    intro i pre suf hi hp hs ks Q hx
    have c1 : ¬ (i : Int) < l.length := by omega
    have e : l.drop i = [] := List.drop_eq_nil_of_le (by omega)
    have e2 : suf = [] := by rw [e] at hs; cases h : v.drop i <;> rw [h] at hs <;> cases hs <;> rfl
    subst e2
    rw [L_ref20_Choose_2]; unfold bl_ref20_Choose_2
    simp (disch := omega) [c1, pt_len]
    simpa using hx _
  | succ m ih =>
    intro i pre suf hi hp hs ks Q hx
    have hil : i < l.length := by omega
    have hiv : i < v.length := by omega
    have c1 : (i : Int) < l.length := by omega
    have c1v : (i : Int) < v.length := by omega
    have g1 := pt_at l i hil
    have pc := pt_cells l[i]
    have el := List.drop_eq_getElem_cons hil
    have ev := List.drop_eq_getElem_cons hiv
    rw [el, ev] at hs
    have g2 := cv_get v i hiv
    have hcc := hc v[i] (List.getElem_mem _)
    obtain ⟨p, hp'⟩ : ∃ p, p = l[i] := ⟨_, rfl⟩
    obtain ⟨c, hc'⟩ : ∃ c, c = v[i] := ⟨_, rfl⟩
    rw [← hp'] at g1 pc hs
    rw [← hc'] at g2 hcc hs
    have vc : c.v.cells = c.cs := rfl
    have c2 : c.cs[2]? = some (.ps 2 (Pt.vs c.ats)) := rfl
    have sb : (pre.length + 1) * 16 ≤ 140737488355328 := by omega
    have op := fun {ks ops K e h Q d lent} => Other_p (ks := ks) (ops := ops) (K := K) (e := e) (h := h) (Q := Q) (d := d) (lent := lent) c l bad b hcc hl hb
    have va : ∀ q : Pt, Pt.vs (pre ++ [q]) = Pt.vs pre ++ [.agg [.int .i64 q.b, .int .i64 q.k]] := fun q => by simp [Pt.vs, pt_v]
    have fin : ∀ q suf', mvF (okF l bad b) b (v.drop (i + 1)) (l.drop (i + 1)) = some suf' → suf = q :: suf' → Xc T l_ref20_Choose_2 ks [(0, .ps 3 (Cp.vs v)), (1, .ps 1 (ints bad)), (5, .ps 2 (Pt.vs l)), (7, .int .i64 a), (8, .int .i64 n), (9, .ps 1 (ints B)), (10, .int .i64 k), (11, .ps 2 (Pt.vs pre ++ [.agg [.int .i64 q.b, .int .i64 q.k]])), (12, .int .i64 ((i : Int) + 1))] h Q := fun q suf' h1 h2 => by
      have := ih (i + 1) (pre ++ [q]) suf' (by omega) (by simp; omega) h1 ks Q (fun z => by rw [h2] at hx; simpa using hx z)
      rw [va] at this
      simpa using this
    rw [L_ref20_Choose_2]; unfold bl_ref20_Choose_2
    by_cases c3 : p.b = b
    · have mv : mvF (okF l bad b) b (c :: v.drop (i + 1)) (p :: l.drop (i + 1)) = (c.ats.find? (okF l bad b)).bind fun q => (mvF (okF l bad b) b (v.drop (i + 1)) (l.drop (i + 1))).map (q :: ·) := by simp only [mvF, if_pos c3]
      rw [mv] at hs
      rcases fIx2_find (okF l bad b) c.ats 0 with ⟨f1, f2⟩ | ⟨j, f1, hj, f2⟩
      · rw [f2] at hs; cases hs
      · rw [f2] at hs
        cases e : mvF (okF l bad b) b (v.drop (i + 1)) (l.drop (i + 1)) with
        | none => rw [e] at hs; cases hs
        | some suf' =>
          rw [e] at hs
          have hs : suf = c.ats[j] :: suf' := by cases hs; rfl
          rw [f1] at op
          simp only [Nat.zero_add] at op
          have gj := pt_at c.ats j hj
          have pj := pt_cells c.ats[j]
          have cj : (j : Int) < c.ats.length := by omega
          have fin := fin c.ats[j] suf' e hs
          generalize c.ats[j] = q at *
          simp (disch := omega) [c1, c1v, pt_len, cv_len, ints_len, g1, g2, pc, vc, c2, c3, gB, ckB, hk, hil, hiv, op, gj, pj, cj, hj, sb]
          exact fin
    · have mv : mvF (okF l bad b) b (c :: v.drop (i + 1)) (p :: l.drop (i + 1)) = (mvF (okF l bad b) b (v.drop (i + 1)) (l.drop (i + 1))).map (p :: ·) := by simp only [mvF, if_neg c3]
      rw [mv] at hs
      cases e : mvF (okF l bad b) b (v.drop (i + 1)) (l.drop (i + 1)) with
      | none => rw [e] at hs; cases hs
      | some suf' =>
        rw [e] at hs
        have hs : suf = p :: suf' := by cases hs; rfl
        have fin := fin p suf' e hs
        simp (disch := omega) [c1, c1v, pt_len, cv_len, ints_len, g1, g2, pc, vc, c3, gB, ckB, hk, hil, hiv, sb]
        exact fin
theorem isU_len {U : List Int} {l : List Pt} (hl : l.length ≤ 60) (h : IsU U l) : U.length ≤ l.length := by
  obtain ⟨W, _, w1, w2, _, w3, _⟩ := Used_run l hl []
  rw [h.eq ⟨w1, w2⟩]
  exact w3
theorem rc_loop3 (v : List Cp) (bad : List Int) (hv : v.length ≤ 60) (hb : bad.length ≤ 1000) (hc : ∀ c ∈ v, c.ats.length ≤ 1000) (most : Nat) (hmost : most ≤ 10000) (h : Heap) : ∀ (n : Nat) (l r : List Pt), Fin' v bad n l r → l.length = v.length → ∀ (i : Nat), i + n < most → ∀ ks Q,
    (Xk T ks .r [(4, .ps 2 (Pt.vs r))] h Q) →
    Xc T l_ref20_Choose_3 ks [(0, .ps 3 (Cp.vs v)), (1, .ps 1 (ints bad)), (5, .ps 2 (Pt.vs l)), (7, .int .i64 most), (8, .int .i64 i)] h Q := by
  intro n l r f
  induction f with
  | @stop l hs =>
    intro hl i hi ks Q hx
    have c1 : (i : Int) < most := by omega
    obtain ⟨B, b1, b2, rb⟩ := Blocks_run l (by omega) []
    obtain ⟨U, hU, e⟩ := hs
    have eU : U = B := hU.eq ⟨b1, b2⟩
    subst eU
    have Ul : U.length ≤ 1000 := by have := isU_len (by omega) hU; omega
    rw [L_ref20_Choose_3]; unfold bl_ref20_Choose_3
    simp (disch := omega) [c1]
    rw [Xp_run rb (by simp [pt_hf]) (by simp [ints_hfs]) (by simp)]
    simp (disch := omega)
    refine rc_loop1 v bad l hl.symm (by omega) hb hc U Ul (fun x hx => (b2 x).1 hx) _ _ h U.length 0 (by omega) rfl _ _ fun k z h1 h2 h3 => ?_
    by_cases c2 : k < U.length
    · obtain ⟨s, _, h4⟩ := shr_yes (U.drop (k + 1)) (h3 c2)
      rw [← List.drop_eq_getElem_cons c2, ← h2, ← e] at h4
      cases h4
    · have c3 : (k : Int) = U.length := by omega
      simp (disch := omega) [c3, ints_len]
      exact hx
  | @go n l s r hs f ih =>
    intro hl i hi ks Q hx
    have c1 : (i : Int) < most := by omega
    obtain ⟨B, b1, b2, rb⟩ := Blocks_run l (by omega) []
    obtain ⟨U, hU, e⟩ := hs
    have eU : U = B := hU.eq ⟨b1, b2⟩
    subst eU
    have Ul : U.length ≤ 1000 := by have := isU_len (by omega) hU; omega
    rw [L_ref20_Choose_3]; unfold bl_ref20_Choose_3
    simp (disch := omega) [c1]
    rw [Xp_run rb (by simp [pt_hf]) (by simp [ints_hfs]) (by simp)]
    simp (disch := omega)
    refine rc_loop1 v bad l hl.symm (by omega) hb hc U Ul (fun x hx => (b2 x).1 hx) _ _ h U.length 0 (by omega) rfl _ _ fun k z h1 h2 h3 => ?_
    by_cases c2 : k < U.length
    · obtain ⟨s', h5, h4⟩ := shr_yes (U.drop (k + 1)) (h3 c2)
      rw [← List.drop_eq_getElem_cons c2, ← h2, ← e] at h4
      cases h4
      have c3 : ¬ (k : Int) = U.length := by omega
      have sl := mvF_len _ _ _ _ _ hl.symm h5
      simp (disch := omega) [c3, ints_len]
      refine rc_loop2 v bad l hl.symm (by omega) hb hc U _ _ k c2 h l.length 0 [] s (by omega) rfl h5 _ _ fun z => ?_
      simp (disch := omega)
      have := ih (by omega) (i + 1) (by omega) ks Q hx
      simpa using this
    · rw [List.drop_eq_nil_of_le (by omega)] at h2
      rw [← e] at h2
      cases h2
theorem RChoose_run (v : List Cp) (bad : List Int) (hv : v.length ≤ 60) (hb : bad.length ≤ 1000) (hh : ∀ c ∈ v, hasAt c = true) (hc : ∀ c ∈ v, c.ats.length ≤ 1000) (n : Nat) (r : List Pt) (hn : n ≤ v.length) (hf : Fin' v bad n (firsts v) r) (h : Heap) : Run T f_ref20_Choose [.ps 3 (Cp.vs v), .ps 1 (ints bad)] h (.ps 2 (Pt.vs r)) h := by
  have fl : (firsts v).length = v.length := by simp [firsts]
  have l3 := rc_loop3 v bad hv hb hc (v.length + 1) (by omega) h n (firsts v) r hf fl 0 (by omega)
  refine Run.start t_ref20_Choose ?_
  unfold k_ref20_Choose
  simp (disch := omega)
  refine rc_loop0 v bad (by omega) hh hc h v.length 0 (by omega) _ _ fun z => ?_
  simp (disch := omega) [pt_len, fl]
  refine l3 _ _ ?_
  simp (disch := omega)
theorem PlaceChooses_run (v : List Cp) (bad : List Int) (hv : v.length < 4611686018427387904) (hc : ∀ c ∈ v, c.ats.length < 4611686018427387904) (hb : bad.length < 4611686018427387904) : ∃ h', Run T f_law20_PlaceChooses [.ps 3 (Cp.vs v), .ps 1 (ints bad)] [] (.bool true) h' := by
  by_cases c : bad.length ≤ 20
  · have c' : ¬ (20 : Int) < bad.length := by omega
    obtain ⟨w, hw⟩ : ∃ w, w = fewS v := ⟨_, rfl⟩
    have wl : w.length ≤ 40 := by rw [hw]; exact few_len v
    have wa : ∀ c ∈ w, hasAt c = true ∧ c.ats.length ≤ 1000 := by rw [hw]; exact few_all v
    have rf := few_run v hv hc []
    rw [← hw] at rf
    obtain ⟨r, h', hr, rc⟩ := Choose_run w bad (by omega) (by omega) (fun c hc => (wa c hc).2)
    have fw : w.filter hasAt = w := List.filter_eq_self.2 fun c hc => (wa c hc).1
    rw [fw] at hr
    have key : ∃ n, n ≤ w.length ∧ Fin' w bad n (firsts w) r := by
      rcases hr with ⟨h1, h2⟩ | ⟨_, n, hn, hf⟩
      · subst h2
        rw [h1]
        exact ⟨0, by simp, .stop ⟨[], ⟨.nil, by simp [firsts, blkOf]⟩, rfl⟩⟩
      · exact ⟨n, hn, hf⟩
    obtain ⟨n, hn, hf⟩ := key
    have rr := RChoose_run w bad (by omega) (by omega) (fun c hc => (wa c hc).1) (fun c hc => (wa c hc).2) n r hn hf []
    obtain ⟨r0, h0, hr0, rc0⟩ := Choose_run [⟨3, 0, []⟩] bad (by simp) (by omega) (fun c hc => by simp at hc; subst hc; simp)
    have r0e : r0 = [] := by
      rcases hr0 with ⟨_, h2⟩ | ⟨h1, _⟩
      · exact h2
      · exact absurd (by simp [hasAt]) h1
    subst r0e
    have rc0 : Run T f_place_Choose [.ps 3 [.agg [.int .i64 3, .int .i64 0, .ps 2 []]], .ps 1 (ints bad)] [] (.ps 2 []) h0 := rc0
    have rlen : r.length ≤ 1000 := by
      have := fin_inv (P := fun l => l.length = w.length) (fun l s b h1 h2 => by rw [mvF_len _ _ _ _ _ h1.symm h2]; exact h1) hf (by simp [firsts])
      omega
    refine Run.startE t_law20_PlaceChooses ?_
    unfold k_law20_PlaceChooses
    simp (disch := omega) [ints_len, c, c']
    rw [Xp_run rf (by simp [cv_hf]) (by simp [cv_hf]) (by simp)]
    simp (disch := omega) [awake20_p]
    rw [Xp_run rc (by simp [cv_hf, ints_hfs]) (by simp [pt_hf]) (by simp)]
    simp (disch := omega)
    rw [Xp_run rr (by simp [cv_hf, ints_hfs]) (by simp [pt_hf]) (by simp)]
    simp (disch := omega)
    rw [RPl_p r r (by omega) (by omega)]
    simp (disch := omega)
    rw [Xp_run rc0 (by simp [ints_hfs]) rfl (by simp)]
    simp (disch := omega)
  · refine Run.startE t_law20_PlaceChooses ?_
    unfold k_law20_PlaceChooses
    have c' : (20 : Int) < bad.length := by omega
    simp (disch := omega) [ints_len, c', awake20_p]
theorem law_PlaceChooses (x y : V) (hx : Ty (.sl true 40 [.i .i64, .i .i64, .sl true 16 [.i .i64, .i .i64]]) x) (hy : Ty (.sl false 8 [.i .i64]) y) : ∃ h', Run T f_law20_PlaceChooses [x, y] [] (.bool true) h' := by
  obtain ⟨l, rfl, hl, hc⟩ := hx.cps (by omega)
  obtain ⟨b, rfl, hb, _⟩ := hy.ints
  exact PlaceChooses_run l b (by omega) (fun c h => by have := hc c h; omega) (by omega)
end Ev
