/- Victim: counting and ordering. Each theorem states its own conditions. -/
import Derived.Test.YtmbheeapegpmlaaVSort9
set_option linter.all false
namespace Ev
open Go
set_option maxRecDepth 10000
attribute [-simp] getElem?_pos getElem?_neg
def pls (l : List (Int × Int)) : List V := l.map fun p => .agg [.int .i64 p.1, .int .i64 p.2]
def cnt (l : List (Int × Int)) (b : Int) : Nat := l.countP fun p => decide (p.1 = b)
theorem pls_len (l : List (Int × Int)) : (pls l).length = l.length := by simp [pls]
theorem pls_get (l : List (Int × Int)) (i : Nat) (h : i < l.length) : (pls l)[i]? = some (.agg [.int .i64 l[i].1, .int .i64 l[i].2]) := by simp [pls, List.getElem?_eq_getElem h]
theorem cnt_le (l : List (Int × Int)) (b : Int) : cnt l b ≤ l.length := List.countP_le_length
theorem cnt_take (l : List (Int × Int)) (b : Int) (i : Nat) (h : i < l.length) : cnt (l.take (i + 1)) b = cnt (l.take i) b + if l[i].1 = b then 1 else 0 := by
  unfold cnt
  rw [List.take_succ_eq_append_getElem h, List.countP_append]
  simp [List.countP_cons]
theorem rcount_loop (l : List (Int × Int)) (b : Int) (h : Heap) (hl : l.length < 4611686018427387904) : ∀ (m i : Nat), i + m = l.length → ∀ ks Q,
    (∀ e, Xk T ks (.x 0) ([(0, .ps 2 (pls l)), (1, .int .i64 b), (5, .int .i64 (cnt l b : Nat))] ++ e) h Q) →
    Xc T l_ref22_Count_0 ks [(0, .ps 2 (pls l)), (1, .int .i64 b), (5, .int .i64 (cnt (l.take i) b : Nat)), (6, .int .i64 i)] h Q := by
  intro m
  induction m with
  | zero =>
    intro i hi ks Q hx
    rw [L_ref22_Count_0]; unfold bl_ref22_Count_0
    have : i = l.length := by omega
    subst this
    simp (disch := omega) [pls_len]
    exact hx _
  | succ m ih =>
    intro i hi ks Q hx
    rw [L_ref22_Count_0]; unfold bl_ref22_Count_0
    have e1 : i < l.length := by omega
    have e2 := pls_get l i e1
    have e3 := cnt_take l b i e1
    have e4 := cnt_le (l.take i) b
    rw [List.length_take] at e4
    have := ih (i + 1) (by omega) ks Q hx
    simp (disch := omega) [pls_len, e1, e2]
    apply Xb_dec
    · intro c1
      rw [e3, if_pos c1] at this
      simp (disch := omega)
      simpa using this
    · intro c1
      rw [e3, if_neg c1] at this
      simp (disch := omega) [c1]
      simpa using this
theorem RCount_run (l : List (Int × Int)) (b : Int) (h : Heap) (hl : l.length < 4611686018427387904) : Run T f_ref22_Count [.ps 2 (pls l), .int .i64 b] h (.int .i64 (cnt l b : Nat)) h := by
  refine Run.start t_ref22_Count ?_
  unfold k_ref22_Count
  simp (disch := omega)
  have := rcount_loop l b h hl l.length 0 (by omega)
  simp [cnt] at this
  refine this _ _ fun e => ?_
  simp (disch := omega) [cnt]
theorem count_loop (l : List (Int × Int)) (b : Int) (hl : l.length < 4611686018427387904) : ∀ (m i : Nat) (h : Heap), i + m = l.length → ∀ tl ks Q,
    (∀ e h', Xk T ks (.x 0) ([(1, .int .i64 b), (5, .int .i64 (cnt l b : Nat))] ++ e) h' Q) →
    Xc T l_place_Count_0 ks ([(1, .int .i64 b), (5, .int .i64 (cnt (l.take i) b : Nat)), (8, .ps 2 (pls l)), (9, .int .i64 l.length), (10, .int .i64 i)] ++ tl) h Q := by
  intro m
  induction m with
  | zero =>
    intro i h hi tl ks Q hx
    rw [L_place_Count_0]; unfold bl_place_Count_0
    have : i = l.length := by omega
    subst this
    simp (disch := omega) [pls_len]
    exact hx _ _
  | succ m ih =>
    intro i h hi tl ks Q hx
    rw [L_place_Count_0]; unfold bl_place_Count_0
    have e1 : i < l.length := by omega
    have e2 := pls_get l i e1
    have e3 := cnt_take l b i e1
    have e4 := cnt_le (l.take i) b
    rw [List.length_take] at e4
    have := fun h => ih (i + 1) h (by omega) [] ks Q hx
    simp (disch := omega) [pls_len, e1, e2]
    apply Xb_dec
    · intro c1
      rw [e3, if_pos c1] at this
      simp (disch := omega)
      simpa using this _
    · intro c1
      rw [e3, if_neg c1] at this
      simp (disch := omega) [c1]
      simpa using this _
theorem Count_run (l : List (Int × Int)) (b : Int) (h : Heap) (hl : l.length < 4611686018427387904) : ∃ h', Run T f_place_Count [.ps 2 (pls l), .int .i64 b] h (.int .i64 (cnt l b : Nat)) h' := by
  refine Run.startE t_place_Count ?_
  unfold k_place_Count
  simp (disch := omega) [pls_len]
  have := count_loop l b hl l.length 0 h (by omega) []
  simp [cnt] at this
  refine this _ _ fun e h' => ?_
  simp (disch := omega) [cnt]
section
variable {ks : List Kt} {ops : List AOpr} {K : Kp} {e : Env} {h : Heap} {Q : Ex → Env → Heap → Prop} {d : Nat} {lent : Bool}
theorem pls_hfs (l : List (Int × Int)) : V.hfs (pls l) = true := by
  unfold pls
  induction l with
  | nil => rfl
  | cons a l ih => simp at ih ⊢; exact ih
theorem RCount_p (l : List (Int × Int)) (b : Int) (hl : l.length < 4611686018427387904) : Xp T f_ref22_Count (some ([.ps 2 (pls l), .int .i64 b], lent)) h (some d) ops K ks e Q = Xo T ops K ks ((d, .int .i64 (cnt l b : Nat)) :: e) h Q :=
  Xp_run (RCount_run l b [] hl) (by simp [pls_hfs]) rfl (by simp [scalar])
theorem Count_p (l : List (Int × Int)) (b : Int) (hl : l.length < 4611686018427387904) : Xp T f_place_Count (some ([.ps 2 (pls l), .int .i64 b], lent)) h (some d) ops K ks e Q = Xo T ops K ks ((d, .int .i64 (cnt l b : Nat)) :: e) h Q := by
  obtain ⟨h', hr⟩ := Count_run l b [] hl
  exact Xp_run hr (by simp [pls_hfs]) rfl (by simp [scalar])
end
def cmpS (x y : Int) : Int := if x < y then -1 else if y < x then 1 else 0
theorem Compare_run (x y : Int) (h : Heap) : Run T f_cmp_Compare_int [.int .i64 x, .int .i64 y] h (.int .i64 (cmpS x y)) h := by
  have hn : ∀ z, Run T f_cmp_isNaN_int [.int .i64 z] [] (.bool false) [] := fun z => by
    refine Run.start t_cmp_isNaN_int ?_
    unfold k_cmp_isNaN_int
    simp (disch := omega)
  refine Run.start t_cmp_Compare_int ?_
  unfold k_cmp_Compare_int
  simp (disch := omega)
  rw [Xp_run (hn x) (by simp) (by simp) (by simp)]
  simp (disch := omega)
  rw [Xp_run (hn y) (by simp) (by simp) (by simp)]
  simp (disch := omega)
  refine Xb_dec (fun c1 => ?_) (fun c1 => ?_)
  · simp (disch := omega) [cmpS, c1]
  · simp (disch := omega)
    refine Xb_dec (fun c2 => ?_) (fun c2 => ?_)
    · simp (disch := omega) [cmpS, c1, c2]
    · simp (disch := omega) [cmpS, c1, c2]
theorem Or_run (x y : Int) (h : Heap) : Run T f_cmp_Or_int [.ps 1 [.int .i64 x, .int .i64 y]] h (.int .i64 (if x = 0 then y else x)) h := by
  refine Run.start t_cmp_Or_int ?_
  unfold k_cmp_Or_int
  simp (disch := omega)
  rw [L_cmp_Or_int_0]; unfold bl_cmp_Or_int_0
  simp (disch := omega)
  refine Xb_decn (fun c1 => ?_) (fun c1 => ?_)
  · simp (disch := omega) [c1]
  · simp (disch := omega) [c1]
    rw [L_cmp_Or_int_0]; unfold bl_cmp_Or_int_0
    simp (disch := omega)
    refine Xb_decn (fun c2 => ?_) (fun c2 => ?_)
    · simp (disch := omega)
    · simp (disch := omega)
      rw [L_cmp_Or_int_0]; unfold bl_cmp_Or_int_0
      simp (disch := omega) [c2]
/-- The order of victims: by what they keep, then by number. -/
def cmpV (l : List (Int × Int)) (x y : Int) : Int := if cmpS (cnt l x : Nat) (cnt l y : Nat) = 0 then cmpS x y else cmpS (cnt l x : Nat) (cnt l y : Nat)
theorem Order1_run (l : List (Int × Int)) (b : Int) (h : Heap) (c1 : Nat) (hl : l.length < 4611686018427387904) (hr : h.row c1 = some [.ps 2 (pls l)]) : Run T f_victim_Order_1 [.int .i64 b, .ptr c1 0] h (.int .i64 (cnt l b : Nat)) h := by
  refine Run.start t_victim_Order_1 ?_
  unfold k_victim_Order_1
  simp (disch := omega) [hr, Count_p, hl]
theorem Order2_run (l : List (Int × Int)) (x y : Int) (h : Heap) (c1 c2 : Nat) (hl : l.length < 4611686018427387904) (hr : h.row c1 = some [.ps 2 (pls l)]) (hr2 : h.row c2 = some [.fn f_victim_Order_1 [.ptr c1 0]]) (hf : T.free f_victim_Order_1 = true) :
    Run T f_victim_Order_2 [.int .i64 x, .int .i64 y, .ptr c2 0] h (.int .i64 (cmpV l x y)) h := by
  refine Run.start t_victim_Order_2 ?_
  unfold k_victim_Order_2
  simp (disch := omega)
  apply Xc_regf
  simp (disch := omega) [hr2, hf]
  rw [Xf_run (Order1_run l x h c1 hl hr)]
  simp (disch := omega) [hr2, hf]
  rw [Xf_run (Order1_run l y h c1 hl hr)]
  simp (disch := omega) [hr2, hf]
  rw [Xp_run (Compare_run _ _ []) (by simp) (by simp) (by simp)]
  simp (disch := omega)
  rw [Xp_run (Compare_run _ _ []) (by simp) (by simp) (by simp)]
  simp (disch := omega)
  rw [Xp_run (Or_run _ _ []) (by simp) (by simp) (by simp [scalar])]
  simp (disch := omega) [flagsIn, flagP, evOp, hr2, cmpV]
theorem cmpS_lt (x y : Int) : cmpS x y < 0 ↔ x < y := by unfold cmpS; split <;> (try split) <;> omega
theorem cmpS_eq (x y : Int) : cmpS x y = 0 ↔ x = y := by unfold cmpS; split <;> (try split) <;> omega
theorem cmpV_lt (l : List (Int × Int)) (x y : Int) : cmpV l x y < 0 ↔ cnt l x < cnt l y ∨ cnt l x = cnt l y ∧ x < y := by
  unfold cmpV
  have h1 := cmpS_lt (cnt l x : Nat) (cnt l y : Nat)
  have h2 := cmpS_eq (cnt l x : Nat) (cnt l y : Nat)
  have h3 := cmpS_lt x y
  split <;> omega
theorem cmpV_swo (l : List (Int × Int)) : Sort.SWO (ltC (cmpV l)) where
  irrefl := fun x => by
    have := cmpV_lt l x x
    exact decide_eq_false (by omega)
  trans := fun x y z h1 h2 => by
    have h1 := (cmpV_lt l x y).1 (of_decide_eq_true h1)
    have h2 := (cmpV_lt l y z).1 (of_decide_eq_true h2)
    exact decide_eq_true ((cmpV_lt l x z).2 (by omega))
  ntrans := fun x y z h1 h2 => by
    have h1 : ¬ (cnt l x < cnt l y ∨ cnt l x = cnt l y ∧ x < y) := fun h => of_decide_eq_false h1 ((cmpV_lt l x y).2 h)
    have h2 : ¬ (cnt l y < cnt l z ∨ cnt l y = cnt l z ∧ y < z) := fun h => of_decide_eq_false h2 ((cmpV_lt l y z).2 h)
    exact decide_eq_false fun h => by
      have := (cmpV_lt l x z).1 h
      omega
theorem ints_ne (bs : List Int) (h : bs ≠ []) : ints bs ≠ [] := by simpa [ints] using h
theorem Clone_nil (h : Heap) : Run T f_slices_Clone_int_int [.ps 1 []] h (.hn 1) h := by
  refine Run.start t_slices_Clone_int_int ?_
  unfold k_slices_Clone_int_int
  simp (disch := omega)
  refine Xc_may (fun C => rfl) rfl rfl .r [(2, .hn 1)] h ?_ ?_ ?_
  · simp (disch := omega)
  · simp (disch := omega)
  · simp (disch := omega)
theorem Clone_run (bs : List Int) (h0 : bs ≠ []) (h : Heap) (hl : bs.length < 1000) : Run T f_slices_Clone_int_int [.ps 1 (ints bs)] h (.hs 1 h.length 0 bs.length) (h ++ [some (ints bs)]) := by
  refine Run.start t_slices_Clone_int_int ?_
  unfold k_slices_Clone_int_int
  simp (disch := omega)
  have hne := ints_ne bs h0
  refine Xc_nilc (fun C => rfl) rfl (v := .ps 1 (ints bs)) (by cases hb : ints bs with | nil => exact absurd hb hne | cons _ _ => rfl) ?_
  simp (disch := omega) [hne, ints_len, flat_ints]

/-! ### order -/
theorem len0 : Run T f_math_bits_Len [.int .u64 0] [] (.int .i64 0) [] := by have := len_run [] 0 (by omega); rw [show Sort.bitsLen 0 = 0 from rfl] at this; simpa using this
theorem sort_nil (f : Nat) (cap : List V) (h : Heap) : Run T f_slices_SortFunc_int_int [.hn 1, .fn f cap] h (.tup []) h := by
  have hi : Run T f_slices_insertionSortCmpFunc_int [.hn 1, .int .i64 0, .int .i64 0, .fn f cap] h (.tup []) h := by
    refine Run.start t_slices_insertionSortCmpFunc_int ?_
    unfold k_slices_insertionSortCmpFunc_int
    simp (disch := omega)
    rw [L_slices_insertionSortCmpFunc_int_1]; unfold bl_slices_insertionSortCmpFunc_int_1
    simp (disch := omega)
  have hp : Run T f_slices_pdqsortCmpFunc_int [.hn 1, .int .i64 0, .int .i64 0, .int .i64 0, .fn f cap] h (.tup []) h := by
    refine Run.start t_slices_pdqsortCmpFunc_int ?_
    unfold k_slices_pdqsortCmpFunc_int
    simp (disch := omega)
    rw [L_slices_pdqsortCmpFunc_int_0]; unfold bl_slices_pdqsortCmpFunc_int_0
    simp (disch := omega)
    rw [Xf_run hi]
    simp (disch := omega)
  refine Run.start t_slices_SortFunc_int_int ?_
  unfold k_slices_SortFunc_int_int
  simp (disch := omega)
  rw [Xp_run len0 (by simp) (by simp) (by simp)]
  simp (disch := omega)
  rw [Xf_run hp]
  simp (disch := omega)
/-- Sorted as victims. -/
def SortedV (l : List (Int × Int)) (o : List Int) : Prop := o.Pairwise fun x y => ¬ cmpV l y x < 0
theorem Order_run (bs : List Int) (l : List (Int × Int)) (hb : bs.length < 50) (hl : l.length < 1000000) :
    ∃ o h', o.Perm bs ∧ SortedV l o ∧ Run T f_victim_Order [.ps 1 (ints bs), .ps 2 (pls l)] [] (.ps 1 (ints o)) h' := by
  by_cases h0 : bs = []
  · subst h0
    have key : ∃ h', Run T f_victim_Order [.ps 1 (ints []), .ps 2 (pls l)] [] (.ps 1 (ints [])) h' := by
      refine Run.startE t_victim_Order ?_
      unfold k_victim_Order
      simp (disch := omega)
      rw [show ints [] = ([] : List V) from rfl, Xf_run (Clone_nil _)]
      simp (disch := omega)
      rw [Xf_run (sort_nil _ _ _)]
      simp (disch := omega)
    obtain ⟨h', hr⟩ := key
    exact ⟨[], h', .refl _, List.Pairwise.nil, hr⟩
  · have hcl := Clone_run bs h0 [some [.ps 2 (pls l)]] (by omega)
    let hh : Heap := [some [.ps 2 (pls l)], some (ints bs), some [.fn f_victim_Order_1 [.ptr 0 0]]]
    have hc : Cmp hh 1 f_victim_Order_2 [.ptr 2 0] (cmpV l) := ⟨rfl, by simp [hh], fun g hg x y => Order2_run l x y g 0 2 (by omega) (by rw [hg.2 0 (by simp [hh]) (by simp)]; rfl) (by rw [hg.2 2 (by simp [hh]) (by simp)]; rfl) rfl⟩
    obtain ⟨g, d', hag, hp, hs, hrun⟩ := sortf_run hc (cmpV_swo l) (Agree.refl) bs.toArray (by simpa using hb)
    have hsd : SD hh 1 bs.toArray = hh := rfl
    rw [hsd] at hrun
    have hlt : 1 < g.length := Nat.lt_of_lt_of_le (by simp [hh]) hag.1
    have hrow : (SD g 1 d').row 1 = some (ints d'.toList) := SD_row hlt d'
    have hsz : d'.size = bs.length := by simpa using hp.1
    have key : ∃ h', Run T f_victim_Order [.ps 1 (ints bs), .ps 2 (pls l)] [] (.ps 1 (ints d'.toList)) h' := by
      refine Run.startE t_victim_Order ?_
      unfold k_victim_Order
      simp (disch := omega)
      rw [Xf_run hcl]
      simp (disch := omega)
      rw [Xf_run (by simpa [hh] using hrun)]
      simp (disch := omega)
      have hfz := freeze_hs (h := SD g 1 d') (b := 1) hrow (ints_one _)
      rw [ints_len, Array.length_toList, hsz] at hfz
      simp (disch := omega) [hfz]
    obtain ⟨h', hr⟩ := key
    refine ⟨d'.toList, h', ?_, ?_, hr⟩
    · have := hp.2.2
      rw [List.size_toArray] at this
      rw [Array.extract_eq_self_of_le (by simp [hsz]), Array.extract_eq_self_of_le (by simp)] at this
      exact this
    · refine List.pairwise_iff_getElem.2 fun i j hi hj hij => ?_
      have := hs i j (by omega) hij (by simpa [hsz] using hj)
      have := of_decide_eq_false this
      rw [getElem!_pos d' i (by simpa using hi), getElem!_pos d' j (by simpa using hj)] at this
      simpa using this
end Ev
