/- Seg: parts put together. Each theorem states its own conditions. -/
import Derived.Test.YtmbheeapegpmlaaSSeg
set_option linter.all false
namespace Ev
open Go
set_option maxRecDepth 10000
attribute [-simp] getElem?_pos getElem?_neg

def fitS (n a : Int) (p : List UInt8) : Bool := decide (0 ≤ a) && (decide (a ≤ n) && decide ((p.length : Int) ≤ n - a))
def HF (n : Int) (at' : List Int) (parts : List (List UInt8)) (out : List UInt8) (there : List Bool) : Heap := [some [.int .i64 n], some [.ps 1 (ints at')], some [.ps 1 (byss parts)], some (bys out), some (bls there)]
section
variable {n : Int} {at' : List Int} {parts : List (List UInt8)} {out out' : List UInt8} {there there' : List Bool}
@[simp] theorem HF_0 : Heap.row (HF n at' parts out there) 0 = some [.int .i64 n] := rfl
@[simp] theorem HF_1 : Heap.row (HF n at' parts out there) 1 = some [.ps 1 (ints at')] := rfl
@[simp] theorem HF_2 : Heap.row (HF n at' parts out there) 2 = some [.ps 1 (byss parts)] := rfl
@[simp] theorem HF_3 : Heap.row (HF n at' parts out there) 3 = some (bys out) := rfl
@[simp] theorem HF_4 : Heap.row (HF n at' parts out there) 4 = some (bls there) := rfl
@[simp] theorem HF_len : List.length (HF n at' parts out there) = 5 := rfl
@[simp] theorem HF_s3 : List.set (HF n at' parts out there) 3 (some (bys out')) = HF n at' parts out' there := rfl
@[simp] theorem HF_s4 : List.set (HF n at' parts out there) 4 (some (bls there')) = HF n at' parts out there' := rfl
end
theorem fits_run (n : Int) (at' : List Int) (parts : List (List UInt8)) (i : Nat) (h : Heap) (hn : 0 ≤ n) (hn2 : n ≤ 3192) (h0 : h.row 0 = some [.int .i64 n]) (h1 : h.row 1 = some [.ps 1 (ints at')]) (h2 : h.row 2 = some [.ps 1 (byss parts)])
    (hi : i < at'.length) (hj : i < parts.length) (hp : ∀ p ∈ parts, p.length ≤ 140737488351232) : Run T f_seg_Fill_1 [.int .i64 i, .ptr 1 0, .ptr 0 0, .ptr 2 0] h (.bool (fitS n at'[i] parts[i])) h := by
  refine Run.start t_seg_Fill_1 ?_
  unfold k_seg_Fill_1
  have g1 := List.getElem?_eq_getElem hi
  have g2 := List.getElem?_eq_getElem hj
  have b1 := hp _ (List.getElem_mem hj)
  simp (disch := omega) [h0, h1, h2, ints_get, byss_get, g1, g2]
  refine Xg_dec (fun c1 => ?_) (fun c1 => ?_)
  · simp (disch := omega) [c1, h0, h1, h2, ints_get, byss_get, g1, g2]
    refine Xg_dec (fun c2 => ?_) (fun c2 => ?_)
    · simp (disch := omega) [c1, c2, h0, h1, h2, ints_get, byss_get, g1, g2, bys_len, fitS]
    · simp (disch := omega) [c1, c2, fitS]
  · simp (disch := omega) [c1, fitS]

theorem fill_loop0 (n : Int) (at' : List Int) (parts : List (List UInt8)) (out : List UInt8) (there : List Bool) (hn : 0 ≤ n) (hn2 : n ≤ 3192) (hlen : at'.length = parts.length) (hl : parts.length < 4611686018427387904) (hp : ∀ p ∈ parts, p.length ≤ 140737488351232) : ∀ (m i : Nat), i + m = parts.length → ∀ ks Q,
    ((∀ j (h1 : j < at'.length) (h2 : j < parts.length), i ≤ j → fitS n at'[j] parts[j] = true) → ∀ e, Xk T ks (.x 1) ([(4, .ptr 1 0), (5, .ptr 2 0), (8, .hs 1 3 0 n.toNat), (9, .hs 1 4 0 n.toNat)] ++ e) (HF n at' parts out there) Q) →
    ((∃ j, ∃ h1 : j < at'.length, ∃ h2 : j < parts.length, fitS n at'[j] parts[j] = false) → Xk T ks .r [(6, .hn 1), (7, .int .i64 3)] (HF n at' parts out there) Q) →
    Xc T l_seg_Fill_0 ks [(4, .ptr 1 0), (5, .ptr 2 0), (8, .hs 1 3 0 n.toNat), (9, .hs 1 4 0 n.toNat), (10, .fn f_seg_Fill_1 [.ptr 1 0, .ptr 0 0, .ptr 2 0]), (36, .int .i64 parts.length), (37, .int .i64 i)] (HF n at' parts out there) Q := by
  intro m
  induction m with
  | zero =>
    intro i hi ks Q hQ hR
    rw [L_seg_Fill_0]; unfold bl_seg_Fill_0
    have : i = parts.length := by omega
    subst this
    simp (disch := omega)
    exact hQ (fun j h1 h2 h3 => by omega) _
  | succ m ih =>
    intro i hi ks Q hQ hR
    rw [L_seg_Fill_0]; unfold bl_seg_Fill_0
    have e1 : i < parts.length := by omega
    have e2 : i < at'.length := by omega
    have e3 : (i : Int) < parts.length := by omega
    have hfr : T.free f_seg_Fill_1 = true := rfl
    simp (disch := omega) [e3, hfr]
    rw [Xf_run (fits_run n at' parts i (HF n at' parts out there) hn hn2 rfl rfl rfl e2 e1 hp)]
    cases hf : fitS n at'[i] parts[i] with
    | true =>
      have := ih (i + 1) (by omega) ks Q (fun h => hQ fun j h1 h2 h3 => by
        rcases Nat.eq_or_lt_of_le h3 with rfl | h3
        · exact hf
        · exact h j h1 h2 h3) hR
      simp (disch := omega)
      simpa using this
    | false =>
      simp (disch := omega)
      exact hR ⟨i, e2, e1, hf⟩

theorem wOne_take {a : Nat} {p : List UInt8} {k : Nat} (hk : k < p.length) : wOne a (p.take (k + 1)) = wOne a (p.take k) ++ [(a + k, p[k])] := by
  unfold wOne
  rw [List.length_take, List.length_take, Nat.min_eq_left (by omega), Nat.min_eq_left (by omega), List.range_succ, List.map_append]
  congr 1
  · refine List.map_congr_left fun j hj => ?_
    have := List.mem_range.1 hj
    simp [List.getElem?_take, show j < k + 1 by omega, this]
  · simp [List.getElem?_take, List.getElem?_eq_getElem hk]
theorem fill_loop1 (n : Nat) (at' : List Int) (parts : List (List UInt8)) (w0 wz : Wr) (i : Nat) (a : Nat) (p : List UInt8) (hn2 : n ≤ 3192) (hi : i < at'.length) (ha : at'[i] = a) (hfit : a + p.length ≤ n) (x46 : V) (hw : ∀ k (hk : k < p.length), (a + k, p[k]) ∈ wz) (hw0 : ∀ x ∈ w0, x ∈ wz) : ∀ (m k : Nat) (out : List UInt8) (there : List Bool), k + m = p.length → Laid n (w0 ++ wOne a (p.take k)) out there → ∀ ks Q,
    (∀ out there e, Laid n (w0 ++ wOne a p) out there → Xk T ks (.x 5) ([(4, .ptr 1 0), (8, .hs 1 3 0 n), (9, .hs 1 4 0 n), (12, .int .i64 i), (45, .ps 1 (byss parts)), (46, x46), (47, .int .i64 i)] ++ e) (HF n at' parts out there) Q) →
    (¬ okW wz → ∀ h, Xk T ks .r [(6, .hn 1), (7, .int .i64 6)] h Q) →
    Xc T l_seg_Fill_1 ks [(4, .ptr 1 0), (8, .hs 1 3 0 n), (9, .hs 1 4 0 n), (12, .int .i64 i), (45, .ps 1 (byss parts)), (46, x46), (47, .int .i64 i), (52, .ps 1 (bys p)), (53, .int .i64 p.length), (54, .int .i64 k)] (HF n at' parts out there) Q := by
  intro m
  have g1 := List.getElem?_eq_getElem hi
  induction m with
  | zero =>
    intro k out there hk hl ks Q hQ hR
    rw [L_seg_Fill_1]; unfold bl_seg_Fill_1
    have : k = p.length := by omega
    subst this
    rw [List.take_length] at hl
    simp (disch := omega)
    exact hQ out there _ hl
  | succ m ih =>
    intro k out there hk hl ks Q hQ hR
    rw [L_seg_Fill_1]; unfold bl_seg_Fill_1
    have e1 : k < p.length := by omega
    have e3 : (k : Int) < p.length := by omega
    have g2 := List.getElem?_eq_getElem e1
    have e4 : ((a : Int) + k).toNat = a + k := by omega
    have ho : a + k < out.length := by rw [hl.len]; omega
    have ht : a + k < there.length := by rw [hl.tlen]; omega
    have g3 := List.getElem?_eq_getElem ho
    have g4 := List.getElem?_eq_getElem ht
    have hol := hl.len
    have htl := hl.tlen
    have next : (there[a + k]? = some true → out[a + k]? = some p[k]) → Xc T l_seg_Fill_1 ks [(4, .ptr 1 0), (8, .hs 1 3 0 n), (9, .hs 1 4 0 n), (12, .int .i64 i), (45, .ps 1 (byss parts)), (46, x46), (47, .int .i64 i), (52, .ps 1 (bys p)), (53, .int .i64 p.length), (54, .int .i64 ((k : Int) + 1))] (HF n at' parts (out.set (a + k) p[k]) (there.set (a + k) true)) Q := fun hh => by
      have := ih (k + 1) (out.set (a + k) p[k]) (there.set (a + k) true) (by omega) (by
        rw [wOne_take e1, ← List.append_assoc]
        exact hl.put (by omega) hh) ks Q hQ hR
      simpa using this
    simp (disch := omega) [e3, bys_get, bls_get, ints_get, g1, g2, g3, g4, ha, e4]
    refine Xg_intro (fun c1 => ?_) (fun c1 => ?_)
    · simp (disch := omega) [c1, e4, g3, bys_get]
      refine Xb_intro (fun c2 => ?_) (fun c2 => ?_)
      · have c3 : out[a + k] ≠ p[k] := by simpa using c2
        simp (disch := omega)
        exact hR (hl.clash (j := a + k) (c := p[k]) (d := out[a + k]) (by omega) (by rw [g4, c1]) g3 c3 (fun x hx => by
          rcases List.mem_append.1 hx with hx | hx
          · exact hw0 x hx
          · obtain ⟨j, hj, rfl⟩ := wOne_mem.1 hx
            rw [List.length_take] at hj
            have := hw j (by omega)
            simpa using this) (hw k e1)) _
      · have c3 : out[a + k] = p[k] := by simpa using c2
        have := next (fun _ => by rw [g3, c3])
        simp (disch := omega) [e4, bys_len, bls_len, bys_set, bls_set]
        exact this
    · have := next (fun h => by rw [g4, c1] at h; cases h)
      simp (disch := omega) [c1, e4, bys_len, bls_len, bys_set, bls_set]
      exact this
def zS (at' : List Int) (parts : List (List UInt8)) : List (Nat × List UInt8) := (at'.zip parts).map fun q => (q.1.toNat, q.2)
theorem zS_len {at' : List Int} {parts : List (List UInt8)} (h : at'.length = parts.length) : (zS at' parts).length = parts.length := by simp [zS, h]
theorem zS_get {at' : List Int} {parts : List (List UInt8)} (i : Nat) (h1 : i < at'.length) (h2 : i < parts.length) : (zS at' parts)[i]? = some (at'[i].toNat, parts[i]) := by
  have : i < (at'.zip parts).length := by simp; omega
  simp [zS, List.getElem?_eq_getElem this]
theorem zS_take {at' : List Int} {parts : List (List UInt8)} (i : Nat) (h1 : i < at'.length) (h2 : i < parts.length) : wAll ((zS at' parts).take (i + 1)) = wAll ((zS at' parts).take i) ++ wOne at'[i].toNat parts[i] := by
  rw [List.take_succ, zS_get i h1 h2, wAll_app]
  congr 1
  simp [wAll]
theorem fill_loop2 (n : Nat) (at' : List Int) (parts : List (List UInt8)) (hn2 : n ≤ 3192) (hlen : at'.length = parts.length) (hl : parts.length < 4611686018427387904) (hfit : ∀ j (h1 : j < at'.length) (h2 : j < parts.length), fitS n at'[j] parts[j] = true) : ∀ (m i : Nat) (out : List UInt8) (there : List Bool), i + m = parts.length → Laid n (wAll ((zS at' parts).take i)) out there → ∀ ks Q,
    (∀ out there e, Laid n (wAll (zS at' parts)) out there → Xk T ks (.x 3) ([(4, .ptr 1 0), (8, .hs 1 3 0 n), (9, .hs 1 4 0 n)] ++ e) (HF n at' parts out there) Q) →
    (¬ okW (wAll (zS at' parts)) → ∀ h, Xk T ks .r [(6, .hn 1), (7, .int .i64 6)] h Q) →
    Xc T l_seg_Fill_2 ks [(4, .ptr 1 0), (8, .hs 1 3 0 n), (9, .hs 1 4 0 n), (45, .ps 1 (byss parts)), (46, .int .i64 parts.length), (47, .int .i64 i)] (HF n at' parts out there) Q := by
  intro m
  induction m with
  | zero =>
    intro i out there hi hL ks Q hQ hR
    rw [L_seg_Fill_2]; unfold bl_seg_Fill_2
    have : i = parts.length := by omega
    subst this
    rw [List.take_of_length_le (by rw [zS_len hlen]; exact Nat.le_refl _)] at hL
    simp (disch := omega)
    exact hQ out there _ hL
  | succ m ih =>
    intro i out there hi hL ks Q hQ hR
    rw [L_seg_Fill_2]; unfold bl_seg_Fill_2
    have e1 : i < parts.length := by omega
    have e2 : i < at'.length := by omega
    have e3 : (i : Int) < parts.length := by omega
    have g1 := List.getElem?_eq_getElem e1
    have hf := hfit i e2 e1
    simp only [fitS, Bool.and_eq_true, decide_eq_true_eq] at hf
    have ha : at'[i] = (at'[i].toNat : Nat) := by omega
    have hmem : (at'[i].toNat, parts[i]) ∈ zS at' parts := List.mem_of_getElem? (zS_get i e2 e1)
    simp (disch := omega) [e3, byss_get, g1, bys_len]
    refine fill_loop1 n at' parts (wAll ((zS at' parts).take i)) (wAll (zS at' parts)) i at'[i].toNat parts[i] hn2 e2 ha (by omega) (.int .i64 parts.length) (fun k hk => wAll_mem.2 ⟨_, hmem, wOne_mem.2 ⟨k, hk, rfl⟩⟩) (fun x hx => by
      obtain ⟨q, hq, hx⟩ := wAll_mem.1 hx
      exact wAll_mem.2 ⟨q, List.mem_of_mem_take hq, hx⟩) parts[i].length 0 out there (by omega) (by simpa [wOne] using hL) _ _ (fun out there e hL => ?_) (fun hno h => ?_)
    · have := ih (i + 1) out there (by omega) (by rw [zS_take i e2 e1]; exact hL) ks Q hQ hR
      simp (disch := omega)
      simpa using this
    · simp (disch := omega)
      exact hR hno h
theorem Index_b_loop (h : Heap) (l : List Bool) (x : Bool) (hb : l.length < 4611686018427387904) : ∀ (k i : Nat), i + k = l.length → ∀ ks Q,
    (x ∉ l.drop i → Xk T ks (.x 0) [(0, .ps 1 (bls l)), (1, .bool x), (7, .int .i64 l.length), (8, .int .i64 l.length), (9, .bool false)] h Q) →
    (x ∈ l.drop i → ∀ j : Nat, Xk T ks .r [(4, .int .i64 j)] h Q) →
    Xc T l_slices_Index_bool_bool_0 ks [(0, .ps 1 (bls l)), (1, .bool x), (7, .int .i64 l.length), (8, .int .i64 i)] h Q := by
  intro k
  induction k with
  | zero =>
    intro i hk ks Q h1 h2
    rw [L_slices_Index_bool_bool_0]; unfold bl_slices_Index_bool_bool_0
    have e0 : i = l.length := by omega
    subst e0
    simp (disch := omega)
    exact h1 (by simp)
  | succ k ih =>
    intro i hk ks Q h1 h2
    rw [L_slices_Index_bool_bool_0]; unfold bl_slices_Index_bool_bool_0
    have e1 : i < l.length := by omega
    have e3 : (i : Int) < l.length := by omega
    have da : l.drop i = l[i] :: l.drop (i + 1) := List.drop_eq_getElem_cons e1
    simp (disch := omega) [bls_get, e3, List.getElem?_eq_getElem e1]
    by_cases he : x = l[i]
    · simp (disch := omega) [he]
      exact h2 (by rw [da, ← he]; simp) i
    · have he2 : (x == l[i]) = false := by simpa using he
      simp (disch := omega) [he2]
      have := ih (i + 1) (by omega) ks Q (fun hh => h1 (by rw [da, List.mem_cons]; exact fun q => q.elim he hh)) (fun hh => h2 (by rw [da, List.mem_cons]; exact .inr hh))
      simpa using this
theorem Index_b_run (l : List Bool) (x : Bool) (h : Heap) (hb : l.length < 4611686018427387904) : ∃ j : Int, (0 ≤ j ↔ x ∈ l) ∧ Run T f_slices_Index_bool_bool [.ps 1 (bls l), .bool x] h (.int .i64 j) h := by
  obtain ⟨v, h', ⟨k, rfl, rfl, hk⟩, hr⟩ := Run.startP (P := fun v h' => ∃ k : Int, v = .int .i64 k ∧ h' = h ∧ (0 ≤ k ↔ x ∈ l)) t_slices_Index_bool_bool (vs := [.ps 1 (bls l), .bool x]) (h := h) (by
    unfold k_slices_Index_bool_bool
    simp (disch := omega) [bls_len]
    have := Index_b_loop h l x hb l.length 0 (by omega)
    simp at this
    refine this _ _ (fun hx => ?_) (fun hx j => ?_)
    · simp (disch := omega) [hx]
    · simp (disch := omega) [hx])
  exact ⟨k, hk, hr⟩
theorem Contains_b_run (l : List Bool) (x : Bool) (h : Heap) (hb : l.length < 4611686018427387904) : Run T f_slices_Contains_bool_bool [.ps 1 (bls l), .bool x] h (.bool (decide (x ∈ l))) h := by
  refine Run.start t_slices_Contains_bool_bool ?_
  unfold k_slices_Contains_bool_bool
  obtain ⟨j, hj, hr⟩ := Index_b_run l x [] hb
  simp (disch := omega)
  rw [Xp_run hr (by simp [bls_hfs]) rfl (by simp [scalar])]
  simp (disch := omega) [hj]
/-- What Fill yields. -/
def FillR (n : Int) (at' : List Int) (parts : List (List UInt8)) (u : V) : Prop := ∃ b e, u = .tup [.ps 1 (bys b), .int .i64 e] ∧
  ((n < 0 ∨ 3192 < n) ∧ b = [] ∧ e = 3 ∨ 0 ≤ n ∧ n ≤ 3192 ∧ (at'.length ≠ parts.length ∧ b = [] ∧ e = 2 ∨ at'.length = parts.length ∧
    ((∃ j, ∃ h1 : j < at'.length, ∃ h2 : j < parts.length, fitS n at'[j] parts[j] = false) ∧ b = [] ∧ e = 3 ∨
     (∀ j (h1 : j < at'.length) (h2 : j < parts.length), fitS n at'[j] parts[j] = true) ∧ FillP n.toNat (wAll (zS at' parts)) b e)))
theorem Fill_run (n : Int) (at' : List Int) (parts : List (List UInt8)) (hl1 : at'.length < 4611686018427387904) (hl2 : parts.length < 4611686018427387904) (hp : ∀ p ∈ parts, p.length ≤ 140737488351232) :
    ∃ u h', FillR n at' parts u ∧ Run T f_seg_Fill [.int .i64 n, .ps 1 (ints at'), .ps 1 (byss parts)] [] u h' := by
  refine Run.startP (P := fun u h' => FillR n at' parts u) t_seg_Fill ?_
  unfold k_seg_Fill
  simp (disch := omega)
  have f1 : (n < 0 ∨ 3192 < n) → FillR n at' parts (.tup [.ps 1 [], .int .i64 3]) := fun c => ⟨[], 3, rfl, .inl ⟨c, rfl, rfl⟩⟩
  refine Xg_decn (fun c1 => ?_) (fun c1 => ?_)
  · simp (disch := omega) [c1]
    refine Xb_dec (fun c2 => ?_) (fun c2 => ?_)
    · have := f1 (.inr (by omega))
      simp (disch := omega) [this]
    · have c3 : 0 ≤ n := by omega
      have c4 : n ≤ 3192 := by omega
      obtain ⟨m, rfl⟩ := Int.eq_ofNat_of_zero_le c3
      by_cases c5 : at'.length = parts.length
      · simp (disch := omega) [ints_len, byss_len, c5]
        apply Xc_regf
        simp (disch := omega)
        simp (disch := omega) [flagsIn, flagP, evOp]
        have hH : [some [V.int IntKind.i64 (m : Int)], some [V.ps 1 (ints at')], some [V.ps 1 (byss parts)], some (List.replicate m (V.int IntKind.u8 0)), some (List.replicate m (V.bool false))] = HF (m : Int) at' parts (List.replicate m 0) (List.replicate m false) := by
          unfold HF; rw [bys_rep, bls_rep]
        rw [byss_len, hH]
        refine fill_loop0 m at' parts _ _ c3 c4 c5 hl2 hp parts.length 0 (by omega) _ _ (fun hfit e => ?_) (fun hex => ?_)
        · simp (disch := omega) [byss_len]
          have hfit' : ∀ j (h1 : j < at'.length) (h2 : j < parts.length), fitS m at'[j] parts[j] = true := fun j h1 h2 => hfit j h1 h2 (Nat.zero_le _)
          have fin : ∀ b e, FillP m (wAll (zS at' parts)) b e → FillR m at' parts (.tup [.ps 1 (bys b), .int .i64 e]) := fun b e hP => ⟨b, e, rfl, .inr ⟨c3, c4, .inr ⟨c5, .inr ⟨fun j h1 h2 => hfit j h1 h2 (Nat.zero_le _), hP⟩⟩⟩⟩
          refine fill_loop2 m at' parts (by omega) c5 hl2 hfit' parts.length 0 _ _ (by omega) (by simpa [wAll] using Laid.start m) _ _ (fun out there e hL => ?_) (fun hno h => ?_)
          · have hcs : hsCells (HF (m : Int) at' parts out there) 1 4 0 m = some (bls there) := by
              rw [hs_cells HF_4 (by rw [bls_len, hL.tlen]; omega)]
              simp only [List.drop_zero, Nat.mul_one]
              rw [← hL.tlen, ← bls_len, List.take_length]
            have htl : there.length < 4611686018427387904 := by rw [hL.tlen]; omega
            have hck : chunk 1 false m (bls there) = bls there := chunk1 _ _ (by rw [bls_len, hL.tlen])
            have hok : chunkOk 1 false (bls there) = true := by simp only [chunkOk, bls_one]; rfl
            simp (disch := omega) [hcs, hok, hck]
            rw [Xp_run (Contains_b_run there false [] htl) (by simp [bls_hfs]) rfl (by simp [scalar])]
            simp (disch := omega)
            refine Xb_dec (fun d1 => ?_) (fun d1 => ?_)
            · have hnc : ¬ covW (wAll (zS at' parts)) m := fun hc => by
                obtain ⟨k, hk, hk2⟩ := List.getElem_of_mem d1
                have := (hL.th k (by rw [← hL.tlen]; exact hk)).2 (hc k (by rw [← hL.tlen]; exact hk))
                rw [List.getElem?_eq_getElem hk, hk2] at this
                cases this
              have := fin [] 8 (.inr (.inl ⟨hL.ok, hnc, rfl, rfl⟩))
              simp (disch := omega)
              exact this
            · have hc : covW (wAll (zS at' parts)) m := fun k hk => by
                have hk2 : k < there.length := by rw [hL.tlen]; exact hk
                refine (hL.th k hk).1 ?_
                rw [List.getElem?_eq_getElem hk2]
                cases hb : there[k] with
                | true => rfl
                | false => exact absurd (hb ▸ List.getElem_mem hk2) d1
              have hfz := freeze_hs (h := HF (m : Int) at' parts out there) (b := 3) HF_3 (bys_one out)
              rw [bys_len, hL.len] at hfz
              have := fin out 0 (.inr (.inr ⟨hL.ok, hc, hL.len, hL.val, rfl⟩))
              simp (disch := omega) [hfz]
              exact this
          · have := fin [] 6 (.inl ⟨hno, rfl, rfl⟩)
            simp (disch := omega)
            exact this
        · have : FillR m at' parts (.tup [.ps 1 [], .int .i64 3]) := ⟨[], 3, rfl, .inr ⟨c3, c4, .inr ⟨c5, .inl ⟨hex, rfl, rfl⟩⟩⟩⟩
          simp (disch := omega)
          exact this
      · have : FillR m at' parts (.tup [.ps 1 [], .int .i64 2]) := ⟨[], 2, rfl, .inr ⟨c3, c4, .inl ⟨c5, rfl, rfl⟩⟩⟩
        have c6 : ¬ ((at'.length : Int) = parts.length) := by omega
        simp (disch := omega) [ints_len, byss_len, c6, this]
  · have := f1 (.inl (by omega))
    simp (disch := omega) [c1, this]
end Ev
