/- Seg: any bytes in parts. Each theorem states its own conditions. -/
import Derived.Test.YtmbheeapegpmlaaSSeg3
set_option linter.all false
namespace Ev
open Go
set_option maxRecDepth 10000
attribute [-simp] getElem?_pos getElem?_neg

/-- The places and the parts, the last one first. -/
def atR (k : Nat) : List Int := ((List.range k).map fun i : Nat => (100 * i : Int)).reverse
def backR (b : List UInt8) (k : Nat) : List (List UInt8) := (cutS b k).reverse
theorem atR_succ (k : Nat) : atR (k + 1) = (100 * k : Int) :: atR k := by simp [atR, List.range_succ]
theorem backR_succ (b : List UInt8) (k : Nat) : backR b (k + 1) = partS b k :: backR b k := by simp [backR, cutS_succ]
theorem atR_len (k : Nat) : (atR k).length = k := by simp [atR]
theorem backR_len (b : List UInt8) (k : Nat) : (backR b k).length = k := by simp [backR, cutS_len]
theorem cutS_get (b : List UInt8) (n k : Nat) (h : k < n) : (cutS b n)[k]? = some (partS b k) := by simp [cutS, List.getElem?_range h]

theorem cuts_loop (b : List UInt8) (iv : V) (h : Heap) (hb : b.length ≤ 3192) (n : Nat) (hn : (n : Int) = frN b.length) : ∀ (m k : Nat), k + m = n → ∀ ks Q,
    (∀ e, Xk T ks (.x 0) ([(0, .ps 1 (bys b)), (1, iv), (5, .ps 1 (byss (cutS b n))), (6, .int .i64 n), (7, .ps 1 (ints (atR n))), (8, .ps 1 (byss (backR b n)))] ++ e) h Q) →
    Xc T l_law31_SegCuts_0 ks [(0, .ps 1 (bys b)), (1, iv), (5, .ps 1 (byss (cutS b n))), (6, .int .i64 n), (7, .ps 1 (ints (atR k))), (8, .ps 1 (byss (backR b k))), (9, .int .i64 k)] h Q := by
  have hn2 : n ≤ 32 := by have : frN b.length ≤ 32 := by { unfold frN; split <;> omega }; omega
  intro m
  induction m with
  | zero =>
    intro k hk ks Q hQ
    rw [L_law31_SegCuts_0]; unfold bl_law31_SegCuts_0
    have : k = n := by omega
    subst this
    simp (disch := omega)
    exact hQ _
  | succ m ih =>
    intro k hk ks Q hQ
    rw [L_law31_SegCuts_0]; unfold bl_law31_SegCuts_0
    have e1 : (k : Int) < n := by omega
    have e2 := frN_of b.length k (by omega)
    have g1 := cutS_get b n k (by omega)
    have e3 : offS k = 100 * k := by unfold offS; omega
    have next := ih (k + 1) (by omega) ks Q hQ
    rw [atR_succ, backR_succ] at next
    have hn3 : frN b.length = (n : Int) := hn.symm
    have hal : (ints (atR k)).length = k := by rw [ints_len, atR_len]
    have hbl : (byss (backR b k)).length = k := by rw [byss_len, backR_len]
    simp (disch := omega) [e1, byss_get, g1, bys_back, hal, hbl, RPart_p, bys_len, segLast_p, hn3, Offset_p, e3]
    exact next
theorem zS_R (b : List UInt8) : ∀ (n : Nat) (q : Nat × List UInt8), q ∈ zS (atR n) (backR b n) ↔ ∃ k, k < n ∧ q = (100 * k, partS b k)
  | 0, q => by simp [zS, atR]
  | n + 1, q => by
    have : zS (atR (n + 1)) (backR b (n + 1)) = (100 * n, partS b n) :: zS (atR n) (backR b n) := by
      rw [atR_succ, backR_succ]
      unfold zS
      rw [List.zip_cons_cons, List.map_cons]
      congr 2
    rw [this, List.mem_cons, zS_R b n q]
    constructor
    · rintro (rfl | ⟨k, hk, rfl⟩)
      · exact ⟨n, by omega, rfl⟩
      · exact ⟨k, by omega, rfl⟩
    · rintro ⟨k, hk, rfl⟩
      rcases Nat.eq_or_lt_of_le (Nat.le_of_lt_succ hk) with rfl | h
      · exact .inl rfl
      · exact .inr ⟨k, h, rfl⟩
theorem atR_pos (n : Nat) : ∀ x ∈ atR n, 0 ≤ x := fun x hx => by
  unfold atR at hx
  rw [List.mem_reverse, List.mem_map] at hx
  obtain ⟨k, _, rfl⟩ := hx
  omega
theorem partS_get (b : List UInt8) (k j : Nat) (h : j < (partS b k).length) : b[100 * k + j]? = some (partS b k)[j] := by
  have h2 : j < 100 := by unfold partS at h; rw [List.length_take] at h; omega
  rw [← List.getElem?_eq_getElem h]
  unfold partS
  rw [List.getElem?_take, if_pos h2, List.getElem?_drop]
theorem partS_len (b : List UInt8) (k : Nat) : (partS b k).length = min 100 (b.length - 100 * k) := by unfold partS; simp
theorem cut_fill (b : List UInt8) (n : Nat) (hn : (n : Int) = frN b.length) (hb : b.length ≤ 3192) {u : V} (h : FillR b.length (atR n) (backR b n) u) : u = .tup [.ps 1 (bys b), .int .i64 0] := by
  have hlen : (atR n).length = (backR b n).length := by rw [atR_len, backR_len]
  have hle := frN_le b.length
  have hfit : ∀ j (h1 : j < (atR n).length) (h2 : j < (backR b n).length), fitS b.length (atR n)[j] (backR b n)[j] = true := fun j h1 h2 => by
    obtain ⟨k, hk, he⟩ := (zS_R b n _).1 (List.mem_of_getElem? (zS_get (at' := atR n) (parts := backR b n) j h1 h2))
    have h3 := atR_pos n _ (List.getElem_mem h1)
    have e1 := congrArg Prod.fst he
    have e2 := congrArg Prod.snd he
    simp only at e1 e2
    have h4 := partS_len b k
    have h5 := frN_of b.length k (by omega)
    rw [e2]
    simp only [fitS, Bool.and_eq_true, decide_eq_true_eq]
    omega
  have hval : ∀ p ∈ wAll (zS (atR n) (backR b n)), b[p.1]? = some p.2 := fun p hp => by
    obtain ⟨q, hq, hx⟩ := wAll_mem.1 hp
    obtain ⟨k, hk, rfl⟩ := (zS_R b n q).1 hq
    obtain ⟨j, hj, rfl⟩ := wOne_mem.1 hx
    exact partS_get b k j hj
  have hP : FillP b.length (wAll (zS (atR n) (backR b n))) b 0 := by
    refine .inr (.inr ⟨fun p hp q hq e => ?_, fun i hi => ?_, rfl, hval, rfl⟩)
    · have h1 := hval p hp
      rw [e, hval q hq] at h1
      exact (Option.some.inj h1).symm
    · have h1 : i / 100 < n := by omega
      have h2 : i % 100 < (partS b (i / 100)).length := by rw [partS_len]; omega
      refine ⟨(100 * (i / 100) + i % 100, (partS b (i / 100))[i % 100]), wAll_mem.2 ⟨_, (zS_R b n _).2 ⟨i / 100, h1, rfl⟩, wOne_mem.2 ⟨_, h2, rfl⟩⟩, ?_⟩
      simp only
      omega
  obtain ⟨c, e, rfl, h⟩ := h
  rcases h with ⟨h1, _⟩ | ⟨_, _, ⟨h1, _⟩ | ⟨_, h⟩⟩
  · omega
  · exact absurd hlen h1
  · rcases h with ⟨⟨j, h1, h2, h3⟩, _⟩ | ⟨_, h2⟩
    · rw [hfit j h1 h2] at h3; cases h3
    · obtain ⟨rfl, rfl⟩ := h2.det hP
      rfl
theorem SegCuts_run (b : List UInt8) (i : Int) (hl : b.length < 4611686018427387904) (hi : i < 9223372036854775808) : ∃ h', Run T f_law31_SegCuts [.ps 1 (bys b), .int .i64 i] [] (.bool true) h' := by
  refine Run.startE t_law31_SegCuts ?_
  unfold k_law31_SegCuts
  simp (disch := omega) [bys_len]
  refine Xb_dec (fun c1 => ?_) (fun c1 => ?_)
  · simp (disch := omega) [awake31_p]
  · have hb : b.length ≤ 3192 := by omega
    have b0 : 0 ≤ frN b.length := by unfold frN; split <;> omega
    have b1 : frN b.length ≤ 32 := by unfold frN; split <;> omega
    obtain ⟨n, hn⟩ := Int.eq_ofNat_of_zero_le b0
    have hn2 : (frN b.length).toNat = n := by omega
    have hcut := Cut_run b [] hb
    rw [hn2] at hcut
    simp (disch := omega)
    rw [Xp_run hcut (by simp [bys_hfs]) (by simp [byss_hfs]) (by simp)]
    simp (disch := omega) [bys_len, RFrames_p, byss_len, cutS_len, hn]
    refine cuts_loop b (.int .i64 i) [] hb n hn.symm n 0 (by omega) _ _ fun e => ?_
    have hpart := segPart_run b i [] hb
    obtain ⟨u, hu, hF, hfill⟩ := Fill_run b.length (atR n) (backR b n) (by rw [atR_len]; omega) (by rw [backR_len]; omega) (fun p hp => by
      unfold backR cutS at hp
      rw [List.mem_reverse, List.mem_map] at hp
      obtain ⟨k, _, rfl⟩ := hp
      rw [partS_len]; omega)
    obtain rfl := cut_fill b n hn.symm hb hF
    have hle := frN_le b.length
    have hflat : (cutS b n).flatten = b := by rw [cut_flat]; exact List.take_of_length_le (by omega)
    have hjoin := Join_run (cutS b n) [] (by rw [cutS_len]; omega) (fun k => by
      have : ((cutS b n).take k).flatten.length ≤ (cutS b n).flatten.length := by
        conv => rhs; rw [← List.take_append_drop k (cutS b n)]
        rw [List.flatten_append, List.length_append]
        omega
      rw [hflat] at this
      omega)
    rw [hflat] at hjoin
    simp (disch := omega)
    by_cases c2 : i < 0
    · rw [if_pos (.inl c2)] at hpart
      rw [Xp_run hpart (by simp [bys_hfs]) (by simp) (by simp)]
      have c3 : ¬ 0 ≤ i := by omega
      simp (disch := omega) [c2, c3, bys_len, segLast_p]
      rw [Xp_run hfill (by simp [ints_hfs, byss_hfs]) (by simp [bys_hfs]) (by simp)]
      simp (disch := omega) [awake31_p]
      rw [Xp_run hjoin (by simp [byss_hfs]) (by simp [bys_hfs]) (by simp)]
      simp (disch := omega) [bys_back]
    · by_cases c3 : frN b.length ≤ i
      · rw [if_pos (.inr c3)] at hpart
        rw [Xp_run hpart (by simp [bys_hfs]) (by simp) (by simp)]
        have c4 : ¬ i = (n : Int) - 1 := by omega
        have c5 : (n : Int) ≤ i := by omega
        simp (disch := omega) [c2, c4, c5, bys_len, segLast_p, hn]
        rw [Xp_run hfill (by simp [ints_hfs, byss_hfs]) (by simp [bys_hfs]) (by simp)]
        simp (disch := omega) [awake31_p]
        rw [Xp_run hjoin (by simp [byss_hfs]) (by simp [bys_hfs]) (by simp)]
        simp (disch := omega) [bys_back]
      · rw [if_neg (by omega)] at hpart
        rw [Xp_run hpart (by simp [bys_hfs]) (by simp [bys_hfs]) (by simp)]
        obtain ⟨k, rfl⟩ := Int.eq_ofNat_of_zero_le (show 0 ≤ i by omega)
        have c5 : ¬ (n : Int) ≤ k := by omega
        have e2 := frN_of b.length k (by omega)
        simp (disch := omega) [c2, c5, bys_back, RPart_p, bys_len]
        rw [Xp_run hfill (by simp [ints_hfs, byss_hfs]) (by simp [bys_hfs]) (by simp)]
        simp (disch := omega) [awake31_p]
        rw [Xp_run hjoin (by simp [byss_hfs]) (by simp [bys_hfs]) (by simp)]
        simp (disch := omega) [bys_back]
theorem law_SegCuts (x0 x1 : V) (h0 : Ty (.sl false 1 [.i .u8]) x0) (h1 : Ty (.i .i64) x1) : ∃ h', Run T f_law31_SegCuts [x0, x1] [] (.bool true) h' := by
  obtain ⟨b, rfl, hb⟩ := h0.bytes
  obtain ⟨i, rfl, _, hi⟩ := h1.int
  have : IntKind.i64.max = 9223372036854775807 := rfl
  exact SegCuts_run b i (by omega) (by omega)
end Ev
