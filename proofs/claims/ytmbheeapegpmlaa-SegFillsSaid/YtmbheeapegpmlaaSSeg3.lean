/- Seg: the reference's answers. Each theorem states its own conditions. -/
import Derived.Test.YtmbheeapegpmlaaSSeg2
set_option linter.all false
namespace Ev
open Go
set_option maxRecDepth 10000
attribute [-simp] getElem?_pos getElem?_neg

theorem RPart_run (b : List UInt8) (i : Nat) (h : Heap) (hb : b.length ≤ 3192) (hi : 100 * i ≤ b.length) : Run T f_ref31_Part [.str b, .int .i64 i] h (.str (partS b i)) h := by
  refine Run.start t_ref31_Part ?_
  unfold k_ref31_Part
  have e2 : (min ((100 : Int) * i + 100) b.length).toNat = min (100 * i + 100) b.length := by omega
  have e3 : ((100 : Int) * i).toNat = 100 * i := by omega
  have e4 : ((b.take (min (100 * i + 100) b.length)).drop (100 * i)) = partS b i := by
    unfold partS
    rw [List.drop_take]
    exact List.take_eq_take_iff.2 (by simp; omega)
  simp (disch := omega) [Low_pb, e2, e3, e4]
section
variable {ks : List Kt} {ops : List AOpr} {K : Kp} {e : Env} {h : Heap} {Q : Ex → Env → Heap → Prop} {d : Nat} {lent : Bool}
theorem RPart_p (b : List UInt8) (i : Nat) (hb : b.length ≤ 3192) (hi : 100 * i ≤ b.length) : Xp T f_ref31_Part (some ([.str b, .int .i64 i], lent)) h (some d) ops K ks e Q = Xo T ops K ks ((d, .str (partS b i)) :: e) h Q :=
  Xp_run (RPart_run b i [] hb hi) (by simp) (by simp) (by simp [scalar])
end

theorem rfill_loop0 (n : Nat) (at' : List Int) (parts : List (List UInt8)) (h : Heap) (hn : n ≤ 3192) (hlen : at'.length = parts.length) (hl : parts.length < 4611686018427387904) (hp : ∀ p ∈ parts, p.length ≤ 140737488351232) : ∀ (m i : Nat), i + m = parts.length → ∀ ks Q,
    ((∀ j (h1 : j < at'.length) (h2 : j < parts.length), i ≤ j → fitS n at'[j] parts[j] = true) → ∀ e, Xk T ks (.x 0) ([(0, .int .i64 n), (1, .ps 1 (ints at')), (2, .ps 1 (byss parts))] ++ e) h Q) →
    ((∃ j, ∃ h1 : j < at'.length, ∃ h2 : j < parts.length, fitS n at'[j] parts[j] = false) → Xk T ks .r [(6, .str []), (7, .int .i64 3)] h Q) →
    Xc T l_ref31_Fill_0 ks [(0, .int .i64 n), (1, .ps 1 (ints at')), (2, .ps 1 (byss parts)), (8, .int .i64 i)] h Q := by
  intro m
  induction m with
  | zero =>
    intro i hi ks Q hQ hR
    rw [L_ref31_Fill_0]; unfold bl_ref31_Fill_0
    have : i = parts.length := by omega
    subst this
    simp (disch := omega) [byss_len]
    exact hQ (fun j h1 h2 h3 => by omega) _
  | succ m ih =>
    intro i hi ks Q hQ hR
    rw [L_ref31_Fill_0]; unfold bl_ref31_Fill_0
    have e1 : i < parts.length := by omega
    have e2 : i < at'.length := by omega
    have e3 : (i : Int) < parts.length := by omega
    have g1 := List.getElem?_eq_getElem e1
    have g2 := List.getElem?_eq_getElem e2
    have b1 := hp _ (List.getElem_mem e1)
    have yes : fitS n at'[i] parts[i] = true → Xc T l_ref31_Fill_0 ks [(0, .int .i64 n), (1, .ps 1 (ints at')), (2, .ps 1 (byss parts)), (8, .int .i64 ((i : Int) + 1))] h Q := fun hf => by
      have := ih (i + 1) (by omega) ks Q (fun h => hQ fun j h1 h2 h3 => by
        rcases Nat.eq_or_lt_of_le h3 with rfl | h3
        · exact hf
        · exact h j h1 h2 h3) hR
      simpa using this
    have no : fitS n at'[i] parts[i] = false → Xk T ks .r [(6, .str []), (7, .int .i64 3)] h Q := fun hf => hR ⟨i, e2, e1, hf⟩
    simp (disch := omega) [byss_len, e3, ints_get, byss_get, g1, g2]
    refine Xg_decn (fun c1 => ?_) (fun c1 => ?_)
    · simp (disch := omega) [c1, ints_get, g2]
      refine Xg_decn (fun c2 => ?_) (fun c2 => ?_)
      · simp (disch := omega) [c1, c2, ints_get, byss_get, g1, g2, bys_len]
        refine Xb_dec (fun c3 => ?_) (fun c3 => ?_)
        · simp (disch := omega)
          exact no (by simp [fitS]; omega)
        · simp (disch := omega)
          exact yes (by simp [fitS]; omega)
      · simp (disch := omega) [c1, c2]
        exact no (by simp [fitS]; omega)
    · simp (disch := omega) [c1]
      exact no (by simp [fitS]; omega)

/-- The byte that writes lay at a place, or -1. -/
def CAt (w : Wr) (k : Nat) (c : Int) : Prop := (c = -1 ∧ ∀ p ∈ w, p.1 ≠ k) ∨ ∃ b : UInt8, c = b.toNat ∧ (∃ p ∈ w, p.1 = k) ∧ ∀ p ∈ w, p.1 = k → p.2 = b
theorem wOne_at {a : Nat} {p : List UInt8} {k : Nat} {x : Nat × UInt8} (hx : x ∈ wOne a p) (hk : x.1 = k) : ∃ h : k - a < p.length, a ≤ k ∧ x.2 = p[k - a] := by
  obtain ⟨j, hj, rfl⟩ := wOne_mem.1 hx
  simp only at hk
  subst hk
  exact ⟨by omega, by omega, by simp⟩
theorem rfill_loop1 (n : Nat) (at' : List Int) (parts : List (List UInt8)) (h : Heap) (hn : n ≤ 3192) (hlen : at'.length = parts.length) (hl : parts.length < 4611686018427387904) (hfit : ∀ j (h1 : j < at'.length) (h2 : j < parts.length), fitS n at'[j] parts[j] = true) (k : Nat) (hk : k < n) (s : List UInt8) (er : V) : ∀ (m i : Nat) (c : Int), i + m = parts.length → CAt (wAll ((zS at' parts).take i)) k c → ∀ ks Q,
    (∀ c e, CAt (wAll (zS at' parts)) k c → Xk T ks (.x 4) ([(0, .int .i64 n), (1, .ps 1 (ints at')), (2, .ps 1 (byss parts)), (9, .str s), (10, er), (11, .int .i64 k), (12, .int .i64 c)] ++ e) h Q) →
    (¬ okW (wAll (zS at' parts)) → Xk T ks .r [(6, .str []), (7, .int .i64 6)] h Q) →
    Xc T l_ref31_Fill_1 ks [(0, .int .i64 n), (1, .ps 1 (ints at')), (2, .ps 1 (byss parts)), (9, .str s), (10, er), (11, .int .i64 k), (12, .int .i64 c), (13, .int .i64 i)] h Q := by
  intro m
  induction m with
  | zero =>
    intro i c hi hC ks Q hQ hR
    rw [L_ref31_Fill_1]; unfold bl_ref31_Fill_1
    have : i = parts.length := by omega
    subst this
    rw [List.take_of_length_le (by rw [zS_len hlen]; exact Nat.le_refl _)] at hC
    simp (disch := omega) [byss_len]
    exact hQ c _ hC
  | succ m ih =>
    intro i c hi hC ks Q hQ hR
    rw [L_ref31_Fill_1]; unfold bl_ref31_Fill_1
    have e1 : i < parts.length := by omega
    have e2 : i < at'.length := by omega
    have e3 : (i : Int) < parts.length := by omega
    have g1 := List.getElem?_eq_getElem e1
    have g2 := List.getElem?_eq_getElem e2
    have hf := hfit i e2 e1
    simp only [fitS, Bool.and_eq_true, decide_eq_true_eq] at hf
    have hmem : (at'[i].toNat, parts[i]) ∈ zS at' parts := List.mem_of_getElem? (zS_get i e2 e1)
    have ht := zS_take i e2 e1
    have next : ∀ c', CAt (wAll ((zS at' parts).take (i + 1))) k c' → Xc T l_ref31_Fill_1 ks [(0, .int .i64 n), (1, .ps 1 (ints at')), (2, .ps 1 (byss parts)), (9, .str s), (10, er), (11, .int .i64 k), (12, .int .i64 c'), (13, .int .i64 ((i : Int) + 1))] h Q := fun c' hC' => by
      have := ih (i + 1) c' (by omega) hC' ks Q hQ hR
      simpa using this
    have out : (k < at'[i].toNat ∨ at'[i].toNat + parts[i].length ≤ k) → CAt (wAll ((zS at' parts).take (i + 1))) k c := fun ho => by
      rw [ht]
      have hno : ∀ p ∈ wOne at'[i].toNat parts[i], p.1 ≠ k := fun p hp e => by
        obtain ⟨q1, q2, _⟩ := wOne_at hp e
        omega
      rcases hC with ⟨rfl, h1⟩ | ⟨b, rfl, ⟨p, hp, e⟩, h2⟩
      · exact .inl ⟨rfl, fun p hp => (List.mem_append.1 hp).elim (h1 p) (hno p)⟩
      · exact .inr ⟨b, rfl, ⟨p, List.mem_append.2 (.inl hp), e⟩, fun q hq e2 => (List.mem_append.1 hq).elim (fun hq => h2 q hq e2) fun hq => absurd e2 (hno q hq)⟩
    simp (disch := omega) [byss_len, e3, ints_get, byss_get, g1, g2]
    refine Xg_decn (fun c1 => ?_) (fun c1 => ?_)
    · simp (disch := omega) [c1, ints_get, byss_get, g1, g2, bys_len]
      refine Xb_dec (fun c2 => ?_) (fun c2 => ?_)
      · simp (disch := omega)
        exact next c (out (by omega))
      · have e5 : ((k : Int) - at'[i]).toNat = k - at'[i].toNat := by omega
        have e6 : k - at'[i].toNat < parts[i].length := by omega
        have g3 := List.getElem?_eq_getElem e6
        have u8 := u8_lt parts[i][k - at'[i].toNat]
        have hin : (k, parts[i][k - at'[i].toNat]) ∈ wOne at'[i].toNat parts[i] := wOne_mem.2 ⟨k - at'[i].toNat, e6, by simp; omega⟩
        have hin2 : (k, parts[i][k - at'[i].toNat]) ∈ wAll (zS at' parts) := wAll_mem.2 ⟨_, hmem, hin⟩
        have new : (∀ p ∈ wAll ((zS at' parts).take i), p.1 = k → p.2 = parts[i][k - at'[i].toNat]) → CAt (wAll ((zS at' parts).take (i + 1))) k (parts[i][k - at'[i].toNat].toNat : Nat) := fun hall => by
          rw [ht]
          refine .inr ⟨_, rfl, ⟨_, List.mem_append.2 (.inr hin), rfl⟩, fun p hp e => ?_⟩
          rcases List.mem_append.1 hp with hp | hp
          · exact hall p hp e
          · obtain ⟨_, _, q3⟩ := wOne_at hp e
            exact q3
        simp (disch := omega) [ints_get, byss_get, g1, g2, bys_get, e5, g3]
        refine Xg_dec (fun c3 => ?_) (fun c3 => ?_)
        · simp (disch := omega) [c3]
          rcases hC with ⟨rfl, h1⟩ | ⟨b, rfl, ⟨p, hp, e⟩, h2⟩
          · omega
          by_cases hb : b = parts[i][k - at'[i].toNat]
          · have := next _ (new fun p hp e => by rw [← hb]; exact h2 p hp e)
            simp (disch := omega) [hb]
            exact this
          · have hb2 : ¬ ((b.toNat : Int) = (parts[i][k - at'[i].toNat].toNat : Nat)) := fun h => hb (u8_inj.1 h)
            simp (disch := omega) [hb2]
            refine hR fun hok => hb ?_
            obtain ⟨q, hq, hx⟩ := wAll_mem.1 hp
            have := hok p (wAll_mem.2 ⟨q, List.mem_of_mem_take hq, hx⟩) _ hin2 e
            rw [← h2 p hp e, this]
        · simp (disch := omega) [c3]
          rcases hC with ⟨rfl, h1⟩ | ⟨b, rfl, ⟨p, hp, e⟩, h2⟩
          · exact next _ (new fun p hp e => absurd e (h1 p hp))
          · omega
    · simp (disch := omega) [c1]
      exact next c (out (by omega))
/-- The outer rounds. -/
structure Rnd (w : Wr) (k : Nat) (s : List UInt8) (e : Int) : Prop where
  len : s.length ≤ k
  ok : ∀ p ∈ w, ∀ q ∈ w, p.1 = q.1 → p.1 < k → p.2 = q.2
  res : (e = 0 ∧ s.length = k ∧ ∀ j, j < k → ∃ p ∈ w, p.1 = j ∧ s[j]? = some p.2) ∨ (e = 8 ∧ ∃ j, j < k ∧ ∀ p ∈ w, p.1 ≠ j)
theorem Rnd.start (w : Wr) : Rnd w 0 [] 0 := ⟨by simp, fun _ _ _ _ _ h => by omega, .inl ⟨rfl, rfl, fun j h => by omega⟩⟩
theorem Rnd.none {w : Wr} {k : Nat} {s : List UInt8} {e : Int} (r : Rnd w k s e) (h : ∀ p ∈ w, p.1 ≠ k) : Rnd w (k + 1) s 8 :=
  ⟨by have := r.len; omega, fun p hp q hq e hk => by
    rcases Nat.lt_or_ge p.1 k with h1 | h1
    · exact r.ok p hp q hq e h1
    · exact absurd (show p.1 = k by omega) (h p hp), .inr ⟨rfl, k, by omega, h⟩⟩
theorem Rnd.one {w : Wr} {k : Nat} {s : List UInt8} {e : Int} {b : UInt8} (r : Rnd w k s e) (hx : ∃ p ∈ w, p.1 = k) (h : ∀ p ∈ w, p.1 = k → p.2 = b) : Rnd w (k + 1) (s ++ [b]) e := by
  refine ⟨by have := r.len; simp; omega, fun p hp q hq e hk => ?_, ?_⟩
  · rcases Nat.lt_or_ge p.1 k with h1 | h1
    · exact r.ok p hp q hq e h1
    · have : p.1 = k := by omega
      rw [h p hp this, h q hq (by omega)]
  · rcases r.res with ⟨h1, h2, h3⟩ | ⟨h1, j, h2, h3⟩
    · refine .inl ⟨h1, by simp [h2], fun j hj => ?_⟩
      rcases Nat.lt_or_ge j k with h4 | h4
      · obtain ⟨p, hp, e, hs⟩ := h3 j h4
        exact ⟨p, hp, e, by rw [List.getElem?_append_left (by omega)]; exact hs⟩
      · have : j = k := by omega
        subst this
        obtain ⟨p, hp, e⟩ := hx
        exact ⟨p, hp, e, by rw [List.getElem?_append_right (by omega), h2, Nat.sub_self, h p hp e]; rfl⟩
    · exact .inr ⟨h1, j, by omega, h3⟩
theorem rfill_loop2 (n : Nat) (at' : List Int) (parts : List (List UInt8)) (h : Heap) (hn : n ≤ 3192) (hlen : at'.length = parts.length) (hl : parts.length < 4611686018427387904) (hfit : ∀ j (h1 : j < at'.length) (h2 : j < parts.length), fitS n at'[j] parts[j] = true) : ∀ (m k : Nat) (s : List UInt8) (er : Int), k + m = n → Rnd (wAll (zS at' parts)) k s er → ∀ ks Q,
    (∀ s er e, Rnd (wAll (zS at' parts)) n s er → Xk T ks (.x 2) ([(0, .int .i64 n), (1, .ps 1 (ints at')), (2, .ps 1 (byss parts)), (9, .str s), (10, .int .i64 er)] ++ e) h Q) →
    (¬ okW (wAll (zS at' parts)) → Xk T ks .r [(6, .str []), (7, .int .i64 6)] h Q) →
    Xc T l_ref31_Fill_2 ks [(0, .int .i64 n), (1, .ps 1 (ints at')), (2, .ps 1 (byss parts)), (9, .str s), (10, .int .i64 er), (11, .int .i64 k)] h Q := by
  intro m
  induction m with
  | zero =>
    intro k s er hk hr ks Q hQ hR
    rw [L_ref31_Fill_2]; unfold bl_ref31_Fill_2
    have : k = n := by omega
    subst this
    simp (disch := omega)
    exact hQ s er _ hr
  | succ m ih =>
    intro k s er hk hr ks Q hQ hR
    rw [L_ref31_Fill_2]; unfold bl_ref31_Fill_2
    have e1 : (k : Int) < n := by omega
    have hsl := hr.len
    simp (disch := omega) [e1]
    refine rfill_loop1 n at' parts h hn hlen hl hfit k (by omega) s (.int .i64 er) parts.length 0 (-1) (by omega) (.inl ⟨rfl, by simp [wAll]⟩) _ _ (fun c e hC => ?_) (fun hno => ?_)
    · rcases hC with ⟨rfl, h1⟩ | ⟨b, rfl, hx, h2⟩
      · have := ih (k + 1) s 8 (by omega) (hr.none h1) ks Q hQ hR
        simp (disch := omega)
        simpa using this
      · have u8 := u8_lt b
        have := ih (k + 1) (s ++ [b]) er (by omega) (hr.one hx h2) ks Q hQ hR
        have hbk : toBytes [V.int .u8 (b.toNat : Int)] = some [b] := bys_back [b]
        have hc : ¬ ((b.toNat : Int) < 0) := by omega
        have hadd : binV .add .int (.str s) (.str [b]) = some (.str (s ++ [b])) := bin_adds _ _ _ (by simp; omega)
        simp (disch := omega) [hc, hbk, hadd]
        simpa using this
    · simp (disch := omega)
      exact hR hno
theorem rnd_fill {n : Nat} {w : Wr} {s : List UInt8} {e : Int} (r : Rnd w n s e) (hlt : ∀ p ∈ w, p.1 < n) : FillP n w (if e = 0 then s else []) e := by
  have hok : okW w := fun p hp q hq h => r.ok p hp q hq h (hlt p hp)
  rcases r.res with ⟨rfl, h2, h3⟩ | ⟨rfl, j, h2, h3⟩
  · refine .inr (.inr ⟨hok, fun k hk => ?_, by simpa using h2, fun p hp => ?_, rfl⟩)
    · obtain ⟨p, hp, e, _⟩ := h3 k hk
      exact ⟨p, hp, e⟩
    · obtain ⟨q, hq, e, hs⟩ := h3 p.1 (hlt p hp)
      rw [hok p hp q hq e.symm]
      simpa using hs
  · refine .inr (.inl ⟨hok, fun hc => ?_, rfl, rfl⟩)
    obtain ⟨p, hp, e⟩ := hc j h2
    exact h3 p hp e
/-- What the reference's Fill yields: of a number in range, and as many places as parts. -/
def RFillR (n : Int) (at' : List Int) (parts : List (List UInt8)) (u : V) : Prop := ∃ b e, u = .tup [.str b, .int .i64 e] ∧
  ((∃ j, ∃ h1 : j < at'.length, ∃ h2 : j < parts.length, fitS n at'[j] parts[j] = false) ∧ b = [] ∧ e = 3 ∨
     (∀ j (h1 : j < at'.length) (h2 : j < parts.length), fitS n at'[j] parts[j] = true) ∧ FillP n.toNat (wAll (zS at' parts)) b e)
theorem wAll_lt (n : Nat) (at' : List Int) (parts : List (List UInt8)) (hlen : at'.length = parts.length) (hfit : ∀ j (h1 : j < at'.length) (h2 : j < parts.length), fitS n at'[j] parts[j] = true) : ∀ p ∈ wAll (zS at' parts), p.1 < n := fun p hp => by
  obtain ⟨q, hq, hx⟩ := wAll_mem.1 hp
  obtain ⟨i, hi, he⟩ := List.getElem_of_mem hq
  have hi2 : i < parts.length := by rw [zS_len hlen] at hi; exact hi
  have hz := zS_get i (by omega : i < at'.length) hi2
  rw [List.getElem?_eq_getElem hi, he] at hz
  have hz := Option.some.inj hz
  have hf := hfit i (by omega) hi2
  simp only [fitS, Bool.and_eq_true, decide_eq_true_eq] at hf
  subst hz
  obtain ⟨j, hj, rfl⟩ := wOne_mem.1 hx
  simp only at hj ⊢
  omega
theorem RFill_run (n : Nat) (at' : List Int) (parts : List (List UInt8)) (h : Heap) (hn : n ≤ 3192) (hlen : at'.length = parts.length) (hl : parts.length < 4611686018427387904) (hp : ∀ p ∈ parts, p.length ≤ 140737488351232) :
    ∃ u h', RFillR n at' parts u ∧ Run T f_ref31_Fill [.int .i64 n, .ps 1 (ints at'), .ps 1 (byss parts)] h u h' := by
  refine Run.startP (P := fun u h' => RFillR n at' parts u) t_ref31_Fill ?_
  unfold k_ref31_Fill
  simp (disch := omega)
  refine rfill_loop0 n at' parts h hn hlen hl hp parts.length 0 (by omega) _ _ (fun hfit e => ?_) (fun hno => ?_)
  · have hfit' : ∀ j (h1 : j < at'.length) (h2 : j < parts.length), fitS n at'[j] parts[j] = true := fun j h1 h2 => hfit j h1 h2 (Nat.zero_le _)
    have fin : ∀ s e, Rnd (wAll (zS at' parts)) n s e → RFillR n at' parts (.tup [.str (if e = 0 then s else []), .int .i64 e]) := fun s e hr => ⟨_, e, rfl, .inr ⟨hfit', by simpa using rnd_fill hr (wAll_lt n at' parts hlen hfit')⟩⟩
    simp (disch := omega)
    refine rfill_loop2 n at' parts h hn hlen hl hfit' n 0 [] 0 (by omega) (Rnd.start _) _ _ (fun s er e hr => ?_) (fun hno => ?_)
    · have := fin s er hr
      simp (disch := omega)
      refine Xb_decn (fun c1 => ?_) (fun c1 => ?_)
      · rw [if_neg c1] at this
        simp (disch := omega)
        exact this
      · rw [if_pos c1, c1] at this
        simp (disch := omega)
        exact this
    · have : RFillR n at' parts (.tup [.str [], .int .i64 6]) := ⟨[], 6, rfl, .inr ⟨hfit', .inl ⟨hno, rfl, rfl⟩⟩⟩
      simp (disch := omega)
      exact this
  · have : RFillR n at' parts (.tup [.str [], .int .i64 3]) := ⟨[], 3, rfl, .inl ⟨hno, rfl, rfl⟩⟩
    simp (disch := omega)
    exact this
theorem fill_same {n : Nat} {at' : List Int} {parts : List (List UInt8)} {u v : V} (hn : n ≤ 3192) (hlen : at'.length = parts.length) (h : FillR n at' parts u) (k : RFillR n at' parts v) : ∃ b e, u = .tup [.ps 1 (bys b), .int .i64 e] ∧ v = .tup [.str b, .int .i64 e] := by
  obtain ⟨b, e, rfl, h⟩ := h
  obtain ⟨c, f, rfl, k⟩ := k
  refine ⟨b, e, rfl, ?_⟩
  have key : b = c ∧ e = f := by
    rcases h with ⟨h1, _⟩ | ⟨_, _, ⟨h1, _⟩ | ⟨_, h⟩⟩
    · omega
    · exact absurd hlen h1
    · rcases h with ⟨⟨j, h1, h2, h3⟩, rfl, rfl⟩ | ⟨h1, h2⟩
      · rcases k with ⟨_, rfl, rfl⟩ | ⟨k1, _⟩
        · exact ⟨rfl, rfl⟩
        · rw [k1 j ‹_› h2] at h3; cases h3
      · rcases k with ⟨⟨j, k1, k2, k3⟩, _⟩ | ⟨_, k2⟩
        · rw [h1 j ‹_› k2] at k3; cases k3
        · exact h2.det k2
  obtain ⟨rfl, rfl⟩ := key
  rfl
theorem awake31 : ∃ h', Run T f_law31_awake [] [] (.bool true) h' := Run.closed (n := 100) (by kernel_rfl)
section
variable {ks : List Kt} {ops : List AOpr} {K : Kp} {e : Env} {h : Heap} {Q : Ex → Env → Heap → Prop} {d : Nat}
theorem awake31_p : Xp T f_law31_awake (some ([], false)) h (some d) ops K ks e Q = Xo T ops K ks ((d, .bool true) :: e) h Q := by
  obtain ⟨ha, haw⟩ := awake31
  exact Xp_run haw rfl rfl rfl
end
theorem SegOffsets_run (i n : Int) (hi : i < 9223372036854775808) : ∃ h', Run T f_law31_SegOffsets [.int .i64 i, .int .i64 n] [] (.bool true) h' := by
  refine Run.startE t_law31_SegOffsets ?_
  unfold k_law31_SegOffsets
  simp (disch := omega)
  refine Xb_dec (fun c1 => ?_) (fun c1 => ?_)
  · have e1 : 100 * min i 1048576 = offS i := by unfold offS; omega
    simp (disch := omega) [Low_pb]
    refine Xb_dec (fun c2 => ?_) (fun c2 => ?_)
    · simp (disch := omega) [awake31_p, Offset_p, e1]
    · have b0 : 0 ≤ frN n := by unfold frN; split <;> omega
      have b1 : frN n ≤ 10001 := by unfold frN; split <;> omega
      have c3 : 0 ≤ i := by omega
      simp (disch := omega) [awake31_p, Offset_p, e1, segLast_p, RFrames_p, c3]
  · have e1 : 0 = offS i := by unfold offS; omega
    simp (disch := omega)
    refine Xb_dec (fun c2 => ?_) (fun c2 => ?_)
    · simp (disch := omega) [awake31_p, Offset_p, ← e1]
    · have b0 : 0 ≤ frN n := by unfold frN; split <;> omega
      have b1 : frN n ≤ 10001 := by unfold frN; split <;> omega
      by_cases c3 : 0 ≤ i
      · simp (disch := omega) [awake31_p, Offset_p, ← e1, segLast_p, RFrames_p, c3]
      · simp (disch := omega) [awake31_p, Offset_p, ← e1, segLast_p, RFrames_p, c3]
theorem law_SegOffsets (x0 x1 : V) (h0 : Ty (.i .i64) x0) (h1 : Ty (.i .i64) x1) : ∃ h', Run T f_law31_SegOffsets [x0, x1] [] (.bool true) h' := by
  obtain ⟨i, rfl, _, hi⟩ := h0.int
  obtain ⟨n, rfl, _⟩ := h1.int
  have : IntKind.i64.max = 9223372036854775807 := rfl
  exact SegOffsets_run i n (by omega)
theorem fills_loop (n : Int) (at' : List Int) (parts : List (List UInt8)) (h : Heap) (hl : parts.length < 4611686018427387904) (hp : ∀ p ∈ parts, p.length ≤ 140737488351232) : ∀ (m i : Nat), i + m = parts.length → ∀ ks Q,
    (∀ e, Xk T ks (.x 0) ([(0, .int .i64 n), (1, .ps 1 (ints at')), (2, .ps 1 (byss parts))] ++ e) h Q) →
    (Xk T ks .r [(6, .bool true)] h Q) →
    Xc T l_law31_SegFills_0 ks [(0, .int .i64 n), (1, .ps 1 (ints at')), (2, .ps 1 (byss parts)), (7, .int .i64 i)] h Q := by
  intro m
  induction m with
  | zero =>
    intro i hi ks Q hQ hR
    rw [L_law31_SegFills_0]; unfold bl_law31_SegFills_0
    have : i = parts.length := by omega
    subst this
    simp (disch := omega) [byss_len]
    exact hQ _
  | succ m ih =>
    intro i hi ks Q hQ hR
    rw [L_law31_SegFills_0]; unfold bl_law31_SegFills_0
    have e1 : i < parts.length := by omega
    have e3 : (i : Int) < parts.length := by omega
    have g1 := List.getElem?_eq_getElem e1
    have b1 := hp _ (List.getElem_mem e1)
    simp (disch := omega) [byss_len, e3, byss_get, g1, bys_len]
    refine Xb_dec (fun c1 => ?_) (fun c1 => ?_)
    · simp (disch := omega) [awake31_p]
      exact hR
    · simp (disch := omega)
      simpa using ih (i + 1) (by omega) ks Q hQ hR
theorem SegFills_run (n : Int) (at' : List Int) (parts : List (List UInt8)) (hl1 : at'.length < 4611686018427387904) (hl2 : parts.length < 4611686018427387904) (hp : ∀ p ∈ parts, p.length ≤ 140737488351232) : ∃ h', Run T f_law31_SegFills [.int .i64 n, .ps 1 (ints at'), .ps 1 (byss parts)] [] (.bool true) h' := by
  refine Run.startE t_law31_SegFills ?_
  unfold k_law31_SegFills
  obtain ⟨u, hu, hF, hrun⟩ := Fill_run n at' parts hl1 hl2 hp
  by_cases c1 : (20 : Int) < at'.length
  · simp (disch := omega) [ints_len, byss_len, c1, awake31_p]
  by_cases c2 : (20 : Int) < parts.length
  · simp (disch := omega) [ints_len, byss_len, c1, c2, awake31_p]
  by_cases c3 : 200 < n
  · by_cases c4 : n ≤ 3192
    · simp (disch := omega) [ints_len, byss_len, c1, c2, c3, c4, awake31_p]
    · simp (disch := omega) [ints_len, byss_len, c1, c2, c3, c4]
      refine fills_loop n at' parts [] hl2 hp parts.length 0 (by omega) _ _ (fun e => ?_) ?_
      · obtain ⟨b, e, rfl, ⟨_, rfl, rfl⟩ | ⟨_, h1, _⟩⟩ := hF
        · simp (disch := omega)
          rw [Xp_run hrun (by simp [ints_hfs, byss_hfs]) (by simp [bys_hfs]) (by simp)]
          have c8 : ¬ n < 0 := by omega
          have c9 : 3192 < n := by omega
          simp (disch := omega) [c8, c9, awake31_p, bys_nil]
        · omega
      · simp (disch := omega)
  · by_cases c5 : n < 0
    · simp (disch := omega) [ints_len, byss_len, c1, c2, c3, c5]
      refine fills_loop n at' parts [] hl2 hp parts.length 0 (by omega) _ _ (fun e => ?_) ?_
      · obtain ⟨b, e, rfl, ⟨_, rfl, rfl⟩ | ⟨h1, _, _⟩⟩ := hF
        · simp (disch := omega)
          rw [Xp_run hrun (by simp [ints_hfs, byss_hfs]) (by simp [bys_hfs]) (by simp)]
          simp (disch := omega) [c5, awake31_p, bys_nil]
        · omega
      · simp (disch := omega)
    · simp (disch := omega) [ints_len, byss_len, c1, c2, c3]
      refine fills_loop n at' parts [] hl2 hp parts.length 0 (by omega) _ _ (fun e => ?_) ?_
      · simp (disch := omega)
        by_cases c6 : at'.length = parts.length
        · obtain ⟨m, rfl⟩ := Int.eq_ofNat_of_zero_le (show 0 ≤ n by omega)
          obtain ⟨v, h2, hF2, hrun2⟩ := RFill_run m at' parts [] (by omega) c6 hl2 hp
          obtain ⟨b, er, rfl, rfl⟩ := fill_same (by omega) c6 hF hF2
          rw [Xp_run hrun (by simp [ints_hfs, byss_hfs]) (by simp [bys_hfs]) (by simp)]
          have c7 : ¬ (3192 < (m : Int)) := by omega
          simp (disch := omega) [c5, c7, c6, ints_len, byss_len]
          rw [Xp_run hrun2 (by simp [ints_hfs, byss_hfs]) (by simp) (by simp [scalar])]
          simp (disch := omega) [awake31_p, bys_back]
        · have c7 : ¬ ((at'.length : Int) = parts.length) := by omega
          obtain ⟨b, er, rfl, ⟨h1, _⟩ | ⟨_, _, ⟨_, rfl, rfl⟩ | ⟨h1, _⟩⟩⟩ := hF
          · omega
          · rw [Xp_run hrun (by simp [ints_hfs, byss_hfs]) (by simp [bys_hfs]) (by simp)]
            have c8 : ¬ 3192 < n := by omega
            simp (disch := omega) [c7, c8, c5, ints_len, byss_len, awake31_p, bys_nil]
          · exact absurd h1 c6
      · simp (disch := omega)
theorem law_SegFills (x0 x1 x2 : V) (h0 : Ty (.i .i64) x0) (h1 : Ty (.sl false 8 [.i .i64]) x1) (h2 : Ty (.sl false 24 [.sl false 1 [.i .u8]]) x2) : ∃ h', Run T f_law31_SegFills [x0, x1, x2] [] (.bool true) h' := by
  obtain ⟨n, rfl, _⟩ := h0.int
  obtain ⟨l, rfl, hl, _⟩ := h1.ints
  obtain ⟨ps, rfl, hp, hb⟩ := h2.bytess
  exact SegFills_run n l ps (by omega) (by omega) (fun p hp => by have := hb p hp; omega)
end Ev
