/- Seg: parts of bytes, and what any writes come to. Each theorem states its own conditions. -/
import Derived.Test.YtmbheeapegpmlaaSFr
set_option linter.all false
namespace Ev
open Go
set_option maxRecDepth 10000
attribute [-simp] getElem?_pos getElem?_neg

def offS (i : Int) : Int := min (max i 0) 1048576 * 100
theorem Offset_run (i : Int) (h : Heap) : Run T f_seg_Offset [.int .i64 i] h (.int .i64 (offS i)) h := by
  refine Run.start t_seg_Offset ?_
  unfold k_seg_Offset
  simp (disch := omega) [offS]
section
variable {ks : List Kt} {ops : List AOpr} {K : Kp} {e : Env} {h : Heap} {Q : Ex → Env → Heap → Prop} {d : Nat} {lent : Bool}
theorem Offset_p (i : Int) : Xp T f_seg_Offset (some ([.int .i64 i], lent)) h (some d) ops K ks e Q = Xo T ops K ks ((d, .int .i64 (offS i)) :: e) h Q :=
  Xp_run (Offset_run i []) (by simp) rfl (by simp [scalar])
end
def partS (b : List UInt8) (i : Nat) : List UInt8 := (b.drop (100 * i)).take 100
theorem segpart_run (b : List UInt8) (i : Nat) (h : Heap) (hb : b.length ≤ 3192) (hi : 100 * i ≤ b.length) : Run T f_seg_part [.ps 1 (bys b), .int .i64 i] h (.ps 1 (bys (partS b i))) h := by
  refine Run.start t_seg_part ?_
  unfold k_seg_part
  have e1 : offS i = 100 * i := by unfold offS; omega
  have e2 : (min ((100 : Int) * i + 100) b.length).toNat = min (100 * i + 100) b.length := by omega
  have e3 : ((100 : Int) * i).toNat = 100 * i := by omega
  have e4 : ((b.take (min (100 * i + 100) b.length)).drop (100 * i)) = partS b i := by
    unfold partS
    rw [List.drop_take]
    exact List.take_eq_take_iff.2 (by simp; omega)
  have e5 : (partS b i).length ≤ 100 := by unfold partS; rw [List.length_take]; omega
  simp (disch := omega) [Offset_p, e1, bys_len, e2, e3, bys_take, bys_drop, e4]
theorem segLast_run (n i : Int) (h : Heap) (hn : n < 9223372036854775808) : Run T f_seg_Last [.int .i64 n, .int .i64 i] h (.bool (decide (0 ≤ i ∧ i = frN n - 1))) h := by
  refine Run.start t_seg_Last ?_
  unfold k_seg_Last
  have b0 : 0 ≤ frN n := by unfold frN; split <;> omega
  have b1 : frN n < 9223372036854775808 := by unfold frN; split <;> omega
  simp (disch := omega)
  refine Xg_dec (fun c1 => ?_) (fun c1 => ?_)
  · simp (disch := omega) [c1, IFrames_p]
  · simp (disch := omega) [c1]
section
variable {ks : List Kt} {ops : List AOpr} {K : Kp} {e : Env} {h : Heap} {Q : Ex → Env → Heap → Prop} {d : Nat} {lent : Bool}
theorem segpart_p (b : List UInt8) (i : Nat) (hb : b.length ≤ 3192) (hi : 100 * i ≤ b.length) : Xp T f_seg_part (some ([.ps 1 (bys b), .int .i64 i], false)) h (some d) ops K ks e Q = Xo T ops K ks ((d, .ps 1 (bys (partS b i))) :: e) h Q :=
  Xp_run (segpart_run b i [] hb hi) (by simp [bys_hfs]) (by simp [bys_hfs]) (by simp [scalar])
theorem segLast_p (n i : Int) (hn : n < 9223372036854775808) : Xp T f_seg_Last (some ([.int .i64 n, .int .i64 i], lent)) h (some d) ops K ks e Q = Xo T ops K ks ((d, .bool (decide (0 ≤ i ∧ i = frN n - 1))) :: e) h Q :=
  Xp_run (segLast_run n i [] hn) (by simp) rfl (by simp [scalar])
end
theorem frN_of (n k : Nat) (h : (k : Int) < frN n) : 100 * k < n := by unfold frN at h; split at h <;> omega
theorem frN_le (n : Nat) : n ≤ 100 * (frN n).toNat := by unfold frN; split <;> omega
def cutS (b : List UInt8) (k : Nat) : List (List UInt8) := (List.range k).map (partS b)
theorem cutS_succ (b : List UInt8) (k : Nat) : cutS b (k + 1) = cutS b k ++ [partS b k] := by simp [cutS, List.range_succ]
theorem cutS_len (b : List UInt8) (k : Nat) : (cutS b k).length = k := by simp [cutS]
theorem cut_loop (b : List UInt8) (h : Heap) (hb : b.length ≤ 3192) : ∀ (m i : Nat), (i : Int) + m = frN b.length → ∀ ks Q,
    (∀ e, Xk T ks (.x 0) ([(0, .ps 1 (bys b)), (3, .ps 1 (byss (cutS b (frN b.length).toNat)))] ++ e) h Q) →
    Xc T l_seg_Cut_0 ks [(0, .ps 1 (bys b)), (3, .ps 1 (byss (cutS b i))), (7, .int .i64 (frN b.length)), (8, .int .i64 i)] h Q := by
  intro m
  have hf : frN b.length ≤ 32 := by unfold frN; split <;> omega
  induction m with
  | zero =>
    intro i hi ks Q hQ
    rw [L_seg_Cut_0]; unfold bl_seg_Cut_0
    have e1 : (i : Int) = frN b.length := by omega
    have e2 : i = (frN b.length).toNat := by omega
    rw [← e2] at hQ
    simp (disch := omega) [e1]
    exact hQ _
  | succ m ih =>
    intro i hi ks Q hQ
    rw [L_seg_Cut_0]; unfold bl_seg_Cut_0
    have e1 : (i : Int) < frN b.length := by omega
    have e2 := frN_of b.length i e1
    have := ih (i + 1) (by omega) ks Q hQ
    rw [cutS_succ, byss_app] at this
    simp (disch := omega) [e1, segpart_p, byss_len, cutS_len]
    simpa [byss] using this
theorem Cut_run (b : List UInt8) (h : Heap) (hb : b.length ≤ 3192) : Run T f_seg_Cut [.ps 1 (bys b)] h (.ps 1 (byss (cutS b (frN b.length).toNat))) h := by
  refine Run.start t_seg_Cut ?_
  unfold k_seg_Cut
  have b0 : 0 ≤ frN b.length := by unfold frN; split <;> omega
  simp (disch := omega) [bys_len, IFrames_p]
  refine cut_loop b h hb (frN b.length).toNat 0 (by omega) _ _ fun e => ?_
  simp (disch := omega)
theorem segPart_run (b : List UInt8) (i : Int) (h : Heap) (hb : b.length ≤ 3192) : Run T f_seg_Part [.ps 1 (bys b), .int .i64 i] h (if i < 0 ∨ frN b.length ≤ i then .tup [.ps 1 [], .int .i64 3] else .tup [.ps 1 (bys (partS b i.toNat)), .int .i64 0]) h := by
  refine Run.start t_seg_Part ?_
  unfold k_seg_Part
  simp (disch := omega)
  refine Xg_decn (fun c1 => ?_) (fun c1 => ?_)
  · simp (disch := omega) [c1, bys_len, IFrames_p]
    refine Xb_dec (fun c2 => ?_) (fun c2 => ?_)
    · simp (disch := omega) [c2]
    · have e1 := frN_of b.length i.toNat (by omega)
      have e2 : ((i.toNat : Nat) : Int) = i := by omega
      have hp := fun {d lent ops K ks e h Q} => segpart_p (d := d) (ops := ops) (K := K) (ks := ks) (e := e) (h := h) (Q := Q) b i.toNat hb (by omega)
      rw [e2] at hp
      simp (disch := omega) [c1, c2, hp]
  · simp (disch := omega) [c1]
theorem join_loop (l : List (List UInt8)) (h : Heap) (hl : l.length < 4611686018427387904) (hb : ∀ k, (l.take k).flatten.length ≤ 140737488355328) : ∀ (m i : Nat), i + m = l.length → ∀ ks Q,
    (∀ e, Xk T ks (.x 0) ([(3, .ps 1 (bys l.flatten))] ++ e) h Q) →
    Xc T l_seg_Join_0 ks [(3, .ps 1 (bys (l.take i).flatten)), (6, .ps 1 (byss l)), (7, .int .i64 l.length), (8, .int .i64 i)] h Q := by
  intro m
  induction m with
  | zero =>
    intro i hi ks Q hQ
    rw [L_seg_Join_0]; unfold bl_seg_Join_0
    have : i = l.length := by omega
    subst this
    rw [List.take_length]
    simp (disch := omega)
    exact hQ _
  | succ m ih =>
    intro i hi ks Q hQ
    rw [L_seg_Join_0]; unfold bl_seg_Join_0
    have e1 : i < l.length := by omega
    have e3 : (i : Int) < l.length := by omega
    have g1 := List.getElem?_eq_getElem e1
    have ht := take_get l i e1
    have h1 := hb (i + 1)
    have hf : (l.take (i + 1)).flatten = (l.take i).flatten ++ l[i] := by rw [ht, List.flatten_append, List.flatten_cons, List.flatten_nil, List.append_nil]
    rw [hf, List.length_append, List.length_flatten, List.map_take] at h1
    have := ih (i + 1) (by omega) ks Q hQ
    rw [hf, bys_app] at this
    simp (disch := omega) [e3, byss_get, g1, bys_len]
    simpa using this
theorem Join_run (l : List (List UInt8)) (h : Heap) (hl : l.length < 4611686018427387904) (hb : ∀ k, (l.take k).flatten.length ≤ 140737488355328) : Run T f_seg_Join [.ps 1 (byss l)] h (.ps 1 (bys l.flatten)) h := by
  refine Run.start t_seg_Join ?_
  unfold k_seg_Join
  simp (disch := omega) [byss_len]
  refine join_loop l h hl hb l.length 0 (by omega) _ _ fun e => ?_
  simp (disch := omega)
theorem cut_flat (b : List UInt8) : ∀ k, (cutS b k).flatten = b.take (100 * k)
  | 0 => by simp [cutS]
  | k + 1 => by
    rw [cutS_succ, List.flatten_append, cut_flat b k]
    simp only [List.flatten_cons, List.flatten_nil, List.append_nil, partS]
    rw [show 100 * (k + 1) = 100 * k + 100 by omega, List.take_add]

/-! ### writes -/
/-- Bytes at places. -/
abbrev Wr := List (Nat × UInt8)
def wOne (a : Nat) (p : List UInt8) : Wr := (List.range p.length).map fun k => (a + k, p.getD k 0)
def wAll (z : List (Nat × List UInt8)) : Wr := z.flatMap fun q => wOne q.1 q.2
def okW (w : Wr) : Prop := ∀ p ∈ w, ∀ q ∈ w, p.1 = q.1 → p.2 = q.2
def covW (w : Wr) (n : Nat) : Prop := ∀ k, k < n → ∃ p ∈ w, p.1 = k
/-- What writes come to: the bytes, and what is wrong. -/
def FillP (n : Nat) (w : Wr) (b : List UInt8) (e : Int) : Prop :=
  (¬ okW w ∧ b = [] ∧ e = 6) ∨ (okW w ∧ ¬ covW w n ∧ b = [] ∧ e = 8) ∨ (okW w ∧ covW w n ∧ b.length = n ∧ (∀ p ∈ w, b[p.1]? = some p.2) ∧ e = 0)
theorem FillP.det {n : Nat} {w : Wr} {b c : List UInt8} {e f : Int} (h : FillP n w b e) (k : FillP n w c f) : b = c ∧ e = f := by
  rcases h with ⟨h1, rfl, rfl⟩ | ⟨h1, h2, rfl, rfl⟩ | ⟨h1, h2, h3, h4, rfl⟩
  · rcases k with ⟨_, rfl, rfl⟩ | ⟨k1, _⟩ | ⟨k1, _⟩
    · exact ⟨rfl, rfl⟩
    · exact absurd k1 h1
    · exact absurd k1 h1
  · rcases k with ⟨k1, _⟩ | ⟨_, _, rfl, rfl⟩ | ⟨_, k1, _⟩
    · exact absurd h1 k1
    · exact ⟨rfl, rfl⟩
    · exact absurd k1 h2
  · rcases k with ⟨k1, _⟩ | ⟨_, k1, _⟩ | ⟨_, _, k3, k4, rfl⟩
    · exact absurd h1 k1
    · exact absurd h2 k1
    · refine ⟨List.ext_getElem? fun i => ?_, rfl⟩
      rcases Nat.lt_or_ge i n with hi | hi
      · obtain ⟨p, hp, rfl⟩ := h2 i hi
        rw [h4 p hp, k4 p hp]
      · rw [List.getElem?_eq_none (by omega), List.getElem?_eq_none (by omega)]
theorem wOne_mem {a : Nat} {p : List UInt8} {x : Nat × UInt8} : x ∈ wOne a p ↔ ∃ k, ∃ h : k < p.length, x = (a + k, p[k]) := by
  unfold wOne
  rw [List.mem_map]
  constructor
  · rintro ⟨k, hk, rfl⟩
    have := List.mem_range.1 hk
    exact ⟨k, this, by simp [List.getElem?_eq_getElem this]⟩
  · rintro ⟨k, hk, rfl⟩
    exact ⟨k, List.mem_range.2 hk, by simp [List.getElem?_eq_getElem hk]⟩
theorem wAll_mem {z : List (Nat × List UInt8)} {x : Nat × UInt8} : x ∈ wAll z ↔ ∃ q ∈ z, x ∈ wOne q.1 q.2 := by simp [wAll]
theorem wAll_app (a b : List (Nat × List UInt8)) : wAll (a ++ b) = wAll a ++ wAll b := by simp [wAll]

/-- What out and there are behind writes that fit. -/
structure Laid (n : Nat) (w : Wr) (out : List UInt8) (there : List Bool) : Prop where
  len : out.length = n
  tlen : there.length = n
  ok : okW w
  lt : ∀ p ∈ w, p.1 < n
  val : ∀ p ∈ w, out[p.1]? = some p.2
  th : ∀ k, k < n → (there[k]? = some true ↔ ∃ p ∈ w, p.1 = k)
theorem Laid.start (n : Nat) : Laid n [] (List.replicate n 0) (List.replicate n false) where
  len := by simp
  tlen := by simp
  ok := by intro p hp; cases hp
  lt := by intro p hp; cases hp
  val := by intro p hp; cases hp
  th := fun k hk => by simp [List.getElem?_replicate, hk]
theorem Laid.put {n : Nat} {w : Wr} {out : List UInt8} {there : List Bool} (l : Laid n w out there) {j : Nat} {c : UInt8} (hj : j < n) (h : there[j]? = some true → out[j]? = some c) : Laid n (w ++ [(j, c)]) (out.set j c) (there.set j true) where
  len := by simp [l.len]
  tlen := by simp [l.tlen]
  ok := by
    have key : ∀ p ∈ w, p.1 = j → p.2 = c := fun p hp e => by
      have h1 := (l.th j hj).2 ⟨p, hp, e⟩
      have h2 := h h1
      have h3 := l.val p hp
      rw [e, h2] at h3
      exact (Option.some.inj h3).symm
    intro p hp q hq e
    rcases List.mem_append.1 hp with hp | hp
    · rcases List.mem_append.1 hq with hq | hq
      · exact l.ok p hp q hq e
      · rw [List.mem_singleton.1 hq] at e ⊢
        exact key p hp e
    · rw [List.mem_singleton.1 hp] at e ⊢
      rcases List.mem_append.1 hq with hq | hq
      · exact (key q hq e.symm).symm
      · rw [List.mem_singleton.1 hq]
  lt := fun p hp => by
    rcases List.mem_append.1 hp with hp | hp
    · exact l.lt p hp
    · rw [List.mem_singleton.1 hp]; exact hj
  val := fun p hp => by
    rcases List.mem_append.1 hp with hp | hp
    · rw [List.getElem?_set]
      split
      · rename_i e
        have h1 := (l.th j hj).2 ⟨p, hp, e.symm⟩
        have h2 := h h1
        have h3 := l.val p hp
        rw [← e, h2] at h3
        rw [l.len, if_pos hj]
        exact h3
      · exact l.val p hp
    · rw [List.mem_singleton.1 hp]
      simp [List.getElem?_set, l.len, hj]
  th := fun k hk => by
    rw [List.getElem?_set]
    split
    · rename_i e
      subst e
      simp [l.tlen, hj]
    · rename_i e
      rw [l.th k hk]
      constructor
      · rintro ⟨p, hp, e2⟩; exact ⟨p, List.mem_append.2 (.inl hp), e2⟩
      · rintro ⟨p, hp, e2⟩
        rcases List.mem_append.1 hp with hp | hp
        · exact ⟨p, hp, e2⟩
        · rw [List.mem_singleton.1 hp] at e2; exact absurd e2 e
theorem Laid.clash {n : Nat} {w w2 : Wr} {out : List UInt8} {there : List Bool} (l : Laid n w out there) {j : Nat} {c d : UInt8} (hj : j < n) (h1 : there[j]? = some true) (h2 : out[j]? = some d) (hne : d ≠ c) (hs : ∀ p ∈ w, p ∈ w2) (hm : (j, c) ∈ w2) : ¬ okW w2 := fun hk => by
  obtain ⟨p, hp, e⟩ := (l.th j hj).1 h1
  have h3 := l.val p hp
  rw [e, h2] at h3
  have := hk p (hs p hp) (j, c) hm e
  rw [← Option.some.inj h3] at this
  exact hne this
end Ev
