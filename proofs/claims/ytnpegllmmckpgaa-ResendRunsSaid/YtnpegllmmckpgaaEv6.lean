/- The evaluator of abstract code, Ev6: regions whose order is drawn, part two. No condition of its own: each theorem states its own. -/
import Derived.Test.YtnpegllmmckpgaaEv5
import Derived.Orders
set_option linter.all false
/-! Ew, part E: a region whose order is drawn does what is computed in the text's order. -/
namespace Ev
open Go

/-- The slots when the operations of a set have been done. -/
def EX (e : Env) (ops : List AOpr) (U : Nat → V) (X : Nat → Bool) : Nat → Env
  | 0 => e
  | k + 1 => if X k = true then (match ops[k]? with | some o => (EX e ops U X k).put o.dst (U k) | none => EX e ops U X k) else EX e ops U X k

theorem put_get (e : Env) (d : Option Nat) (v : V) (t : Nat) : (e.put d v).get t = if d = some t then some v else e.get t := by
  cases d with
  | none => simp
  | some d => simp [Env.put, Env.get]

section
variable {C : Callee} {ops : List AOpr} {E : Nat → Env} {H : Nat → Heap} {W : Nat → Bool} {U : Nat → V}

/-- Slots whose writers among the done ones are those ahead of j. -/
theorem EX_get (tr : Tr C ops E H W U) (X : Nat → Bool) (t j : Nat) (hX : ∀ i o, ops[i]? = some o → o.dst = some t → (X i = true ↔ i < j)) :
    ∀ k, k ≤ ops.length → (EX (E 0) ops U X k).get t = (E (min k j)).get t := by
  intro k
  induction k with
  | zero => intro _; simp [EX]
  | succ k ih =>
    intro hk
    have ih := ih (by omega)
    obtain ⟨o, ho⟩ : ∃ o, ops[k]? = some o := ⟨ops[k], List.getElem?_eq_getElem (by omega)⟩
    have henv := tr.env k o ho
    simp only [EX, ho]
    by_cases hd : o.dst = some t
    · have := hX k o ho hd
      by_cases hkj : k < j
      · rw [if_pos (this.2 hkj), put_get, if_pos hd, show min (k + 1) j = k + 1 by omega, henv, put_get, if_pos hd]
      · rw [if_neg (fun h => hkj (this.1 h)), ih]
        congr 2
        omega
    · have e1 : (if X k = true then (EX (E 0) ops U X k).put o.dst (U k) else EX (E 0) ops U X k).get t = (EX (E 0) ops U X k).get t := by
        split
        · rw [put_get, if_neg hd]
        · rfl
      rw [e1, ih]
      by_cases hkj : k < j
      · rw [show min (k + 1) j = k + 1 by omega, show min k j = k by omega, henv, put_get, if_neg hd]
      · congr 2
        omega

theorem EX_same (e : Env) (X Y : Nat → Bool) (t : Nat) (h : ∀ i o, ops[i]? = some o → o.dst = some t → X i = Y i) :
    ∀ k, (EX e ops U X k).get t = (EX e ops U Y k).get t := by
  intro k
  induction k with
  | zero => rfl
  | succ k ih =>
    simp only [EX]
    cases ho : ops[k]? with
    | none => simp only [ite_self]; exact ih
    | some o =>
      simp only
      by_cases hd : o.dst = some t
      · rw [h k o ho hd]
        split
        · rw [put_get, put_get, if_pos hd, if_pos hd]
        · exact ih
      · have key : ∀ (Z : Nat → Bool), (if Z k = true then (EX e ops U Z k).put o.dst (U k) else EX e ops U Z k).get t = (EX e ops U Z k).get t := fun Z => by
          split
          · rw [put_get, if_neg hd]
          · rfl
        rw [key, key, ih]

/-- The last writer's value. -/
theorem EX_last (e : Env) (X : Nat → Bool) (t j : Nat) (o : AOpr) (ho : ops[j]? = some o) (hd : o.dst = some t) (hj : X j = true)
    (hX : ∀ i o, ops[i]? = some o → o.dst = some t → j < i → X i = false) : ∀ k, j < k → (EX e ops U X k).get t = some (U j) := by
  intro k
  induction k with
  | zero => intro h; omega
  | succ k ih =>
    intro hk
    simp only [EX]
    by_cases hjk : j = k
    · subst hjk
      rw [if_pos hj, ho]
      simp only
      rw [put_get, if_pos hd]
    · have ih := ih (by omega)
      cases ho2 : ops[k]? with
      | none => simp only [ite_self]; exact ih
      | some o2 =>
        simp only
        by_cases hd2 : o2.dst = some t
        · rw [hX k o2 ho2 hd2 (by omega)]
          simpa using ih
        · split
          · rw [put_get, if_neg hd2]; exact ih
          · exact ih

theorem H_step (tr : Tr C ops E H W U) {j : Nat} {o : AOpr} (ho : ops[j]? = some o) (hr : o.op.rank ≠ 2) : H (j + 1) = H j := by
  cases hw : W j with
  | true => exact rank_heap C hr (tr.does j o ho hw)
  | false => exact (tr.skip j o ho hw).2

/-- Between p and j nobody turns the heap. -/
theorem H_same (tr : Tr C ops E H W U) : ∀ (d p : Nat), p + d ≤ ops.length → (∀ k o, ops[k]? = some o → o.op.rank = 2 → p ≤ k → k < p + d → False) → H (p + d) = H p
  | 0, p, _, _ => rfl
  | d + 1, p, hp, hk => by
    obtain ⟨o, ho⟩ : ∃ o, ops[p + d]? = some o := ⟨ops[p + d], List.getElem?_eq_getElem (by omega)⟩
    have := H_step tr ho (fun h => hk (p + d) o ho h (by omega) (by omega))
    rw [show p + (d + 1) = p + d + 1 by omega, this]
    exact H_same tr d p (by omega) (fun k o hk1 hk2 hk3 hk4 => hk k o hk1 hk2 hk3 (by omega))

theorem H_between (tr : Tr C ops E H W U) (p j : Nat) (hp : p ≤ ops.length) (hj : j ≤ ops.length) (hk : ∀ k o, ops[k]? = some o → o.op.rank = 2 → (k < p ↔ k < j)) : H p = H j := by
  rcases Nat.le_total p j with h | h
  · have := H_same tr (j - p) p (by omega) (fun k o h1 h2 h3 h4 => by
      have := (hk k o h1 h2).2 (by omega)
      omega)
    rw [show p + (j - p) = j by omega] at this
    exact this.symm
  · have := H_same tr (p - j) j (by omega) (fun k o h1 h2 h3 h4 => by
      have := (hk k o h1 h2).1 (by omega)
      omega)
    rw [show j + (p - j) = p by omega] at this
    exact this
end

theorem chkOpers_get {P : Program} {sig : Sig} {n : Nat} {os : List Oper} : ∀ (ars : List AOpr) (l : List Oper), chkOpers P sig n os ars l = true →
    ars.length = l.length ∧ ∀ (i : Nat) (ar : AOpr) (o : Oper), ars[i]? = some ar → l[i]? = some o → chkOper P sig n os ar o = true
  | [], [], _ => ⟨rfl, fun i ar o h => by simp at h⟩
  | [], _ :: _, h => by simp [chkOpers] at h
  | _ :: _, [], h => by simp [chkOpers] at h
  | ar :: ars, o :: l, h => by
    simp only [chkOpers, Bool.and_eq_true] at h
    obtain ⟨h1, h2⟩ := chkOpers_get ars l h.2
    refine ⟨by simp [h1], fun i ar' o' ha ho => ?_⟩
    cases i with
    | zero =>
      simp at ha ho
      subst ha ho
      exact h.1
    | succ i => exact h2 i ar' o' (by simpa using ha) (by simpa using ho)

theorem pairsOk_get {ops : List AOpr} {B : List Nat} {fl : List (Nat × Nat × Nat)} {n : Nat} (h : pairsOk ops B fl n = true) {i j : Nat} (hij : i < j) (hj : j < n)
    (hb : (B.getD j 0).testBit i = false) {x y : AOpr} (hx : ops[i]? = some x) (hy : ops[j]? = some y) :
    apartA x y = true ∧ (calm x y (fl.any fun q => q.1 == i) (fl.any fun q => q.1 == j) = true ∨ (x.op.rank = 2 ∧ y.op.rank = 2)) := by
  have h1 := List.all_eq_true.1 h j (List.mem_range.2 hj)
  have h2 := List.all_eq_true.1 h1 i (List.mem_range.2 hij)
  simp only [hb, Bool.false_or, hx, hy, Bool.and_eq_true, Bool.or_eq_true, beq_iff_eq] at h2
  exact h2

theorem rank2_iff {ops : List AOpr} {i : Nat} {o : AOpr} (h : ops[i]? = some o) : rank2 ops i = true ↔ o.op.rank = 2 := by
  simp [rank2, h]
theorem rank2_get {ops : List AOpr} {i : Nat} (h : rank2 ops i = true) : ∃ o, ops[i]? = some o ∧ o.op.rank = 2 := by
  unfold rank2 at h
  cases ho : ops[i]? with
  | none => rw [ho] at h; cases h
  | some o => rw [ho] at h; exact ⟨o, rfl, by simpa using h⟩
theorem late_rank {ops : List AOpr} {B : List Nat} {j : Nat} (h : lateB ops B j = true) : rank2 ops j = true := by
  unfold lateB at h
  simp only [Bool.and_eq_true] at h
  exact h.1
/-- One that is not late is behind all that turn the heap ahead of it. -/
theorem late_not {ops : List AOpr} {B : List Nat} {j : Nat} (h : lateB ops B j = false) (h2 : rank2 ops j = true) {i : Nat} (hi : rank2 ops i = true) (hij : i < j) : (B.getD j 0).testBit i = true := by
  unfold lateB at h
  rw [h2, Bool.true_and, List.any_eq_false] at h
  have := h i (List.mem_range.2 hij)
  simpa [hi] using this
theorem late_spec {ops : List AOpr} {B : List Nat} {n : Nat} (h : lateOk ops B n = true) {j : Nat} (hj : j < n) (hl : lateB ops B j = true) :
    ∃ o d, ops[j]? = some o ∧ o.op.mk1 = true ∧ o.guard = none ∧ o.dst = some d ∧ ∀ k y, k < n → k ≠ j → ops[k]? = some y → y.dst ≠ some d ∧ (d ∈ y.looks → j < k → ∀ i, i < j → rank2 ops i = true → (B.getD k 0).testBit i = true) := by
  have h1 := List.all_eq_true.1 h j (List.mem_range.2 hj)
  simp only [hl, Bool.not_true, Bool.false_or] at h1
  cases ho : ops[j]? with
  | none => rw [ho] at h1; cases h1
  | some o =>
    rw [ho] at h1
    simp only [Bool.and_eq_true] at h1
    obtain ⟨⟨q1, q2⟩, q3⟩ := h1
    cases hd : o.dst with
    | none => rw [hd] at q3; cases q3
    | some d =>
      rw [hd] at q3
      refine ⟨o, d, rfl, q1, by simpa using q2, hd, fun k y hk hne hy => ?_⟩
      have h3 := List.all_eq_true.1 q3 k (List.mem_range.2 hk)
      simp only [Bool.or_eq_true, beq_iff_eq, hne, false_or, hy, Bool.and_eq_true] at h3
      refine ⟨by simpa using h3.1, fun hdl hjk i hij hi => ?_⟩
      rcases h3.2 with (h4 | h4) | h4
      · simp [hdl] at h4
      · have := of_decide_eq_true h4; omega
      · have := List.all_eq_true.1 h4 i (List.mem_range.2 hij)
        simpa [hi] using this

theorem apartA_spec {x y : AOpr} (h : apartA x y = true) : (∀ d, x.dst = some d → d ∉ y.looks ∧ y.dst ≠ some d) ∧ (∀ d, y.dst = some d → d ∉ x.looks) := by
  unfold apartA at h
  simp only [Bool.and_eq_true] at h
  refine ⟨fun d hd => ?_, fun d hd => ?_⟩
  · rw [hd] at h
    simpa using h.1
  · rw [hd] at h
    simpa using h.2

theorem wantedA_congr {e e' : Env} {g : Option (Nat × Bool)} (h : ∀ s b, g = some (s, b) → e.get s = e'.get s) : wantedA g e = wantedA g e' := by
  cases g with
  | none => rfl
  | some g =>
    obtain ⟨s, b⟩ := g
    simp only [wantedA]
    rw [h s b rfl]

theorem edges_lt : ∀ (l : List Oper) (k : Nat), edgesBack k l = true → ∀ j o, l[j]? = some o → ∀ ed, ed ∈ o.after → Region.binds .any ed = true → ed.on < k + j := by
  intro l
  induction l with
  | nil => intro k _ j o ho; simp at ho
  | cons x l ih =>
    intro k hk j o ho ed hed hbd
    simp only [edgesBack, Bool.and_eq_true] at hk
    cases j with
    | zero =>
      simp at ho
      subst ho
      have := List.all_eq_true.1 hk.1 ed (by simpa using hed)
      simp [hbd] at this
      omega
    | succ j =>
      have := ih (k + 1) hk.2 j o (by simpa using ho) ed hed hbd
      omega

theorem St.congr {G : Gh} {ρ : Rho} {e e' : Env} {h : Heap} {O : Own} {tm : Array Value} {w : World} (st : St G ρ e h O tm w) (he : ∀ t, e.get t = e'.get t) : St G ρ e' h O tm w :=
  ⟨⟨fun i v hv => st.env i v (by rw [he]; exact hv), st.env.gl⟩, st.mem, fun s c hk => by
    obtain ⟨u, v, x, h1, h2, h3, h4⟩ := st.own s c hk
    exact ⟨u, v, x, h1, by rw [← he]; exact h2, h3, h4⟩, st.non⟩

section
variable {P : Program} {T : Table} {C : Callee} {sig : Sig} {n : Nat}

/-- The flags, at the trace. -/
def Flags (C : Callee) (ops : List AOpr) (E : Nat → Env) (H : Nat → Heap) (W : Nat → Bool) (U : Nat → V) (fl : List (Nat × Nat × Nat)) : Prop :=
  ∀ i lo hi, (i, lo, hi) ∈ fl → ∀ o, ops[i]? = some o → W i = true → ∀ p, lo ≤ p → p ≤ hi → p ≤ ops.length → ∃ hp, evOp C o.op (E i) (H p) = some (U i, hp)

theorem flags_of {ops : List AOpr} {e : Env} {h : Heap} {E : Nat → Env} {H : Nat → Heap} {W : Nat → Bool} {U : Nat → V} {fl : List (Nat × Nat × Nat)} (tr : Tr C ops E H W U)
    (htr : ∀ i, i ≤ ops.length → (runTr C ops e h)[i]? = some (E i, H i)) (hf : flagsOk C ops e h fl = true) : Flags C ops E H W U fl := by
  intro i lo hi hm o ho hw p h1 h2 h3
  have hall : fl.all (fun q => flagOk C ops (runTr C ops e h) q.1 q.2.1 q.2.2) = true := by
    cases fl with
    | nil => cases hm
    | cons a l => simpa only [flagsOk] using hf
  have hq := List.all_eq_true.1 hall (i, lo, hi) hm
  have hil : i < ops.length := (List.getElem?_eq_some_iff.1 ho).1
  have hwt := tr.want i o ho
  rw [hw] at hwt
  have hd := tr.does i o ho hw
  simp only [flagOk, ho, htr i (by omega), hwt, hd] at hq
  have := List.all_eq_true.1 hq p (List.mem_range'_1.2 ⟨h1, by omega⟩)
  rw [htr p h3] at this
  simp only at this
  cases hv : evOp C o.op (E i) (H p) with
  | none => rw [hv] at this; cases this
  | some q =>
    obtain ⟨u, hp⟩ := q
    rw [hv] at this
    rw [beq_eq _ _ this]
    exact ⟨hp, rfl⟩

theorem fl_lo {ops : List AOpr} {B : List Nat} {m i lo hi : Nat} (h : flOk ops B m (i, lo, hi) = true) :
    (lo = 0 ∨ ((B.getD i 0).testBit (lo - 1) = true ∧ 0 < lo ∧ rank2 ops (lo - 1) = true ∧ lateB ops B (lo - 1) = false)) ∧
    (hi = m ∨ ((B.getD hi 0).testBit i = true ∧ hi < m ∧ rank2 ops hi = true)) := by
  simp only [flOk, Bool.and_eq_true, Bool.or_eq_true, beq_iff_eq, decide_eq_true_eq] at h
  obtain ⟨h1, h2⟩ := h
  refine ⟨?_, ?_⟩
  · rcases h1 with h1 | ⟨⟨h1, h3⟩, h4⟩
    · exact .inl h1
    · rcases Nat.eq_zero_or_pos lo with h0 | h0
      · exact .inl h0
      · exact .inr ⟨h1, h0, h3, by simpa using h4⟩
  · rcases h2 with h2 | ⟨⟨h2, h4⟩, h3⟩
    · exact .inl h2
    · exact .inr ⟨h2, h4, h3⟩

/-- What a set of done operations is: closed under the region's own edges. -/
def Closed (os : List Oper) (X : Nat → Bool) : Prop := ∀ j, X j = true → ∀ o, os[j]? = some o → ∀ ed, ed ∈ o.after → Region.binds .any ed = true → X ed.on = true

section
variable {os : List Oper} {ops : List AOpr} {E : Nat → Env} {H : Nat → Heap} {W : Nat → Bool} {U : Nat → V} {fl : List (Nat × Nat × Nat)} {X : Nat → Bool} {j : Nat} {ar : AOpr} {o : Oper}

/-- What is before j in every order is done when j is ready; what is behind j is not. -/
theorem order_done (hb : edgesBack 0 os = true) (hX : Closed os X) (hj : X j = false) (ho : os[j]? = some o) (hr : ∀ ed, ed ∈ o.after → Region.binds .any ed = true → X ed.on = true) (hlen : ∀ i, X i = true → i < os.length) :
    (∀ i, ((masks os []).getD j 0).testBit i = true → X i = true) ∧ (∀ i, ((masks os []).getD i 0).testBit j = true → X i = false) := by
  have key := masks_spec X os [] [] rfl hb hX (fun j o h => by simp at h)
  refine ⟨fun i hi => key j o (by simpa using ho) hr i hi, fun i hi => ?_⟩
  cases hxi : X i with
  | false => rfl
  | true =>
    have hil := hlen i hxi
    have hoi : os[i]? = some os[i] := List.getElem?_eq_getElem hil
    have := key i os[i] (by simpa using hoi) (fun ed h1 h2 => hX i hxi os[i] hoi ed h1 h2) j hi
    rw [hj] at this
    cases this

/-- Two operations that do not go together: one is ahead of the other in every order. -/
theorem clash_done (hb : edgesBack 0 os = true) (hX : Closed os X) (hj : X j = false) (ho : os[j]? = some o) (hr : ∀ ed, ed ∈ o.after → Region.binds .any ed = true → X ed.on = true) (hlen : ∀ i, X i = true → i < os.length)
    (hp : pairsOk ops (masks os []) fl ops.length = true) (ha : ops[j]? = some ar) {i : Nat} {ar' : AOpr} (ha' : ops[i]? = some ar') (hij : i ≠ j)
    (hc : (apartA ar ar' = false ∨ (calm ar ar' (fl.any fun q => q.1 == j) (fl.any fun q => q.1 == i) = false ∧ ¬ (ar.op.rank = 2 ∧ ar'.op.rank = 2))) ∧
      (apartA ar' ar = false ∨ (calm ar' ar (fl.any fun q => q.1 == i) (fl.any fun q => q.1 == j) = false ∧ ¬ (ar'.op.rank = 2 ∧ ar.op.rank = 2)))) : X i = true ↔ i < j := by
  obtain ⟨d1, d2⟩ := order_done hb hX hj ho hr hlen
  have hjl : j < ops.length := (List.getElem?_eq_some_iff.1 ha).1
  have hil : i < ops.length := (List.getElem?_eq_some_iff.1 ha').1
  rcases Nat.lt_or_ge i j with h | h
  · refine ⟨fun _ => h, fun _ => d1 i ?_⟩
    cases hbit : ((masks os []).getD j 0).testBit i with
    | true => rfl
    | false =>
      obtain ⟨p1, p2⟩ := pairsOk_get hp h hjl hbit ha' ha
      rcases hc.2 with e | ⟨e, e'⟩
      · rw [p1] at e; cases e
      · rcases p2 with p2 | p2
        · rw [p2] at e; cases e
        · exact absurd p2 e'
  · have hlt : j < i := by omega
    refine ⟨fun hx => ?_, fun hx => by omega⟩
    have : X i = false := d2 i (by
      cases hbit : ((masks os []).getD i 0).testBit j with
      | true => rfl
      | false =>
        obtain ⟨p1, p2⟩ := pairsOk_get hp hlt hil hbit ha ha'
        rcases hc.1 with e | ⟨e, e'⟩
        · rw [p1] at e; cases e
        · rcases p2 with p2 | p2
          · rw [p2] at e; cases e
          · exact absurd p2 e')
    rw [this] at hx
    cases hx

theorem not_apart_dst {x y : AOpr} {t : Nat} (h : x.dst = some t) (hy : t ∈ y.looks ∨ y.dst = some t) : apartA x y = false := by
  cases hc : apartA x y with
  | false => rfl
  | true =>
    have := (apartA_spec hc).1 t h
    rcases hy with hy | hy
    · exact absurd hy this.1
    · exact absurd hy this.2
theorem not_apart_dst' {x y : AOpr} {t : Nat} (h : y.dst = some t) (hx : t ∈ x.looks ∨ x.dst = some t) : apartA x y = false := by
  cases hc : apartA x y with
  | false => rfl
  | true =>
    obtain ⟨q1, q2⟩ := apartA_spec hc
    rcases hx with hx | hx
    · exact absurd hx (q2 t h)
    · exact absurd h (q1 t hx).2

/-- What a done operation is behind is done. -/
theorem done_before (hb : edgesBack 0 os = true) (hX : Closed os X) (hlen : ∀ i, X i = true → i < os.length) {k : Nat} (hk : X k = true) {i : Nat} (hi : ((masks os []).getD k 0).testBit i = true) : X i = true := by
  have key := masks_spec X os [] [] rfl hb hX (fun j o h => by simp at h)
  have hkl := hlen k hk
  have hok : os[k]? = some os[k] := List.getElem?_eq_getElem hkl
  exact key k os[k] (by simpa using hok) (fun ed h1 h2 => hX k hk os[k] hok ed h1 h2) i hi

/-- Those of the done ones that are in the heap that stands. -/
def inH (ops : List AOpr) (B : List Nat) (X : Nat → Bool) (p i : Nat) : Bool := X i && (decide (i < p) || !lateB ops B i)
theorem inH_X {B : List Nat} {p i : Nat} (h : inH ops B X p i = true) : X i = true := by
  unfold inH at h
  simp only [Bool.and_eq_true] at h
  exact h.1

/-- How far the heap stands. -/
structure Pos (ops : List AOpr) (X : Nat → Bool) (p : Nat) : Prop where
  le : p ≤ ops.length
  done : ∀ k, rank2 ops k = true → k < p → X k = true
  far : ∀ k, rank2 ops k = true → (∀ i, i < k → rank2 ops i = true → X i = true) → X k = true → k < p

/-- A ready operation reads the slots that it reads in the text's order. -/
theorem ready_slots (tr : Tr C ops E H W U) (hb : edgesBack 0 os = true) (hX : Closed os X) (hj : X j = false) (ho : os[j]? = some o) (hr : ∀ ed, ed ∈ o.after → Region.binds .any ed = true → X ed.on = true) (hlen : ∀ i, X i = true → i < os.length)
    (hp : pairsOk ops (masks os []) fl ops.length = true) (hl : lateOk ops (masks os []) ops.length = true) (ha : ops[j]? = some ar) {p : Nat} (ps : Pos ops X p) (t : Nat) (ht : t ∈ ar.looks) :
    (EX (E 0) ops U (inH ops (masks os []) X p) ops.length).get t = (E j).get t ∧ ∀ k y, X k = true → lateB ops (masks os []) k = true → p ≤ k → ops[k]? = some y → y.dst ≠ some t := by
  have hjl : j < ops.length := (List.getElem?_eq_some_iff.1 ha).1
  have hw : ∀ i ar', ops[i]? = some ar' → ar'.dst = some t → (X i = true ↔ i < j) := fun i ar' ha' hd => by
    by_cases hij : i = j
    · subst hij
      rw [hj]
      simp
    · exact clash_done hb hX hj ho hr hlen hp ha ha' hij ⟨.inl (not_apart_dst' hd (.inl ht)), .inl (not_apart_dst hd (.inl ht))⟩
  have hlate : ∀ i ar', ops[i]? = some ar' → ar'.dst = some t → i < j → lateB ops (masks os []) i = true → i < p := fun i ar' ha' hd hij hli => by
    have hil : i < ops.length := (List.getElem?_eq_some_iff.1 ha').1
    obtain ⟨o', d, h1, _, _, h4, h5⟩ := late_spec hl hil hli
    rw [ha'] at h1
    cases h1
    rw [hd] at h4
    cases h4
    obtain ⟨d1, d2⟩ := order_done hb hX hj ho hr hlen
    exact ps.far i (late_rank hli) (fun i2 h6 h7 => d1 i2 ((h5 j ar hjl (by omega) ha).2 ht hij i2 h6 h7)) ((hw i ar' ha' hd).2 hij)
  refine ⟨?_, fun k y hk hlk hpk hy hd => ?_⟩
  · have := EX_get tr (inH ops (masks os []) X p) t j (fun i ar' ha' hd => by
      have h1 := hw i ar' ha' hd
      refine ⟨fun h => h1.1 (inH_X h), fun h => ?_⟩
      unfold inH
      rw [h1.2 h, Bool.true_and]
      cases hli : lateB ops (masks os []) i with
      | false => simp
      | true => simp [hlate i ar' ha' hd h hli]) ops.length (Nat.le_refl _)
    rw [this]
    congr 2
    omega
  · have h1 := hlate k y hy hd ((hw k y hy hd).1 hk) hlk
    omega

/-- Behind a ready operation. -/
theorem ready_env (hb : edgesBack 0 os = true) (hX : Closed os X) (hj : X j = false) (ho : os[j]? = some o) (hr : ∀ ed, ed ∈ o.after → Region.binds .any ed = true → X ed.on = true) (hlen : ∀ i, X i = true → i < os.length)
    (hp : pairsOk ops (masks os []) fl ops.length = true) (ha : ops[j]? = some ar) (A A' : Nat → Bool) (hA : ∀ i, A i = true → X i = true) (hA' : ∀ i, A' i = true ↔ (i = j ∨ A i = true)) (t : Nat) :
    (EX (E 0) ops U A' ops.length).get t = ((EX (E 0) ops U A ops.length).put ar.dst (U j)).get t := by
  have hjl : j < ops.length := (List.getElem?_eq_some_iff.1 ha).1
  rw [put_get]
  split
  · rename_i hd
    refine EX_last (E 0) A' t j ar ha hd ((hA' j).2 (.inl rfl)) (fun i ar' ha' hd' hlt => ?_) ops.length hjl
    have hc := clash_done hb hX hj ho hr hlen hp ha ha' (by omega) ⟨.inl (not_apart_dst' hd' (.inr hd)), .inl (not_apart_dst hd' (.inr hd))⟩
    cases hx : A' i with
    | false => rfl
    | true =>
      rcases (hA' i).1 hx with e | e
      · omega
      · have := hc.1 (hA i e)
        omega
  · rename_i hd
    refine EX_same (E 0) A' A t (fun i ar' ha' hd' => ?_) ops.length
    have hij : i ≠ j := fun e => by
      subst e
      rw [ha] at ha'
      cases ha'
      exact hd hd'
    have := hA' i
    simp only [hij, false_or] at this
    cases hx : A i with
    | true => exact this.2 hx
    | false =>
      cases hx' : A' i with
      | false => rfl
      | true => rw [this.1 hx'] at hx; cases hx
/-- Behind one whose block comes into the heap later. -/
theorem adopt_env {k d : Nat} {y : AOpr} (hy : ops[k]? = some y) (hd : y.dst = some d) (hu : ∀ i z, i ≠ k → ops[i]? = some z → z.dst ≠ some d) (A A' : Nat → Bool) (hA' : ∀ i, A' i = true ↔ (i = k ∨ A i = true)) (t : Nat) :
    (EX (E 0) ops U A' ops.length).get t = ((EX (E 0) ops U A ops.length).put (some d) (U k)).get t := by
  have hkl : k < ops.length := (List.getElem?_eq_some_iff.1 hy).1
  rw [put_get]
  split
  · rename_i hdt
    rw [← hd] at hdt
    exact EX_last (E 0) A' t k y hy hdt ((hA' k).2 (.inl rfl)) (fun i z hz hzd hlt => by
      exfalso
      exact hu i z (by omega) hz (by rw [hzd, ← hdt, hd])) ops.length hkl
  · rename_i hdt
    refine EX_same (E 0) A' A t (fun i z hz hzd => ?_) ops.length
    have hik : i ≠ k := fun e => by
      subst e
      rw [hy] at hz
      cases hz
      rw [hd] at hzd
      exact hdt hzd
    have := hA' i
    simp only [hik, false_or] at this
    cases hx : A i with
    | true => exact this.2 hx
    | false =>
      cases hx' : A' i with
      | false => rfl
      | true => rw [this.1 hx'] at hx; cases hx

theorem calm_wr {x y : AOpr} {a : Bool} (hx : x.op.rank = 2) (hy : y.op.rank = 1) : calm x y a false = false := by simp [calm, hx, hy]
theorem calm_rw {x y : AOpr} {b : Bool} (hx : x.op.rank = 1) (hy : y.op.rank = 2) : calm x y false b = false := by simp [calm, hx, hy]

theorem rank_le (op : AOp) : op.rank = 0 ∨ op.rank = 1 ∨ op.rank = 2 := by
  cases op <;> simp only [AOp.rank] <;> (try split) <;> simp

/-- Where the heap is that j meets in the text's order. -/
theorem H_at (tr : Tr C ops E H W U) {p : Nat} (ps : Pos ops X p) (hj : X j = false) (hjl : j < ops.length) (all : ∀ i, i < j → rank2 ops i = true → X i = true) (hk : ∀ k, rank2 ops k = true → j < k → k < p → False) : H p = H j := by
  refine H_between tr p j ps.le (by omega) fun k ar' ha' h2 => ?_
  have hr := (rank2_iff ha').2 h2
  refine ⟨fun h => ?_, fun h => ps.far k hr (fun i hi h3 => all i (by omega) h3) (all k h hr)⟩
  rcases Nat.lt_trichotomy k j with h3 | h3 | h3
  · exact h3
  · subst h3
    have := ps.done k hr h
    rw [hj] at this
    cases this
  · exact (hk k hr h3 h).elim

/-- One that turns the heap, when all that do so ahead of it have. -/
theorem ready_turn (tr : Tr C ops E H W U) {p : Nat} (ps : Pos ops X p) (hj : X j = false) (ha : ops[j]? = some ar) (h2 : ar.op.rank = 2) (all : ∀ i, i < j → rank2 ops i = true → X i = true) : H p = H j ∧ p ≤ j ∨ H p = H j ∧ ∀ k, rank2 ops k = true → k < p → k < j := by
  have hjl : j < ops.length := (List.getElem?_eq_some_iff.1 ha).1
  have hr := (rank2_iff ha).2 h2
  have hpj : p ≤ j := by
    rcases Nat.lt_or_ge j p with h | h
    · have := ps.done j hr h
      rw [hj] at this
      cases this
    · exact h
  exact .inl ⟨H_at tr ps hj hjl all fun k _ h3 h4 => by omega, hpj⟩

/-- One that does not turn the heap. -/
theorem ready_look (tr : Tr C ops E H W U) (hfl : Flags C ops E H W U fl) (hfo : fl.all (flOk ops (masks os []) ops.length) = true) (hb : edgesBack 0 os = true) (hX : Closed os X) (hj : X j = false) (ho : os[j]? = some o) (hr : ∀ ed, ed ∈ o.after → Region.binds .any ed = true → X ed.on = true) (hlen : ∀ i, X i = true → i < os.length)
    (hp : pairsOk ops (masks os []) fl ops.length = true) (ha : ops[j]? = some ar) {p : Nat} (ps : Pos ops X p) (h2 : ar.op.rank ≠ 2) (hwj : W j = true) : evOp C ar.op (E j) (H p) = some (U j, H p) := by
  have hjl : j < ops.length := (List.getElem?_eq_some_iff.1 ha).1
  have hd := tr.does j ar ha hwj
  rcases rank_le ar.op with h0 | h1 | h1
  · exact rank_free C h0 hd (H p)
  · by_cases hf : (fl.any fun q => q.1 == j) = true
    · obtain ⟨q, hq, hqj⟩ := List.any_eq_true.1 hf
      obtain ⟨i, lo, hi⟩ := q
      have : i = j := by simpa using hqj
      subst this
      obtain ⟨d1, d2⟩ := order_done hb hX hj ho hr hlen
      obtain ⟨q1, q2⟩ := fl_lo (List.all_eq_true.1 hfo _ hq)
      have hlo : lo ≤ p := by
        rcases q1 with e | ⟨e1, e2, e3, e4⟩
        · omega
        · have hx := d1 _ e1
          have := ps.far (lo - 1) e3 (fun i h5 h6 => done_before hb hX hlen hx (late_not e4 e3 h6 h5)) hx
          omega
      have hhi : p ≤ hi := by
        rcases q2 with e | ⟨e1, e2, e3⟩
        · have := ps.le; omega
        · have hx := d2 _ e1
          rcases Nat.lt_or_ge hi p with h | h
          · have := ps.done hi e3 h
            rw [hx] at this
            cases this
          · exact h
      obtain ⟨hp', hv⟩ := hfl i lo hi hq ar ha hwj p hlo hhi ps.le
      rw [hv, rank_heap C h2 hv]
    · have hf' : (fl.any fun q => q.1 == j) = false := Bool.not_eq_true _ ▸ hf
      have hk : ∀ k ar', ops[k]? = some ar' → ar'.op.rank = 2 → (X k = true ↔ k < j) := fun k ar' ha' hk => by
        have hne : k ≠ j := fun e => by
          subst e
          rw [ha] at ha'
          cases ha'
          exact h2 hk
        exact clash_done hb hX hj ho hr hlen hp ha ha' hne ⟨.inr ⟨by rw [hf']; exact calm_rw h1 hk, fun h => h2 h.1⟩, .inr ⟨by rw [hf']; exact calm_wr hk h1, fun h => h2 h.2⟩⟩
      have hpj : H p = H j := H_at tr ps hj hjl (fun i hi h5 => by
        obtain ⟨y, hy, h6⟩ := rank2_get h5
        exact (hk i y hy h6).2 hi) (fun k h5 h6 h7 => by
        obtain ⟨y, hy, h8⟩ := rank2_get h5
        have := (hk k y hy h8).1 (ps.done k h5 h7)
        omega)
      rw [hpj]
      have := H_step tr ha h2
      rw [hd, this]
  · exact absurd h1 h2
end
end

/-! ### Blocks that were made ahead of their turn -/
theorem rel_old {G G1 G2 : Gh} (hs : ∀ r o v, G1.st r o = some v → G2.st r o = some v) (hr : ∀ b x y, G.reg b = some x → G1.reg b = some y → G2.reg b = some y) (ho : ∀ b y, G1.ob b = some y → G2.ob b = some y) {u : Value} {x : V} (h : Rel G1 u x) : ∀ v0, Rel G v0 x → Rel G2 u x := by
  induction h with
  | bool b => exact fun _ _ => .bool b
  | int k n => exact fun _ _ => .int k n
  | str s l h => exact fun _ _ => .str s l h
  | nilp => exact fun _ _ => .nilp
  | ptr b off r lo hi h =>
    intro v0 h0
    cases h0 with
    | ptr _ _ r' lo' hi' h' => exact .ptr b off r lo hi (hr _ _ _ h' h)
  | rp r o cs u h k ih =>
    intro v0 h0
    cases h0 with
    | rp r' o' _ u' h' k' => exact .rp r o cs u (fun j hj => hs _ _ _ (h j hj)) fun j hj => ih j hj _ (k' j hj)
  | ps0 s p => exact fun _ _ => .ps0 s p
  | ps r o n cap s xs u hn hc hl h k ih =>
    intro v0 h0
    cases h0 with
    | ps0 s' p' => exact .ps r o n cap s [] u hn hc hl (fun j hj => hs _ _ _ (h j hj)) fun j hj => by simp [flat] at hj
    | ps r' o' n' cap' _ _ u' hn' hc' hl' h' k' => exact .ps r o n cap s xs u hn hc hl (fun j hj => hs _ _ _ (h j hj)) fun j hj => ih j hj _ (k' j hj)
  | hs s b off len cap r lo hi h hh hc =>
    intro v0 h0
    cases h0 with
    | hs _ _ _ _ cap' r' lo' hi' h' hh' hc' => exact .hs s b off len cap r lo hi (hr _ _ _ h' h) hh hc
  | hc s b off len cap r lo hi h hh hc =>
    intro v0 h0
    cases h0 with
    | hc _ _ _ _ _ r' lo' hi' h' hh' hc' => exact .hc s b off len cap r lo hi (hr _ _ _ h' h) hh hc
  | hn s p => exact fun _ _ => .hn s p
  | agg cs vs hl k ih =>
    intro v0 h0
    cases h0 with
    | agg cs' _ hl' k' => exact .agg cs vs hl fun j a b => ih j a b _ (k' j (by omega) b)
  | tup cs vs hl k ih =>
    intro v0 h0
    cases h0 with
    | tup cs' _ hl' k' => exact .tup cs vs hl fun j a b => ih j a b _ (k' j (by omega) b)
  | iface t v x k ih =>
    intro v0 h0
    cases h0 with
    | iface _ v' _ k' => exact .iface t v x (ih _ k')
  | nili => exact fun _ _ => .nili
  | fn f cs vs hl k ih =>
    intro v0 h0
    cases h0 with
    | fn _ cs' _ hl' k' => exact .fn f cs vs hl fun j a b => ih j a b _ (k' j (by omega) b)
  | nilf => exact fun _ _ => .nilf
  | itr b r h => exact fun _ _ => .itr b r (ho _ _ h)
  | mp b r h => exact fun _ _ => .mp b r (ho _ _ h)
  | mpn => exact fun _ _ => .mpn
theorem kv_old {G G1 G2 : Gh} (hs : ∀ r o v, G1.st r o = some v → G2.st r o = some v) (hr : ∀ b x y, G.reg b = some x → G1.reg b = some y → G2.reg b = some y) (ho : ∀ b y, G1.ob b = some y → G2.ob b = some y) :
    ∀ (i : Nat) (es : List MapEntry) (kvs : List V), KvRel G1 i es kvs → ∀ (i' : Nat) (es' : List MapEntry), KvRel G i' es' kvs → KvRel G2 i es kvs := by
  intro i es kvs h
  induction h with
  | nil i => intro _ _ _; exact .nil i
  | tomb _ ih =>
    intro i' es' h0
    cases h0 with
    | tomb h1 => exact .tomb (ih _ _ h1)
  | cons a b c _ ih =>
    intro i' es' h0
    cases h0 with
    | cons a' b' c' h1 => exact .cons (rel_old hs hr ho a _ a') (rel_old hs hr ho b _ b') c (ih _ _ h1)
theorem obj_old {G G1 G2 : Gh} (hs : ∀ r o v, G1.st r o = some v → G2.st r o = some v) (hr : ∀ b x y, G.reg b = some x → G1.reg b = some y → G2.reg b = some y) (ho : ∀ b y, G1.ob b = some y → G2.ob b = some y) {o o' : Obj} {cs : List V} (h : ObjIs G1 o cs) (h0 : ObjIs G o' cs) : ObjIs G2 o cs := by
  cases h with
  | it s l pos h => exact .it s l pos h
  | mi b r since last seen h => exact .mi b r since last seen (ho _ _ h)
  | mi0 since last => exact .mi0 since last
  | mp es clock _ h hc =>
    refine .mp es clock _ ?_ hc
    cases h0 with
    | mi b' r' since last seen h' => generalize es.toList = el at h; cases h
    | mi0 since last => generalize es.toList = el at h; cases h
    | it s l pos h' => generalize es.toList = el at h; cases h
    | mp es' clock' _ h' _ => exact kv_old hs hr ho _ _ _ h _ _ h'

theorem rho_set_eq {ρ : Rho} {y : Ow} {z : Option Reg} : ρ.set y z y = z := by simp [Rho.set]
theorem rho_set_ne {ρ : Rho} {y y' : Ow} {z : Option Reg} (h : y' ≠ y) : ρ.set y z y' = ρ y' := by simp only [Rho.set]; rw [if_neg h]
/-- A block that the model has made and that the heap that stands does not have yet. -/
def Pend (ρ0 : Rho) (w0 : World) (G : Gh) (ρ : Rho) (w : World) (x : Reg) (u : Value) (row : List V) (mk : Nat → V) : Prop :=
  (∀ (G2 : Gh) b, G2.reg b = some x → Rel G2 u (mk b)) ∧
  (∀ j (hj : j < row.length), ∃ v, w.cell? ⟨x.1, x.2.1 + j, none⟩ = some v ∧ Rel G v row[j] ∧ v.oneCell' = true) ∧ x.2.1 + row.length ≤ x.2.2 ∧
  ∀ o, x.2.1 ≤ o → o < x.2.2 → (w.cell? ⟨x.1, o, none⟩).isSome = true ∧ w.fz ⟨x.1, o, none⟩ = false ∧ G.st x.1 o = none ∧ ¬ Owned ρ x.1 o ∧ (Owned ρ0 x.1 o ∨ w0.heap.size ≤ x.1)

section
variable {ρ0 : Rho} {w0 : World} {G0 G : Gh} {ρ : Rho} {w : World} {x : Reg} {u : Value} {row : List V} {mk : Nat → V}
theorem Pend.fr (p : Pend ρ0 w0 G ρ w x u row mk) {G' : Gh} {ρ' : Rho} {w' : World} (f : Fr G ρ w G' ρ' w') : Pend ρ0 w0 G' ρ' w' x u row mk := by
  obtain ⟨h1, h2, h3, h4⟩ := p
  have same : ∀ o, x.2.1 ≤ o → o < x.2.2 → w'.cell? ⟨x.1, o, none⟩ = w.cell? ⟨x.1, o, none⟩ ∧ w'.fz ⟨x.1, o, none⟩ = w.fz ⟨x.1, o, none⟩ := fun o a b => by
    obtain ⟨k1, k2, k3, k4, _⟩ := h4 o a b
    exact f.cell x.1 o (cell_lt k1) k4
  refine ⟨h1, fun j hj => ?_, h3, fun o a b => ?_⟩
  · obtain ⟨v, k1, k2, k3⟩ := h2 j hj
    exact ⟨v, by rw [(same _ (by omega) (by omega)).1]; exact k1, k2.mono f.le, k3⟩
  · obtain ⟨k1, k2, k3, k4, k5⟩ := h4 o a b
    obtain ⟨s1, s2⟩ := same o a b
    have hlt := cell_lt k1
    refine ⟨by rw [s1]; exact k1, by rw [s2]; exact k2, ?_, ?_, k5⟩
    · cases hs : G'.st x.1 o with
      | none => rfl
      | some v =>
        rcases f.st x.1 o (by rw [hs]; simp) with e | e | e
        · exact absurd k3 e
        · exact absurd e k4
        · omega
    · intro c
      rcases f.own _ _ c with e | e
      · exact k4 e
      · omega

/-- One block is forgotten. -/
def _root_.Ev.Gh.noReg (G : Gh) (n : Nat) : Gh := ⟨G.st, fun b => if b = n then none else G.reg b, G.ob⟩
/-- A block that has just been made is put aside. -/
theorem unadopt {ea e2 : Env} {h : Heap} {own : Own} {tm : Array Value} {d : Nat} {v : V} {G1 : Gh} {ρ1 : Rho} {w1 : World}
    (st : St G ρ ea h own tm w) (st1 : St G1 ρ1 (ea.put (some d) v) (h ++ [some row]) own (putTm tm (some d) u) w1) (f : Fr G ρ w G1 ρ1 w1) (hd : d < tm.size) (hv : v = mk h.length)
    (hmk : (mk = fun b => V.ptr b 0) ∨ ∃ s l, mk = fun b => V.hs s b 0 l) (hfs : V.hfs row = true) (hown : ∀ s c, (s, c) ∈ own → s ≠ d) (he : ∀ t, e2.get t = if t = d then none else ea.get t) (f0 : Fr G0 ρ0 w0 G ρ w) :
    ∃ G2 ρ2 x, St G2 ρ2 e2 h own (putTm tm (some d) u) w1 ∧ Fr G ρ w G2 ρ2 w1 ∧ Pend ρ0 w0 G2 ρ2 w1 x u row mk ∧ ∀ o, x.2.1 ≤ o → o < x.2.2 → Owned ρ1 x.1 o := by
  have hnob : G1.ob h.length = none := by
    cases e : G1.ob h.length with
    | none => rfl
    | some r =>
      exfalso
      have h1 := (st1.mem.obs _ r e).2.1
      have h2 := st1.env d v (by simp)
      subst hv
      rcases hmk with rfl | ⟨s, l, rfl⟩
      · obtain ⟨x, hx⟩ := regOf_ptr h2
        rw [h1] at hx; cases hx
      · obtain ⟨x, hx⟩ := regOf_hs h2
        rw [h1] at hx; cases hx
  obtain ⟨r, lo, hi, g1, g2, g3, g4⟩ := st1.mem.blk h.length row (by simp) hnob
  have reg2 : ∀ b y, (if b = h.length then none else G1.reg b) = some y → b ≠ h.length ∧ G1.reg b = some y := fun b y k => by
    by_cases e : b = h.length
    · rw [if_pos e] at k; cases k
    · rw [if_neg e] at k; exact ⟨e, k⟩
  have own2 : ∀ y z, (if y = Ow.blk h.length then none else ρ1 y) = some z → y ≠ .blk h.length ∧ ρ1 y = some z := fun y z k => by
    by_cases e : y = .blk h.length
    · rw [if_pos e] at k; cases k
    · rw [if_neg e] at k; exact ⟨e, k⟩
  have hle : G.le (G1.noReg h.length) := ⟨f.le.s, fun b y k => by
    have := st.mem.lt b y k
    show (if b = h.length then none else G1.reg b) = some y
    rw [if_neg (by omega)]
    exact f.le.r b y k, f.le.o⟩
  have hold : ∀ b y z, G.reg b = some y → G1.reg b = some z → (G1.noReg h.length).reg b = some z := fun b y z k1 k2 => by
    have := st.mem.lt b y k1
    show (if b = h.length then none else G1.reg b) = some z
    rw [if_neg (by omega)]
    exact k2
  have gu : (putTm tm (some d) u).getD d undef = u := by
    show (tm.setIfInBounds d u).getD d undef = u
    rw [getD_set _ _ _ _ hd, if_pos rfl]
  have hobs : ObsOk (G1.noReg h.length) h w1 := fun b r1 hb => by
    obtain ⟨k1, k2, ⟨o, k3, k4, k5⟩, k6⟩ := st1.mem.obs b r1 hb
    have hne : b ≠ h.length := fun e => by
      subst e
      have : G1.ob h.length = some r1 := hb
      rw [hnob] at this; cases this
    have hbl : b < h.length := by simp at k1; omega
    refine ⟨hbl, ?_, ⟨o, k3, k4, fun cs hc => ?_⟩, k6⟩
    · show (if b = h.length then none else G1.reg b) = none
      rw [if_neg hne]
      exact k2
    · have h1 := k5 cs (by rw [List.getElem?_append_left hbl]; exact hc)
      have hg : G.ob b ≠ none := fun e => by
        obtain ⟨_, _, _, q1, _⟩ := st.mem.blk b cs hc e
        have := f.le.r _ _ q1
        rw [k2] at this; cases this
      cases hq : G.ob b with
      | none => exact absurd hq hg
      | some r0 =>
        obtain ⟨_, _, ⟨o0, _, _, q5⟩, _⟩ := st.mem.obs b r0 hq
        exact obj_old (G1 := G1) (G2 := G1.noReg h.length) (fun _ _ _ k => k) hold (fun _ _ k => k) h1 (q5 cs hc)
  refine ⟨(G1.noReg h.length), fun y => if y = .blk h.length then none else ρ1 y, (r, lo, hi), ⟨⟨?_, st.env.gl.mono hle⟩, ⟨?_, ?_, ?_, ?_, ?_, ?_, hobs⟩, ?_, ?_⟩, ⟨hle, f.size, f.os, f.tape, f.output, f.cell, f.block, ?_, f.st, f.obn⟩, ⟨?_, ?_, g3, ?_⟩, ?_⟩
  · intro i y hy
    rw [he] at hy
    by_cases e : i = d
    · rw [if_pos e] at hy; cases hy
    · rw [if_neg e] at hy
      have := (st.env i y hy).mono hle
      show Rel _ ((tm.setIfInBounds d u).getD i undef) y
      rw [getD_set _ _ _ _ hd, if_neg e]
      exact this
  · exact st1.mem.st
  · intro b cs hb hob
    have hbl : b < h.length := (List.getElem?_eq_some_iff.1 hb).1
    obtain ⟨r', lo', hi', q1, q2, q3, q4⟩ := st1.mem.blk b cs (by rw [List.getElem?_append_left hbl]; exact hb) hob
    obtain ⟨_, _, _, _, _, _, k4⟩ := st.mem.blk b cs hb (by
      cases e : G.ob b with
      | none => rfl
      | some r0 =>
        have : G1.ob b = some r0 := f.le.o _ _ e
        have h2 : G1.ob b = none := hob
        rw [this] at h2; cases h2)
    refine ⟨r', lo', hi', ?_, ?_, q3, fun j hj => ?_⟩
    · show (if b = h.length then none else G1.reg b) = _
      rw [if_neg (by omega)]
      exact q1
    · show (if Ow.blk b = .blk h.length then none else ρ1 (.blk b)) = _
      rw [if_neg (by intro e; cases e; omega)]
      exact q2
    · obtain ⟨v1, a1, a2, a3⟩ := q4 j hj
      obtain ⟨v0, _, b2, _⟩ := k4 j hj
      exact ⟨v1, a1, rel_old (G1 := G1) (G2 := G1.noReg h.length) (fun _ _ _ k => k) hold (fun _ _ k => k) a2 v0 b2, a3⟩
  · intro b y hb
    obtain ⟨e1, e2⟩ := reg2 b y hb
    have := st1.mem.lt b y e2
    simp at this
    omega
  · intro y r' lo' hi' hy
    exact st1.mem.own y r' lo' hi' (own2 y _ hy).2
  · intro y z r' lo' hi' lo2 hi2 hne hy hz
    exact st1.mem.dis y z r' lo' hi' lo2 hi2 hne (own2 y _ hy).2 (own2 z _ hz).2
  · intro b hb
    by_cases e : b = h.length
    · subst e; simp at hb
    · have : ρ1 (.blk b) ≠ none := fun k => hb (by
        show (if Ow.blk b = .blk h.length then none else ρ1 (.blk b)) = none
        rw [k]; simp)
      have := st1.mem.ob b this
      simp at this
      omega
  · intro s c hk
    obtain ⟨u1, v1, x1, k1, k2, k3, k4⟩ := st1.own s c hk
    have hsd := hown s c hk
    refine ⟨u1, v1, x1, k1, ?_, k3, ?_⟩
    · rw [put_get, if_neg (by simpa using fun e => hsd e.symm)] at k2
      rw [he, if_neg hsd]
      exact k2
    · show OwnVal u1 x1 (if Ow.key s c = .blk h.length then none else ρ1 (.key s c))
      rw [if_neg (by simp)]
      exact k4
  · intro s c hk
    show (if Ow.key s c = .blk h.length then none else ρ1 (.key s c)) = none
    rw [st1.non s c hk]
    simp
  · rintro r' o ⟨y, l, j, hy, a, b⟩
    exact f.own r' o ⟨y, l, j, (own2 y _ hy).2, a, b⟩
  · have hu := st1.env d v (by rw [put_get, if_pos rfl])
    rw [gu, hv] at hu
    intro G2 b hb
    rcases hmk with rfl | ⟨s, l, rfl⟩
    · cases hu with
      | ptr _ _ r' lo' hi' k =>
        rw [g1] at k
        cases k
        exact .ptr b 0 r lo hi hb
    · cases hu with
      | hs _ _ _ _ cap r' lo' hi' k hh hc =>
        rw [g1] at k
        cases k
        exact .hs s b 0 l cap r lo hi hb hh hc
  · intro j hj
    obtain ⟨v1, a1, a2, a3⟩ := g4 j hj
    exact ⟨v1, a1, rel_hf (G := G1) (G' := G1.noReg h.length) (fun _ _ _ k => k) a2 (hfs_get row hfs j hj), a3⟩
  · intro o a b
    obtain ⟨k1, k2, k3⟩ := st1.mem.own (.blk h.length) r lo hi g2 o a b
    refine ⟨k1, k2, k3, ?_, ?_⟩
    · rintro ⟨y, l, j, hy, a', b'⟩
      obtain ⟨e1, e2⟩ := own2 y _ hy
      exact st1.mem.dis y (.blk h.length) r l j lo hi e1 e2 g2 o a' b' a b
    · rcases f.own r o ⟨.blk h.length, lo, hi, g2, a, b⟩ with e | e
      · exact f0.own r o e
      · exact .inr (Nat.le_trans f0.size e)
  · intro o a b
    exact ⟨.blk h.length, lo, hi, g2, a, b⟩

/-- A block that was put aside comes into the heap. -/
theorem adopt {e : Env} {h : Heap} {own : Own} {tm : Array Value} {d : Nat} (st : St G ρ e h own tm w) (pd : Pend ρ0 w0 G ρ w x (tm.getD d undef) row mk) (f : Fr G0 ρ0 w0 G ρ w) (hown : ∀ s c, (s, c) ∈ own → s ≠ d) :
    ∃ G' ρ', St G' ρ' (e.put (some d) (mk h.length)) (h ++ [some row]) own tm w ∧ Fr G0 ρ0 w0 G' ρ' w ∧
      ∀ x2 u2 row2 mk2, Pend ρ0 w0 G ρ w x2 u2 row2 mk2 → (∀ o, x.1 = x2.1 → x.2.1 ≤ o → o < x.2.2 → x2.2.1 ≤ o → o < x2.2.2 → False) → Pend ρ0 w0 G' ρ' w x2 u2 row2 mk2 := by
  obtain ⟨h1, h2, h3, h4⟩ := pd
  obtain ⟨r, lo, hi⟩ := x
  simp only at h2 h3 h4
  have hle : G.le (G.addReg h.length (r, lo, hi)) := ⟨fun _ _ _ k => k, fun b y k => by
    have := st.mem.lt b y k
    simp only [Gh.addReg]
    rw [if_neg (by omega)]
    exact k, fun _ _ k => k⟩
  have hnew : (G.addReg h.length (r, lo, hi)).reg h.length = some (r, lo, hi) := by simp [Gh.addReg]
  have set1 : ∀ y z, (ρ.set (.blk h.length) (some (r, lo, hi))) y = some z → (y = .blk h.length ∧ z = (r, lo, hi)) ∨ (y ≠ .blk h.length ∧ ρ y = some z) := fun y z k => by
    by_cases e : y = .blk h.length
    · subst e
      rw [rho_set_eq] at k
      cases k
      exact .inl ⟨rfl, rfl⟩
    · simp only [Rho.set, if_neg e] at k
      exact .inr ⟨e, k⟩
  refine ⟨G.addReg h.length (r, lo, hi), ρ.set (.blk h.length) (some (r, lo, hi)), ⟨⟨?_, st.env.gl.mono hle⟩, ⟨st.mem.st, ?_, ?_, ?_, ?_, ?_, st.mem.obs.keep (fun _ => rfl) (fun b r hb => reg_none st.mem.obs hb) hle (by simp) (fun _ _ h _ => h) (fun b r cs hb hc => by rwa [List.getElem?_append_left (st.mem.obs b r hb).1] at hc)⟩, ?_, ?_⟩, ⟨f.le.trans hle, f.size, f.os, f.tape, f.output, f.cell, f.block, ?_, f.st, f.obn⟩, ?_⟩
  · intro i y hy
    rw [put_get] at hy
    by_cases e : d = i
    · subst e
      rw [if_pos rfl] at hy
      cases hy
      exact h1 _ _ hnew
    · rw [if_neg (by simpa using e)] at hy
      exact (st.env i y hy).mono hle
  · intro b cs hb hob
    rcases Nat.lt_or_ge b h.length with hbl | hbl
    · rw [List.getElem?_append_left hbl] at hb
      obtain ⟨r', lo', hi', q1, q2, q3, q4⟩ := st.mem.blk b cs hb hob
      refine ⟨r', lo', hi', hle.r _ _ q1, ?_, q3, fun j hj => ?_⟩
      · rw [rho_set_ne (by intro e; cases e; omega)]
        exact q2
      · obtain ⟨v, a1, a2, a3⟩ := q4 j hj
        exact ⟨v, a1, a2.mono hle, a3⟩
    · have hbe : b = h.length := by
        have := (List.getElem?_eq_some_iff.1 hb).1
        simp at this
        omega
      subst hbe
      simp at hb
      subst hb
      refine ⟨r, lo, hi, hnew, by rw [rho_set_eq], h3, fun j hj => ?_⟩
      obtain ⟨v, a1, a2, a3⟩ := h2 j hj
      exact ⟨v, a1, a2.mono hle, a3⟩
  · intro b y hb
    simp only [Gh.addReg] at hb
    by_cases e : b = h.length
    · simp; omega
    · rw [if_neg e] at hb
      have := st.mem.lt b y hb
      simp
      omega
  · intro y r' lo' hi' hy o a b
    rcases set1 y _ hy with ⟨rfl, e⟩ | ⟨e, hy'⟩
    · cases e
      obtain ⟨k1, k2, k3, _⟩ := h4 o a b
      exact ⟨k1, k2, k3⟩
    · exact st.mem.own y r' lo' hi' hy' o a b
  · intro y z r' lo' hi' lo2 hi2 hne hy hz o a b a' b'
    rcases set1 y _ hy with ⟨rfl, e⟩ | ⟨e, hy'⟩
    · cases e
      rcases set1 z _ hz with ⟨rfl, _⟩ | ⟨e', hz'⟩
      · exact hne rfl
      · exact (h4 o a b).2.2.2.1 ⟨z, lo2, hi2, hz', a', b'⟩
    · rcases set1 z _ hz with ⟨rfl, e'⟩ | ⟨e', hz'⟩
      · cases e'
        exact (h4 o a' b').2.2.2.1 ⟨y, lo', hi', hy', a, b⟩
      · exact st.mem.dis y z r' lo' hi' lo2 hi2 hne hy' hz' o a b a' b'
  · intro b hb
    by_cases e : b = h.length
    · simp; omega
    · have := st.mem.ob b (by rwa [rho_set_ne (by intro k; cases k; exact e rfl)] at hb)
      simp
      omega
  · intro s c hk
    obtain ⟨u1, v1, x1, k1, k2, k3, k4⟩ := st.own s c hk
    have hsd := hown s c hk
    refine ⟨u1, v1, x1, k1, ?_, k3, ?_⟩
    · rw [put_get, if_neg (by simpa using fun e => hsd e.symm)]
      exact k2
    · rw [rho_set_ne (by simp)]
      exact k4
  · intro s c hk
    rw [rho_set_ne (by simp)]
    exact st.non s c hk
  · rintro r' o ⟨y, l, j, hy, a, b⟩
    rcases set1 y _ hy with ⟨rfl, e⟩ | ⟨e, hy'⟩
    · cases e
      exact (h4 o a b).2.2.2.2
    · exact f.own r' o ⟨y, l, j, hy', a, b⟩
  · rintro x2 u2 row2 mk2 ⟨p1, p2, p3, p4⟩ hdis
    refine ⟨p1, fun j hj => ?_, p3, fun o a b => ?_⟩
    · obtain ⟨v, a1, a2, a3⟩ := p2 j hj
      exact ⟨v, a1, a2.mono hle, a3⟩
    · obtain ⟨k1, k2, k3, k4, k5⟩ := p4 o a b
      refine ⟨k1, k2, k3, ?_, k5⟩
      rintro ⟨y, l, j, hy, a', b'⟩
      rcases set1 y _ hy with ⟨rfl, e⟩ | ⟨e, hy'⟩
      · cases e
        exact hdis o rfl a' b' a b
      · exact k4 ⟨y, l, j, hy', a', b'⟩
end
/-- How many are still to be done. -/
def undone (l : Array Bool) : Nat := l.toList.count false
theorem undone_set {l : Array Bool} {j : Nat} (hj : l.getD j true = false) : undone (l.setIfInBounds j true) + 1 = undone l := by
  have hjs : j < l.size := by
    rcases Nat.lt_or_ge j l.size with h | h
    · exact h
    · simp [Array.getD_eq_getD_getElem?, Array.getElem?_eq_none h] at hj
  have hjl : j < l.toList.length := by simpa using hjs
  unfold undone
  rw [Array.toList_setIfInBounds, List.count_set hjl]
  have hv : l.toList[j] = false := by
    rw [Array.getD_eq_getD_getElem?, Array.getElem?_eq_getElem hjs] at hj
    simpa using hj
  have hpos : 0 < l.toList.count false := List.count_pos_iff.2 (by rw [← hv]; exact List.getElem_mem hjl)
  rw [hv]
  simp only [beq_self_eq_true, if_true, show ((true : Bool) == false) = false from rfl, Bool.false_eq_true, if_false]
  omega

theorem getD_true {l : Array Bool} {j : Nat} (h : j < l.size) : l.getD j true = l.getD j false := by
  simp [Array.getD_eq_getD_getElem?, h]


/-- One that makes a block makes it in whatever heap. -/
theorem mk1_spec (C : Callee) {op : AOp} {e : Env} {h h' : Heap} {v : V} (hm : op.mk1 = true) (hv : evOp C op e h = some (v, h')) :
    ∃ (row : List V) (mk : Nat → V), V.hfs row = true ∧ h' = h ++ [some row] ∧ v = mk h.length ∧ (∀ h2, evOp C op e h2 = some (mk h2.length, h2 ++ [some row])) ∧ ((mk = fun b => V.ptr b 0) ∨ ∃ s l, mk = fun b => V.hs s b 0 l) := by
  cases op <;> simp only [AOp.mk1] at hm <;> try (cases hm; done)
  case alloc z =>
    simp only [evOp, Option.some.injEq, Prod.mk.injEq] at hv
    exact ⟨z, fun b => .ptr b 0, hm, hv.2.symm, hv.1.symm, fun h2 => rfl, .inl rfl⟩
  case mksl s b z l c hp =>
    simp only [Bool.and_eq_true] at hm
    obtain ⟨rfl, hz⟩ := hm
    simp only [evOp] at hv ⊢
    obtain ⟨lv, h1, hv⟩ := pair_bind hv
    obtain ⟨cv, h2, hv⟩ := pair_bind hv
    obtain ⟨⟨ln, cn⟩, h3, hv⟩ := pair_bind hv
    simp at hv
    refine ⟨flat (List.replicate ln z), fun b => .hs s b 0 ln, hfs_flat _ ?_, hv.2.symm, hv.1.symm, fun h2' => by rw [h1, Option.bind_some, h2, Option.bind_some, h3]; rfl, .inr ⟨s, ln, rfl⟩⟩
    clear hv h3
    induction ln with
    | zero => rfl
    | succ k ih => simp [List.replicate_succ, V.hfs, hz, ih]
theorem mk1_rank {op : AOp} (h : op.mk1 = true) : op.rank = 2 := by
  cases op <;> simp only [AOp.mk1] at h <;> try (cases h; done)
  · rfl
  · simp only [Bool.and_eq_true] at h
    obtain ⟨rfl, _⟩ := h
    rfl

section
variable {P : Program} {T : Table} {C : Callee} {sig : Sig} {n : Nat}
variable {ops : List AOpr} {B : List Nat} {E : Nat → Env} {H : Nat → Heap} {W : Nat → Bool} {U : Nat → V} {X : Nat → Bool} {own : Own} {G0 : Gh} {ρ0 : Rho} {w0 : World}

/-- Done, but not in the heap that stands. -/
def pending (ops : List AOpr) (B : List Nat) (X : Nat → Bool) (p k : Nat) : Prop := X k = true ∧ lateB ops B k = true ∧ p ≤ k
/-- The state in the midst of a region whose order is drawn. -/
structure Mid (n : Nat) (ops : List AOpr) (B : List Nat) (E : Nat → Env) (H : Nat → Heap) (U : Nat → V) (own : Own) (G0 : Gh) (ρ0 : Rho) (w0 : World) (X : Nat → Bool) (p : Nat) (G : Gh) (ρ : Rho) (ea : Env) (a : Act) (w : World) (R : Nat → Reg) : Prop where
  le : p ≤ ops.length
  done : ∀ k, rank2 ops k = true → k < p → X k = true
  late : ∀ k, rank2 ops k = true → p ≤ k → X k = true → lateB ops B k = true
  env : ∀ t, (∀ k y, pending ops B X p k → ops[k]? = some y → y.dst ≠ some t) → ea.get t = (EX (E 0) ops U (inH ops B X p) ops.length).get t
  st : FSt n G ρ ea (H p) own a w
  fr : Fr G0 ρ0 w0 G ρ w
  pend : ∀ k, pending ops B X p k → ∃ y d row mk, ops[k]? = some y ∧ y.dst = some d ∧ U k = mk (H k).length ∧ H (k + 1) = H k ++ [some row] ∧ Pend ρ0 w0 G ρ w (R k) (a.tmps.getD d undef) row mk
  dis : ∀ k k2, pending ops B X p k → pending ops B X p k2 → k ≠ k2 → ∀ o, (R k).1 = (R k2).1 → (R k).2.1 ≤ o → o < (R k).2.2 → (R k2).2.1 ≤ o → o < (R k2).2.2 → False

/-- Blocks that were put aside come into the heap in their turn. -/
theorem settle (tr : Tr C ops E H W U) (hl : lateOk ops B ops.length = true) (hown : ∀ (j : Nat) (ar : AOpr) (d : Nat), lateB ops B j = true → ops[j]? = some ar → ar.dst = some d → ∀ s c, (s, c) ∈ own → s ≠ d) {a : Act} {w : World} {R : Nat → Reg} :
    ∀ (m p : Nat) (G : Gh) (ρ : Rho) (ea : Env), ops.length - p ≤ m → Mid n ops B E H U own G0 ρ0 w0 X p G ρ ea a w R → ∃ p' G' ρ' ea', Mid n ops B E H U own G0 ρ0 w0 X p' G' ρ' ea' a w R ∧ Pos ops X p' := by
  intro m
  induction m with
  | zero =>
    intro p G ρ ea hm md
    exact ⟨p, G, ρ, ea, md, md.le, md.done, fun k hk _ _ => by
      obtain ⟨y, hy, _⟩ := rank2_get hk
      have := (List.getElem?_eq_some_iff.1 hy).1
      omega⟩
  | succ m ih =>
    intro p G ρ ea hm md
    rcases Nat.lt_or_ge p ops.length with hpl | hpl
    · obtain ⟨y, hy⟩ : ∃ y, ops[p]? = some y := ⟨ops[p], List.getElem?_eq_getElem hpl⟩
      cases h2 : rank2 ops p with
      | false =>
        have hne : y.op.rank ≠ 2 := fun e => by
          rw [(rank2_iff hy).2 e] at h2
          cases h2
        have hH := H_step tr hy hne
        have hpe : ∀ k, pending ops B X (p + 1) k ↔ pending ops B X p k := fun k => by
          refine ⟨fun ⟨a, b, c⟩ => ⟨a, b, by omega⟩, fun ⟨a, b, c⟩ => ⟨a, b, ?_⟩⟩
          rcases Nat.eq_or_lt_of_le c with e | e
          · subst e
            have := late_rank b
            rw [h2] at this
            cases this
          · exact e
        have hin : inH ops B X (p + 1) = inH ops B X p := by
          funext i
          unfold inH
          by_cases e : i = p
          · subst e
            have : lateB ops B i = false := by
              cases hlb : lateB ops B i with
              | false => rfl
              | true =>
                have := late_rank hlb
                rw [h2] at this
                cases this
            simp [this]
          · congr 2
            rw [decide_eq_decide]
            omega
        refine ih (p + 1) G ρ ea (by omega) ⟨by omega, fun k hk hkp => ?_, fun k hk hkp => md.late k hk (by omega), fun t ht => ?_, by rw [hH]; exact md.st, md.fr, fun k hk => md.pend k ((hpe k).1 hk), fun k k2 h1 h3 => md.dis k k2 ((hpe k).1 h1) ((hpe k2).1 h3)⟩
        · rcases Nat.eq_or_lt_of_le (Nat.le_of_lt_succ hkp) with e | e
          · subst e
            rw [h2] at hk
            cases hk
          · exact md.done k hk e
        · rw [hin]
          exact md.env t fun k y hk => ht k y ((hpe k).2 hk)
      | true =>
        cases hx : X p with
        | false =>
          refine ⟨p, G, ρ, ea, md, md.le, md.done, fun k hk hall hxk => ?_⟩
          rcases Nat.lt_or_ge k p with h | h
          · exact h
          · exfalso
            rcases Nat.eq_or_lt_of_le h with e | e
            · subst e
              rw [hx] at hxk
              cases hxk
            · have := hall p e h2
              rw [hx] at this
              cases this
        | true =>
          have hlp := md.late p h2 (Nat.le_refl _) hx
          have hpp : pending ops B X p p := ⟨hx, hlp, Nat.le_refl _⟩
          obtain ⟨y', d, row, mk, q1, q2, q3, q4, q5⟩ := md.pend p hpp
          rw [hy] at q1
          cases q1
          obtain ⟨_, d', u1, _, _, u4, u5⟩ := late_spec hl hpl hlp
          rw [hy] at u1
          cases u1
          rw [q2] at u4
          cases u4
          have huniq : ∀ i z, i ≠ p → ops[i]? = some z → z.dst ≠ some d := fun i z hi hz => (u5 i z (List.getElem?_eq_some_iff.1 hz).1 hi hz).1
          obtain ⟨G', ρ', st', f', keep⟩ := adopt md.st.st q5 md.fr (hown p y d hlp hy q2)
          have hpe : ∀ k, pending ops B X (p + 1) k → pending ops B X p k ∧ k ≠ p := fun k ⟨a, b, c⟩ => ⟨⟨a, b, by omega⟩, by omega⟩
          have hin : ∀ i, inH ops B X (p + 1) i = true ↔ (i = p ∨ inH ops B X p i = true) := fun i => by
            unfold inH
            by_cases e : i = p
            · subst e
              simp [hx]
            · simp only [e, false_or]
              have : decide (i < p + 1) = decide (i < p) := by rw [decide_eq_decide]; omega
              rw [this]
          refine ih (p + 1) G' ρ' (ea.put (some d) (mk (H p).length)) (by omega) ⟨by omega, fun k hk hkp => ?_, fun k hk hkp => md.late k hk (by omega), fun t ht => ?_, ⟨by rw [q4]; exact st', md.st.size, md.st.defers⟩, f', fun k hk => ?_, fun k k2 h1 h3 => md.dis k k2 (hpe k h1).1 (hpe k2 h3).1⟩
          · rcases Nat.eq_or_lt_of_le (Nat.le_of_lt_succ hkp) with e | e
            · subst e; exact hx
            · exact md.done k hk e
          · rw [adopt_env hy q2 huniq (inH ops B X p) (inH ops B X (p + 1)) hin t, put_get, put_get, q3]
            split
            · rfl
            · rename_i hdt
              refine md.env t fun k z hk hz hzt => ?_
              by_cases e : k = p
              · subst e
                rw [hy] at hz
                cases hz
                rw [q2] at hzt
                exact hdt hzt
              · exact ht k z ⟨hk.1, hk.2.1, by have := hk.2.2; omega⟩ hz hzt
          · obtain ⟨h1, h3⟩ := hpe k hk
            obtain ⟨z, d2, row2, mk2, r1, r2, r3, r4, r5⟩ := md.pend k h1
            exact ⟨z, d2, row2, mk2, r1, r2, r3, r4, keep _ _ _ _ r5 (fun o => md.dis p k hpp h1 (fun e => h3 e.symm) o)⟩
    · exact ⟨p, G, ρ, ea, md, md.le, md.done, fun k hk _ _ => by
        obtain ⟨y, hy, _⟩ := rank2_get hk
        have := (List.getElem?_eq_some_iff.1 hy).1
        omega⟩
theorem planOk_spec {B : List Nat} {pl : Plan} (h : planOk sig ops B pl ops.length = true) :
    (∀ (l k : Nat) (x y : Nat × Own), k < l → pl.2[l]? = some x → pl.2[k]? = some y → y.1 < x.1 ∧ (B.getD x.1 0).testBit y.1 = true) ∧
    (∀ (l : Nat) (x : Nat × Own), pl.2[l]? = some x → ∃ ar, ops[x.1]? = some ar ∧ lateB ops B x.1 = false ∧ ∃ O', tokOpr sig ar (ownAt pl l) = some O' ∧ ∀ q, q ∈ x.2 → q ∈ O') ∧
    (∀ j, j < ops.length → (∀ (l : Nat) (x : Nat × Own), pl.2[l]? = some x → x.1 ≠ j) → ∀ k, k ≤ pl.2.length → (∀ (k' : Nat) (x : Nat × Own), k = k' + 1 → pl.2[k']? = some x → (B.getD x.1 0).testBit j = true → False) → (∀ (x : Nat × Own), pl.2[k]? = some x → (B.getD j 0).testBit x.1 = true → False) →
      ∀ ar, ops[j]? = some ar → (∃ O', tokOp sig ar.op ar.dst (ownAt pl k) = some O' ∧ ∀ q, q ∈ ownAt pl k → q ∈ O') ∧ ∀ q, q ∈ ownAt pl k → q ∈ dropSlot (ownAt pl k) ar.dst) ∧
    (∀ j, lateB ops B j = true → ∀ ar, ops[j]? = some ar → ∀ d, ar.dst = some d → ∀ k, k ≤ pl.2.length → ∀ q, q ∈ ownAt pl k → q.1 ≠ d) := by
  simp only [planOk, Bool.and_eq_true] at h
  obtain ⟨⟨⟨h1, h2⟩, h3⟩, h4⟩ := h
  refine ⟨fun l k x y hkl hx hy => ?_, fun l x hx => ?_, fun j hj hno k hk hb1 hb2 ar ha => ?_, fun j hl ar ha d hd k hk q hq => ?_⟩
  · have := List.all_eq_true.1 (List.all_eq_true.1 h1 l (List.mem_range.2 (List.getElem?_eq_some_iff.1 hx).1)) k (List.mem_range.2 hkl)
    rw [hx, hy] at this
    simpa using this
  · have := List.all_eq_true.1 h2 l (List.mem_range.2 (List.getElem?_eq_some_iff.1 hx).1)
    rw [hx] at this
    simp only at this
    cases ha : ops[x.1]? with
    | none => rw [ha] at this; cases this
    | some ar =>
      rw [ha] at this
      simp only [Bool.and_eq_true, Bool.not_eq_true'] at this
      obtain ⟨t1, t2⟩ := this
      cases ht : tokOpr sig ar (ownAt pl l) with
      | none => rw [ht] at t2; cases t2
      | some O' =>
        rw [ht] at t2
        exact ⟨ar, rfl, t1, O', ht, fun q hq => by simpa using List.all_eq_true.1 t2 q hq⟩
  · have := List.all_eq_true.1 h3 j (List.mem_range.2 hj)
    rcases Bool.or_eq_true _ _ ▸ this with t | t
    · exfalso
      obtain ⟨x, hx, hxj⟩ := List.any_eq_true.1 t
      obtain ⟨l, hl, he⟩ := List.getElem_of_mem hx
      exact hno l x (by rw [List.getElem?_eq_getElem hl, he]) (by simpa using hxj)
    · have := List.all_eq_true.1 t k (List.mem_range.2 (by omega))
      rw [Bool.or_eq_true, Bool.or_eq_true] at this
      rcases this with (t | t) | t
      · exfalso
        cases k with
        | zero => cases t
        | succ k' =>
          simp only at t
          cases hx : pl.2[k']? with
          | none => rw [hx] at t; cases t
          | some x => rw [hx] at t; exact hb1 k' x rfl hx t
      · exfalso
        cases hx : pl.2[k]? with
        | none => rw [hx] at t; cases t
        | some x => rw [hx] at t; exact hb2 x hx t
      · rw [ha] at t
        simp only [tokFix, Bool.and_eq_true] at t
        obtain ⟨tk1, tk2⟩ := t
        refine ⟨?_, fun q hq => by simpa using List.all_eq_true.1 tk2 q hq⟩
        cases htok : tokOp sig ar.op ar.dst (ownAt pl k) with
        | none => rw [htok] at tk1; cases tk1
        | some O' =>
          rw [htok] at tk1
          exact ⟨O', rfl, fun q hq => by simpa using List.all_eq_true.1 tk1 q hq⟩
  · have hj := (List.getElem?_eq_some_iff.1 ha).1
    have := List.all_eq_true.1 h4 j (List.mem_range.2 hj)
    rw [hl] at this
    simp only [Bool.not_true, Bool.false_or] at this
    have := List.all_eq_true.1 this k (List.mem_range.2 (by omega))
    rw [ha] at this
    simp only [hd] at this
    simpa using List.all_eq_true.1 this q hq
/-- A REGION WHOSE ORDER IS DRAWN. -/
theorem draw_sound (hC : CallsOk P T C) (hT : ∀ f af, T f = some af → funcOk P f = true) (hS : ∀ f ps rs, sig f = some (ps, rs) → ∃ af, T f = some af ∧ af.ownP = ps ∧ af.ownR = rs)
    {id : Nat} {os : Array Oper} {ops : List AOpr} {own : Plan} {fl : List (Nat × Nat × Nat)} {G : Gh} {ρ : Rho} {e e' : Env} {h h' : Heap} {a : Act} {w : World} {Q : Exit → Act → World → Prop} (hm : P.follows .mixedOrders = true)
    (st : FSt n G ρ e h own.1 a w) (hc : chkDraw P sig n ops own fl os.toList = true) (hv : runOps C ops e h = some (e', h')) (hf : flagsOk C ops e h fl = true)
    (hQ : ∀ G' ρ' a' w', FSt n G' ρ' e' h' (ownAt own own.2.length) a' w' → Fr G ρ w G' ρ' w' → Q .normal a' w') : (Code.region id os true).wp P Q a w := by
  refine wp_region_any hm ?_
  simp only [chkDraw, Bool.and_eq_true] at hc
  obtain ⟨⟨⟨⟨⟨c1, c2⟩, c3⟩, cL⟩, c4⟩, c5⟩ := hc
  obtain ⟨E, H, W, U, tr, e0, h0, e1, h1, htr⟩ := tr_of_run C ops e h e' h' hv
  have hfl := flags_of tr htr hf
  obtain ⟨hlen, hget⟩ := chkOpers_get ops os.toList c1
  have hlen' : ops.length = os.size := by simpa using hlen
  obtain ⟨hps1, hps2, hps3, hps4⟩ := planOk_spec c5
  have hown : ∀ kk, kk ≤ own.2.length → ∀ (j : Nat) (ar : AOpr) (d : Nat), lateB ops (masks os.toList []) j = true → ops[j]? = some ar → ar.dst = some d → ∀ s c, (s, c) ∈ ownAt own kk → s ≠ d := fun kk hkk j ar d hl ha hd s c hk => hps4 j hl ar ha d hd kk hkk (s, c) hk
  -- the walk through whatever order
  have walk : ∀ (fuel : Nat) (listed : Array Bool) (p : Nat) (G1 : Gh) (ρ1 : Rho) (ea : Env) (a1 : Act) (w1 : World) (R : Nat → Reg) (kk : Nat), kk ≤ own.2.length → (∀ (l : Nat) (x : Nat × Own), own.2[l]? = some x → (listed.getD x.1 false = true ↔ l < kk)) → listed.size = os.size → undone listed = fuel →
      Closed os.toList (fun i => listed.getD i false) → Pos ops (fun i => listed.getD i false) p → Mid n ops (masks os.toList []) E H U (ownAt own kk) G ρ w (fun i => listed.getD i false) p G1 ρ1 ea a1 w1 R →
      wpAny P .any os Q fuel listed a1 w1 := by
    intro fuel
    induction fuel with
    | zero =>
      intro listed p G1 ρ1 ea a1 w1 R kk hkk hst hls hu hcl ps md
      have hall : ∀ i, i < listed.size → listed.getD i true = true := fun i hi => by
        have : listed.toList.count false = 0 := hu
        rw [List.count_eq_zero] at this
        cases hv : listed.getD i true with
        | true => rfl
        | false =>
          exfalso
          refine this ?_
          rw [Array.getD_eq_getD_getElem?, Array.getElem?_eq_getElem hi] at hv
          rw [← show listed[i] = false by simpa using hv]
          exact Array.getElem_mem_toList hi
      refine ⟨?_, ?_⟩
      · cases hr : Region.ready .any os listed with
        | nil => rfl
        | cons j r =>
          have hj : j ∈ Region.ready .any os listed := by rw [hr]; simp
          obtain ⟨q1, o, q2, _⟩ := mem_ready.1 hj
          have hjl : j < os.size := (Array.getElem?_eq_some_iff.1 q2).1
          rw [hall j (by omega)] at q1
          cases q1
      · have hX : ∀ k, k < ops.length → listed.getD k false = true := fun k hk => by
          rw [← getD_true (by omega), hall k (by omega)]
        have hfar : ∀ k, rank2 ops k = true → k < p := fun k hk => by
          obtain ⟨y, hy, _⟩ := rank2_get hk
          exact ps.far k hk (fun i _ hi => by
            obtain ⟨z, hz, _⟩ := rank2_get hi
            exact hX i (List.getElem?_eq_some_iff.1 hz).1) (hX k (List.getElem?_eq_some_iff.1 hy).1)
        have hH : H p = h' := by
          rw [← h1]
          refine H_between tr p ops.length md.le (Nat.le_refl _) (fun k ar' ha' hk => ?_)
          have hkl : k < ops.length := (List.getElem?_eq_some_iff.1 ha').1
          have := hfar k ((rank2_iff ha').2 hk)
          constructor <;> intro _ <;> assumption
        have hE : ∀ t, ea.get t = e'.get t := fun t => by
          rw [md.env t (fun k y hk => by
            have h2 := hfar k (late_rank hk.2.1)
            have h3 := hk.2.2
            omega), ← e1]
          have := EX_get tr (inH ops (masks os.toList []) (fun i => listed.getD i false) p) t ops.length (fun i ar' ha' _ => by
            have hkl : i < ops.length := (List.getElem?_eq_some_iff.1 ha').1
            refine ⟨fun _ => hkl, fun _ => ?_⟩
            unfold inH
            simp only [hX i hkl, Bool.true_and]
            cases hli : lateB ops (masks os.toList []) i with
            | false => simp
            | true => simp [hfar i (late_rank hli)]) ops.length (Nat.le_refl _)
          rw [this]
          simp
        have st1 := md.st
        rw [hH] at st1
        have hkm : kk = own.2.length := by
          rcases Nat.eq_or_lt_of_le hkk with e | e
          · exact e
          · exfalso
            have hx := List.getElem?_eq_getElem e
            obtain ⟨ar, ha, _⟩ := hps2 kk _ hx
            have := (hst kk _ hx).1 (hX _ (List.getElem?_eq_some_iff.1 ha).1)
            omega
        rw [hkm] at st1
        exact hQ G1 ρ1 a1 w1 ⟨st1.st.congr hE, st1.size, st1.defers⟩ md.fr
    | succ fuel ih =>
      intro listed p G1 ρ1 ea a1 w1 R kk hkk hst hls hu hcl ps md
      refine ⟨fun hnil => ?_, fun j hj => ?_⟩
      · -- somebody is ready
        exfalso
        have hex : ∀ (d j : Nat), j < d → j < os.size → listed.getD j true = false → False := by
          intro d
          induction d with
          | zero => intro j h; omega
          | succ d ihd =>
            intro j hjd hjs hjf
            have hno : j ∉ Region.ready .any os listed := by rw [hnil]; simp
            apply hno
            rw [mem_ready]
            refine ⟨hjf, os[j], Array.getElem?_eq_getElem hjs, fun ed hed hbd => ?_⟩
            have hlt := edges_lt os.toList 0 c2 j os[j] (by simp [hjs]) ed hed hbd
            cases hx : listed.getD ed.on false with
            | true => rfl
            | false =>
              exfalso
              exact ihd ed.on (by omega) (by omega) (by rw [getD_true (by omega)]; exact hx)
        have hpos : 0 < listed.toList.count false := by
          have : listed.toList.count false = fuel + 1 := hu
          omega
        obtain ⟨i, hi, hvi⟩ := List.getElem_of_mem (List.count_pos_iff.1 hpos)
        have his : i < listed.size := by simpa using hi
        refine hex (i + 1) i (by omega) (by omega) ?_
        rw [Array.getD_eq_getD_getElem?, Array.getElem?_eq_getElem his]
        simpa using hvi
      · obtain ⟨hjf, o, ho, hr⟩ := mem_ready.1 hj
        have hjs : j < os.size := (Array.getElem?_eq_some_iff.1 ho).1
        have hoL : os.toList[j]? = some o := by rw [Array.getElem?_toList]; exact ho
        obtain ⟨ar, ha⟩ : ∃ ar, ops[j]? = some ar := ⟨ops[j]'(by omega), List.getElem?_eq_getElem (by omega)⟩
        have hjl : j < ops.length := by omega
        have hoc := hget j ar o ha hoL
        have hXj : listed.getD j false = false := by rw [← getD_true (by omega)]; exact hjf
        have hlX : ∀ i, listed.getD i false = true → i < os.toList.length := fun i hi => by
          rcases Nat.lt_or_ge i listed.size with h | h
          · simp; omega
          · simp [Array.getD_eq_getD_getElem?, Array.getElem?_eq_none h] at hi
        have hX' : ∀ i, (listed.setIfInBounds j true).getD i false = true ↔ (i = j ∨ listed.getD i false = true) := fun i => by
          simp only [Array.getD_eq_getD_getElem?, Array.getElem?_setIfInBounds]
          by_cases hij : j = i
          · subst hij
            simp [hls, hjs]
          · rw [if_neg hij]
            exact ⟨fun h => .inr h, fun h => h.resolve_left fun e => hij e.symm⟩
        have hX'j : (listed.setIfInBounds j true).getD j false = true := (hX' j).2 (.inl rfl)
        have hX'n : ∀ i, i ≠ j → (listed.setIfInBounds j true).getD i false = listed.getD i false := fun i hij => by
          have := hX' i
          simp only [hij, false_or] at this
          cases hx : listed.getD i false with
          | true => exact this.2 hx
          | false =>
            cases hx' : (listed.setIfInBounds j true).getD i false with
            | false => rfl
            | true => rw [this.1 hx'] at hx; cases hx
        obtain ⟨d1, d2⟩ := order_done (X := fun i => listed.getD i false) c2 hcl hXj hoL hr hlX
        have hsl := fun t ht => ready_slots (X := fun i => listed.getD i false) tr c2 hcl hXj hoL hr hlX c3 cL ha ps t ht
        have hsl2 : ∀ t, t ∈ ar.looks → ea.get t = (E j).get t := fun t ht => by
          obtain ⟨s1, s2⟩ := hsl t ht
          rw [md.env t (fun k y hk hy => s2 k y hk.1 hk.2.1 hk.2.2 hy), s1]
        have hwt := tr.want j ar ha
        have hwa : wantedA ar.guard ea = some (W j) := by
          rw [← hwt]
          refine wantedA_congr fun s b hg => hsl2 s ?_
          unfold AOpr.looks
          rw [hg]
          simp
        simp only [chkOper, Bool.and_eq_true, beq_iff_eq] at hoc
        obtain ⟨⟨⟨q1, q2⟩, q3⟩, q4⟩ := hoc
        have hwanted := wanted_eq (o := o) md.st.st.env q3 hwa
        have hdl := dst_lt md.st.size q2
        -- who owns what behind it
        obtain ⟨kn, hkn, hstn, htk1, htk2, htk3⟩ : ∃ kn, kn ≤ own.2.length ∧ (∀ (l : Nat) (x : Nat × Own), own.2[l]? = some x → ((listed.setIfInBounds j true).getD x.1 false = true ↔ l < kn)) ∧
            (W j = true → ∃ O', tokOp sig ar.op ar.dst (ownAt own kk) = some O' ∧ ∀ q, q ∈ ownAt own kn → q ∈ O') ∧ (W j = false → ∀ q, q ∈ ownAt own kn → q ∈ dropSlot (ownAt own kk) ar.dst) ∧ (lateB ops (masks os.toList []) j = true → kn = kk) := by
          by_cases hstage : ∃ (l : Nat) (x : Nat × Own), own.2[l]? = some x ∧ x.1 = j
          · obtain ⟨l, x, hx, hxj⟩ := hstage
            have hlk : l = kk := by
              have h1 : ¬ l < kk := fun h => by
                have := (hst l x hx).2 h
                rw [hxj, hXj] at this
                cases this
              rcases Nat.eq_or_lt_of_le (Nat.le_of_not_lt h1) with e | e
              · exact e.symm
              · exfalso
                have hlm : kk < own.2.length := Nat.lt_trans e (List.getElem?_eq_some_iff.1 hx).1
                have hy := List.getElem?_eq_getElem hlm
                obtain ⟨_, hb⟩ := hps1 l kk x _ e hx hy
                rw [hxj] at hb
                have := (hst kk _ hy).1 (d1 _ hb)
                omega
            subst hlk
            obtain ⟨ar', ha', hnl, O', ht, hsub⟩ := hps2 l x hx
            rw [hxj, ha] at ha'
            cases ha'
            have hown1 : ownAt own (l + 1) = x.2 := by simp only [ownAt, hx]
            refine ⟨l + 1, (List.getElem?_eq_some_iff.1 hx).1, fun l2 x2 hx2 => ?_, fun _ => ?_, fun hw => ?_, fun hl => ?_⟩
            · rw [hX' x2.1, hst l2 x2 hx2]
              constructor
              · rintro (e | e)
                · rcases Nat.lt_trichotomy l2 l with h | h | h
                  · omega
                  · omega
                  · have := (hps1 l2 l x2 x h hx2 hx).1
                    omega
                · omega
              · intro h
                rcases Nat.eq_or_lt_of_le (Nat.le_of_lt_succ h) with e | e
                · subst e
                  rw [hx] at hx2
                  cases hx2
                  exact .inl hxj
                · exact .inr e
            · simp only [tokOpr, Option.map_eq_some_iff] at ht
              obtain ⟨O2, t1, t2⟩ := ht
              refine ⟨O2, t1, fun q hq => ?_⟩
              rw [hown1] at hq
              have := hsub q hq
              rw [← t2] at this
              split at this
              · exact this
              · exact (List.mem_filter.1 this).1
            · simp only [tokOpr, Option.map_eq_some_iff] at ht
              obtain ⟨O2, t1, t2⟩ := ht
              intro q hq
              rw [hown1] at hq
              have := hsub q hq
              rw [← t2] at this
              split at this
              · rename_i hg
                rw [hg] at hwt
                simp at hwt
                rw [hw] at hwt
                cases hwt
              · simpa using (List.mem_filter.1 this).2
            · rw [hxj] at hnl
              rw [hl] at hnl
              cases hnl
          · have hfix := hps3 j hjl (fun l x hx e => hstage ⟨l, x, hx, e⟩) kk hkk (fun k' x e hx hb => by
              have h1 := (hst k' x hx).2 (by omega)
              have := done_before (X := fun i => listed.getD i false) c2 hcl hlX h1 hb
              rw [hXj] at this
              cases this) (fun x hx hb => by
              have := (hst kk x hx).1 (d1 _ hb)
              omega) ar ha
            obtain ⟨⟨O', t1, t2⟩, t3⟩ := hfix
            refine ⟨kk, hkk, fun l x hx => ?_, fun _ => ⟨O', t1, t2⟩, fun _ => t3, fun _ => rfl⟩
            rw [hX'n _ (fun e => hstage ⟨l, x, hx, e⟩)]
            exact hst l x hx
        have hcl' : Closed os.toList (fun i => (listed.setIfInBounds j true).getD i false) := fun i hi oi hoi ed hed hbd => by
          refine (hX' ed.on).2 (.inr ?_)
          rcases (hX' i).1 hi with e | e
          · subst e
            rw [hoL] at hoi
            cases hoi
            exact hr ed hed hbd
          · exact hcl i e oi hoi ed hed hbd
        have hopc : ∀ hh r, evOp C ar.op (E j) hh = some r → evOp C ar.op ea hh = some r := fun hh r hv => by
          rw [evOp_congr C ar.op hh (fun t ht => hsl2 t (List.mem_append.2 (.inl ht)))]
          exact hv
        -- what is put aside stays as it is
        have pkeep : ∀ {G2 : Gh} {ρ2 : Rho} {w2 : World} {u : Value}, Fr G1 ρ1 w1 G2 ρ2 w2 → ∀ k, k ≠ j → pending ops (masks os.toList []) (fun i => listed.getD i false) p k →
            ∃ y d row mk, ops[k]? = some y ∧ y.dst = some d ∧ U k = mk (H k).length ∧ H (k + 1) = H k ++ [some row] ∧ Pend ρ w G2 ρ2 w2 (R k) ((a1.put o.dst u).tmps.getD d undef) row mk := by
          intro G2 ρ2 w2 u f2 k hkj hk
          obtain ⟨y, d, row, mk, r1, r2, r3, r4, r5⟩ := md.pend k hk
          obtain ⟨_, d', u1, _, _, u4, u5⟩ := late_spec cL (List.getElem?_eq_some_iff.1 r1).1 hk.2.1
          rw [r1] at u1
          cases u1
          rw [r2] at u4
          cases u4
          have hnd := (u5 j ar hjl (fun e => hkj e.symm) ha).1
          refine ⟨y, d, row, mk, r1, r2, r3, r4, ?_⟩
          have : (a1.put o.dst u).tmps.getD d undef = a1.tmps.getD d undef := by
            rw [put_tmps, ← q1]
            cases hd : ar.dst with
            | none => rfl
            | some s =>
              show (a1.tmps.setIfInBounds s u).getD d undef = _
              rw [getD_set _ _ _ _ (hdl s (by rw [← q1]; exact hd)), if_neg]
              intro e
              subst e
              exact hnd hd
          rw [this]
          exact r5.fr f2
        -- on
        have go : ∀ p' G' ρ' ea' a' w' R', Mid n ops (masks os.toList []) E H U (ownAt own kn) G ρ w (fun i => (listed.setIfInBounds j true).getD i false) p' G' ρ' ea' a' w' R' → wpAny P .any os Q fuel (listed.setIfInBounds j true) a' w' := fun p' G' ρ' ea' a' w' R' md' => by
          obtain ⟨p2, G2, ρ2, ea2, md2, ps2⟩ := settle tr cL (hown kn hkn) _ p' G' ρ' ea' (Nat.le_refl _) md'
          exact ih _ p2 G2 ρ2 ea2 a' w' R' kn hkn hstn (by simpa using hls) (by have := undone_set hjf; omega) hcl' ps2 md2
        by_cases early : lateB ops (masks os.toList []) j = true ∧ ∃ i, i < j ∧ rank2 ops i = true ∧ listed.getD i false = false
        · -- a block is made ahead of its turn
          obtain ⟨hlj, i0, hi0, hr0, hx0⟩ := early
          obtain ⟨_, d, u1, u2, u3, u4, u5⟩ := late_spec cL hjl hlj
          rw [ha] at u1
          cases u1
          have hwj : W j = true := by
            rw [u3] at hwt
            simpa using hwt.symm
          obtain ⟨row, mk, m1, m2, m3, m4, m5⟩ := mk1_spec C u2 (tr.does j ar ha hwj)
          have hpj : p ≤ j := by
            rcases Nat.lt_or_ge j p with h | h
            · have := ps.done j (late_rank hlj) h
              simp only [hXj] at this
              cases this
            · exact h
          obtain ⟨O', tk1, tk1'⟩ := htk1 hwj
          have hkk2 := htk3 hlj
          rw [hkk2] at tk1' go
          unfold wpOp
          simp only [ho, hwanted, hwj, if_true]
          refine .inl (step_any hC hT hS md.st.st q4 hdl (by rw [← q1]; exact tk1) (hopc _ _ (m4 (H p))) _ _ fun u w' G' ρ' st' f' => ?_)
          obtain ⟨st2, f2⟩ := st'.less (ownAt own kk) tk1'
          have hod : o.dst = some d := by rw [← q1]; exact u4
          obtain ⟨e2, he2⟩ : ∃ e2 : Env, ∀ t, e2.get t = if t = d then none else ea.get t := ⟨ea.filter fun q => q.1 != d, fun t => by
            clear hsl2 hwa hopc st' st2 hwanted
            have md' := ()
            clear md' 
            generalize ea = ee
            induction ee with
            | nil => simp [Env.get]
            | cons q l ihl =>
              obtain ⟨q, v⟩ := q
              by_cases hq : q = d
              · subst hq
                rw [List.filter_cons_of_neg (by simp), ihl]
                by_cases htq : t = q
                · simp [htq]
                · rw [if_neg htq, if_neg htq]
                  simp only [Env.get]
                  rw [if_neg (fun e => htq e.symm)]
              · rw [List.filter_cons_of_pos (by simpa using hq)]
                simp only [Env.get]
                by_cases htq : q = t
                · subst htq
                  simp [hq]
                · rw [if_neg htq, if_neg htq, ihl]⟩
          rw [hod, put_tmps] at st2
          obtain ⟨G2, ρ2, x, st3, f3, pd, hx⟩ := unadopt (mk := mk) md.st.st st2 (f'.trans f2) (hdl d hod) rfl m5 m1 (hown kk hkk j ar d hlj ha u4) he2 md.fr
          refine go p G2 ρ2 e2 _ w' (fun k => if k = j then x else R k) ⟨md.le, fun k hk hkp => (hX' k).2 (.inr (md.done k hk hkp)), fun k hk hkp hxk => ?_, fun t ht => ?_, ⟨by rw [hod, put_tmps]; exact st3, by rw [put_size]; exact md.st.size, by rw [put_defers']; exact md.st.defers⟩, md.fr.trans f3, fun k hk => ?_, fun k k2 hk hk2 hne oo => ?_⟩
          · by_cases e : k = j
            · subst e; exact hlj
            · exact md.late k hk hkp ((hX'n k e).symm.trans hxk)
          · have htd : t ≠ d := fun e => ht j ar ⟨hX'j, hlj, hpj⟩ ha (by rw [e]; exact u4)
            rw [he2, if_neg htd, md.env t (fun k y hk hy => by
              by_cases e : k = j
              · subst e
                have := hk.1
                simp only [hXj] at this
                cases this
              · exact ht k y ⟨(hX' k).2 (.inr hk.1), hk.2.1, hk.2.2⟩ hy)]
            refine EX_same (E 0) _ _ t (fun i z hz hzd => ?_) ops.length
            unfold inH
            by_cases e : i = j
            · subst e
              rw [ha] at hz
              cases hz
              rw [u4] at hzd
              exact absurd (Option.some.inj hzd).symm htd
            · simp only [hX'n i e]
          · by_cases e : k = j
            · subst e
              refine ⟨ar, d, row, mk, ha, u4, m3, m2, ?_⟩
              rw [if_pos rfl, hod, put_tmps]
              show Pend ρ w G2 ρ2 w' x ((a1.tmps.setIfInBounds d u).getD d undef) row mk
              rw [getD_set _ _ _ _ (hdl d hod), if_pos rfl]
              exact pd
            · rw [if_neg e]
              exact pkeep f3 k e ⟨(hX'n k e).symm.trans hk.1, hk.2.1, hk.2.2⟩
          · have key : ∀ k, k ≠ j → pending ops (masks os.toList []) (fun i => (listed.setIfInBounds j true).getD i false) p k → ∀ oo, x.1 = (R k).1 → x.2.1 ≤ oo → oo < x.2.2 → (R k).2.1 ≤ oo → oo < (R k).2.2 → False := fun k e hk oo h1 h2 h3 h4 h5 => by
              obtain ⟨y, d', row', mk', r1, r2, r3, r4, r5⟩ := md.pend k ⟨(hX'n k e).symm.trans hk.1, hk.2.1, hk.2.2⟩
              have r6 := r5.fr (f'.trans f2)
              have := (r6.2.2.2 oo h4 h5).2.2.2.1
              rw [← h1] at this
              exact this (hx oo h2 h3)
            by_cases e : k = j
            · subst e
              rw [if_pos rfl, if_neg (fun e => hne e.symm)]
              exact key k2 (fun e => hne e.symm) hk2 oo
            · rw [if_neg e]
              by_cases e2 : k2 = j
              · subst e2
                rw [if_pos rfl]
                exact fun h1 h2 h3 h4 h5 => key k e hk oo h1.symm h4 h5 h2 h3
              · rw [if_neg e2]
                exact md.dis k k2 ⟨(hX'n k e).symm.trans hk.1, hk.2.1, hk.2.2⟩ ⟨(hX'n k2 e2).symm.trans hk2.1, hk2.2.1, hk2.2.2⟩ hne oo
        · -- in its turn
          obtain ⟨p0, hp0, hP1, hP2, hP3⟩ : ∃ p0, p0 ≤ ops.length ∧ (W j = true → evOp C ar.op (E j) (H p) = some (U j, H p0)) ∧ (W j = false → H p0 = H p) ∧
              ((∀ k, rank2 ops k = true → k < p0 → (listed.setIfInBounds j true).getD k false = true) ∧ (∀ k, rank2 ops k = true → p0 ≤ k → (listed.setIfInBounds j true).getD k false = true → k ≠ j ∧ p ≤ k) ∧
                (∀ k, rank2 ops k = true → p ≤ k → listed.getD k false = true → p0 ≤ k) ∧ (∀ i, inH ops (masks os.toList []) (fun i => (listed.setIfInBounds j true).getD i false) p0 i = true ↔ (i = j ∨ inH ops (masks os.toList []) (fun i => listed.getD i false) p i = true))) := by
            by_cases h2 : ar.op.rank = 2
            · have hrj := (rank2_iff ha).2 h2
              have all : ∀ i, i < j → rank2 ops i = true → listed.getD i false = true := fun i hi hri => by
                cases hlj : lateB ops (masks os.toList []) j with
                | false => exact d1 i (late_not hlj hrj hri hi)
                | true =>
                  cases hx : listed.getD i false with
                  | true => rfl
                  | false => exact absurd ⟨hlj, i, hi, hri, hx⟩ early
              have hpj : p ≤ j := by
                rcases Nat.lt_or_ge j p with h | h
                · have := ps.done j hrj h
                  simp only [hXj] at this
                  cases this
                · exact h
              have hno : ∀ k, rank2 ops k = true → p ≤ k → k < j → False := fun k hk h3 h4 => by
                have := ps.far k hk (fun i hi hri => all i (by omega) hri) (all k h4 hk)
                omega
              have hHp : H p = H j := H_at (X := fun i => listed.getD i false) tr ps hXj hjl all (fun k hk h3 h4 => by omega)
              refine ⟨j + 1, by omega, fun hw => by rw [hHp]; exact tr.does j ar ha hw, fun hw => by rw [hHp]; exact (tr.skip j ar ha hw).2, fun k hk hkp => ?_, fun k hk hkp hxk => ⟨by omega, by omega⟩, fun k hk hkp hxk => ?_, fun i => ?_⟩
              · rw [hX']
                rcases Nat.eq_or_lt_of_le (Nat.le_of_lt_succ hkp) with e | e
                · exact .inl e
                · exact .inr (all k e hk)
              · rcases Nat.lt_or_ge k j with h | h
                · exact (hno k hk hkp h).elim
                · rcases Nat.eq_or_lt_of_le h with e | e
                  · subst e
                    rw [hXj] at hxk
                    cases hxk
                  · exact e
              · unfold inH
                by_cases e : i = j
                · subst e
                  simp [hX'j]
                · simp only [hX'n i e, e, false_or]
                  have : lateB ops (masks os.toList []) i = true → (i < j + 1 ↔ i < p) := fun hli => by
                    have hri := late_rank hli
                    constructor
                    · intro h
                      rcases Nat.lt_or_ge i p with h3 | h3
                      · exact h3
                      · exact (hno i hri h3 (by omega)).elim
                    · intro h; omega
                  cases hli : lateB ops (masks os.toList []) i with
                  | false => simp
                  | true =>
                    rw [show decide (i < j + 1) = decide (i < p) by rw [decide_eq_decide]; exact this hli]
            · have hrj : rank2 ops j = false := by
                cases hc : rank2 ops j with
                | false => rfl
                | true => exact absurd ((rank2_iff ha).1 hc) h2
              have hkj : ∀ k, rank2 ops k = true → k ≠ j := fun k hk e => by
                subst e
                rw [hrj] at hk
                cases hk
              refine ⟨p, md.le, fun hw => ready_look (X := fun i => listed.getD i false) tr hfl c4 c2 hcl hXj hoL hr hlX c3 ha ps h2 hw, fun _ => rfl, fun k hk hkp => (hX' k).2 (.inr (ps.done k hk hkp)), fun k hk hkp _ => ⟨hkj k hk, hkp⟩, fun k _ hkp _ => hkp, fun i => ?_⟩
              unfold inH
              by_cases e : i = j
              · subst e
                have : lateB ops (masks os.toList []) i = false := by
                  cases hc : lateB ops (masks os.toList []) i with
                  | false => rfl
                  | true =>
                    have := late_rank hc
                    rw [hrj] at this
                    cases this
                simp [hX'j, this]
              · simp only [hX'n i e, e, false_or]
          obtain ⟨z1, z2, z3, z4⟩ := hP3
          have hpe : ∀ k, pending ops (masks os.toList []) (fun i => (listed.setIfInBounds j true).getD i false) p0 k ↔ pending ops (masks os.toList []) (fun i => listed.getD i false) p k := fun k => by
            constructor
            · rintro ⟨a, b, c⟩
              obtain ⟨h3, h4⟩ := z2 k (late_rank b) c a
              exact ⟨by show listed.getD k false = true; rw [← hX'n k h3]; exact a, b, h4⟩
            · rintro ⟨a, b, c⟩
              exact ⟨(hX' k).2 (.inr a), b, z3 k (late_rank b) c a⟩
          have hpj : ∀ k, pending ops (masks os.toList []) (fun i => listed.getD i false) p k → k ≠ j := fun k hk e => by
            subst e
            have := hk.1
            simp only [hXj] at this
            cases this
          have henv := ready_env (X := fun i => listed.getD i false) (E := E) (U := U) c2 hcl hXj hoL hr hlX c3 ha (inH ops (masks os.toList []) (fun i => listed.getD i false) p) (inH ops (masks os.toList []) (fun i => (listed.setIfInBounds j true).getD i false) p0) (fun i hi => inH_X hi) z4
          have mid : ∀ (G2 : Gh) (ρ2 : Rho) (w2 : World) (u : Value), St G2 ρ2 (ea.put ar.dst (U j)) (H p0) (ownAt own kn) (a1.put ar.dst u).tmps w2 → Fr G1 ρ1 w1 G2 ρ2 w2 →
              Mid n ops (masks os.toList []) E H U (ownAt own kn) G ρ w (fun i => (listed.setIfInBounds j true).getD i false) p0 G2 ρ2 (ea.put ar.dst (U j)) (a1.put ar.dst u) w2 R := fun G2 ρ2 w2 u st2 f2 => by
            refine ⟨hp0, z1, fun k hk hkp hxk => ?_, fun t ht => ?_, ⟨st2, by rw [put_size]; exact md.st.size, by rw [put_defers']; exact md.st.defers⟩, md.fr.trans f2, fun k hk => ?_, fun k k2 hk hk2 => md.dis k k2 ((hpe k).1 hk) ((hpe k2).1 hk2)⟩
            · obtain ⟨h3, h4⟩ := z2 k hk hkp hxk
              exact md.late k hk h4 (by show listed.getD k false = true; rw [← hX'n k h3]; exact hxk)
            · rw [henv t, put_get, put_get]
              split
              · rfl
              · exact md.env t fun k y hk hy => ht k y ((hpe k).2 hk) hy
            · have hk' := (hpe k).1 hk
              have := pkeep (u := u) f2 k (hpj k hk') hk'
              rw [q1]
              exact this
          unfold wpOp
          simp only [ho, hwanted]
          cases hwj : W j with
          | true =>
            simp only [if_true]
            obtain ⟨O', tk1, tk1'⟩ := htk1 hwj
            refine .inl (step_any hC hT hS md.st.st q4 hdl (by rw [← q1]; exact tk1) (hopc _ _ (hP1 hwj)) _ _ fun u w' G' ρ' st' f' => ?_)
            obtain ⟨st2, f2⟩ := st'.less (ownAt own kn) tk1'
            rw [← q1] at st2 ⊢
            exact go p0 G' _ _ _ w' R (mid G' _ w' u st2 (f'.trans f2))
          | false =>
            simp only [Bool.false_eq_true, if_false]
            obtain ⟨st2, f2⟩ := skip_st (o := o) md.st.st hdl
            rw [← q1] at st2 f2
            have tk2 := htk2 hwj
            obtain ⟨st3, f3⟩ := st2.less (ownAt own kn) tk2
            have hU := (tr.skip j ar ha hwj).1
            rw [← hP2 hwj, ← hU] at st3
            rw [← q1]
            exact go p0 G1 _ _ _ w1 R (mid G1 _ w1 undef st3 (f2.trans f3))
  have hrep : ∀ i, (Array.replicate os.size false).getD i false = false := fun i => by
    simp only [Array.getD_eq_getD_getElem?, Array.getElem?_replicate]
    split <;> rfl
  have md0 : Mid n ops (masks os.toList []) E H U (ownAt own 0) G ρ w (fun i => (Array.replicate os.size false).getD i false) 0 G ρ e a { w with drawn := w.drawn + 1 } (fun _ => (0, 0, 0)) := by
    refine ⟨by omega, fun k _ hk => by omega, fun k _ _ hk => ?_, fun t _ => ?_, ?_, .drew G ρ w _, fun k hk => ?_, fun k k2 hk => ?_⟩
    · simp only [hrep] at hk
      cases hk
    · rw [EX_get tr _ t 0 (fun i ar' _ _ => by
        refine ⟨fun h => ?_, fun h => by omega⟩
        have := inH_X h
        simp only [hrep] at this
        cases this) ops.length (Nat.le_refl _)]
      simp [e0]
    · rw [h0]
      exact ⟨⟨st.st.env, st.st.mem.drew _, st.st.own, st.st.non⟩, st.size, st.defers⟩
    · have := hk.1
      simp only [hrep] at this
      cases this
    · have := hk.1
      simp only [hrep] at this
      cases this
  obtain ⟨p2, G2, ρ2, ea2, md2, ps2⟩ := settle tr cL (hown 0 (Nat.zero_le _)) ops.length 0 G ρ e (by omega) md0
  refine walk os.size (Array.replicate os.size false) p2 G2 ρ2 ea2 a _ _ 0 (Nat.zero_le _) (fun l x _ => ⟨fun h => (by simp only [hrep] at h; cases h), fun h => by omega⟩) (by simp) (by simp [undone]) (fun i hi => ?_) ps2 md2
  simp only [hrep] at hi
  cases hi
end
end Ev
