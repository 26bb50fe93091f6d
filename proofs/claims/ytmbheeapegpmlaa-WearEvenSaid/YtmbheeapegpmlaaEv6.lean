/- The evaluator of abstract code, Ev6: regions whose order is drawn, part two. No condition of its own: each theorem states its own. -/
import Derived.Test.YtmbheeapegpmlaaEv5
import Derived.Orders
set_option linter.all false
/-! Ew, part E: a region whose order is drawn does what is computed in the text's order. -/
namespace Ev
open Go

mutual
theorem beq_eq : ∀ (a b : V), V.beq a b = true → a = b
  | .bool a, b, h => by cases b <;> simp [V.beq] at h; rw [h]
  | .int k a, b, h => by cases b <;> simp [V.beq] at h; rw [h.1, h.2]
  | .str a, b, h => by cases b <;> simp [V.beq] at h; rw [h]
  | .nilp, b, h => by cases b <;> simp [V.beq] at h; rfl
  | .ptr a c, b, h => by cases b <;> simp [V.beq] at h; rw [h.1, h.2]
  | .rp a, b, h => by
    cases b <;> simp [V.beq] at h
    rw [beqs_eq _ _ h]
  | .ps s a, b, h => by
    cases b <;> simp [V.beq] at h
    rw [h.1, beqs_eq _ _ h.2]
  | .hs a c d e, b, h => by
    cases b <;> simp [V.beq] at h
    obtain ⟨⟨⟨h1, h2⟩, h3⟩, h4⟩ := h
    rw [h1, h2, h3, h4]
  | .hn a, b, h => by cases b <;> simp [V.beq] at h; rw [h]
  | .agg a, b, h => by
    cases b <;> simp [V.beq] at h
    rw [beqs_eq _ _ h]
  | .tup a, b, h => by
    cases b <;> simp [V.beq] at h
    rw [beqs_eq _ _ h]
  | .iface t a, b, h => by
    cases b <;> simp [V.beq] at h
    rw [h.1, beq_eq _ _ h.2]
  | .nili, b, h => by cases b <;> simp [V.beq] at h; rfl
  | .fn f a, b, h => by
    cases b <;> simp [V.beq] at h
    rw [h.1, beqs_eq _ _ h.2]
  | .nilf, b, h => by cases b <;> simp [V.beq] at h; rfl
theorem beqs_eq : ∀ (a b : List V), V.beqs a b = true → a = b
  | [], b, h => by cases b <;> simp [V.beqs] at h; rfl
  | x :: r, b, h => by
    cases b <;> simp [V.beqs] at h
    rw [beq_eq _ _ h.1, beqs_eq _ _ h.2]
end

/-- The slots when the operations of a set have been done. -/
def EX (e : Env) (ops : List AOpr) (U : Nat → V) (X : Nat → Bool) : Nat → Env
  | 0 => e
  | k + 1 => if X k = true then (match ops[k]? with | some o => (EX e ops U X k).put o.dst (U k) | none => EX e ops U X k) else EX e ops U X k

theorem put_get (e : Env) (d : Option Nat) (v : V) (t : Nat) : (e.put d v).get t = if d = some t then some v else e.get t := by
  cases d with
  | none => simp
  | some d => simp [Env.put, Env.get]

section
variable {C : Callee} {ops : List AOpr} {E : Nat → Env} {H : Nat → Heap} {W : Nat → Bool} {U : Nat → V}

/-- Slots whose writers among the done ones are those ahead of j. -/
theorem EX_get (tr : Tr C ops E H W U) (X : Nat → Bool) (t j : Nat) (hX : ∀ i o, ops[i]? = some o → o.dst = some t → (X i = true ↔ i < j)) :
    ∀ k, k ≤ ops.length → (EX (E 0) ops U X k).get t = (E (min k j)).get t := by
  intro k
  induction k with
  | zero => intro _; simp [EX]
  | succ k ih =>
    intro hk
    have ih := ih (by omega)
    obtain ⟨o, ho⟩ : ∃ o, ops[k]? = some o := ⟨ops[k], List.getElem?_eq_getElem (by omega)⟩
    have henv := tr.env k o ho
    simp only [EX, ho]
    by_cases hd : o.dst = some t
    · have := hX k o ho hd
      by_cases hkj : k < j
      · rw [if_pos (this.2 hkj), put_get, if_pos hd, show min (k + 1) j = k + 1 by omega, henv, put_get, if_pos hd]
      · rw [if_neg (fun h => hkj (this.1 h)), ih]
        congr 2
        omega
    · have e1 : (if X k = true then (EX (E 0) ops U X k).put o.dst (U k) else EX (E 0) ops U X k).get t = (EX (E 0) ops U X k).get t := by
        split
        · rw [put_get, if_neg hd]
        · rfl
      rw [e1, ih]
      by_cases hkj : k < j
      · rw [show min (k + 1) j = k + 1 by omega, show min k j = k by omega, henv, put_get, if_neg hd]
      · congr 2
        omega

theorem EX_same (e : Env) (X Y : Nat → Bool) (t : Nat) (h : ∀ i o, ops[i]? = some o → o.dst = some t → X i = Y i) :
    ∀ k, (EX e ops U X k).get t = (EX e ops U Y k).get t := by
  intro k
  induction k with
  | zero => rfl
  | succ k ih =>
    simp only [EX]
    cases ho : ops[k]? with
    | none => simp only [ite_self]; exact ih
    | some o =>
      simp only
      by_cases hd : o.dst = some t
      · rw [h k o ho hd]
        split
        · rw [put_get, put_get, if_pos hd, if_pos hd]
        · exact ih
      · have key : ∀ (Z : Nat → Bool), (if Z k = true then (EX e ops U Z k).put o.dst (U k) else EX e ops U Z k).get t = (EX e ops U Z k).get t := fun Z => by
          split
          · rw [put_get, if_neg hd]
          · rfl
        rw [key, key, ih]

/-- The last writer's value. -/
theorem EX_last (e : Env) (X : Nat → Bool) (t j : Nat) (o : AOpr) (ho : ops[j]? = some o) (hd : o.dst = some t) (hj : X j = true)
    (hX : ∀ i o, ops[i]? = some o → o.dst = some t → j < i → X i = false) : ∀ k, j < k → (EX e ops U X k).get t = some (U j) := by
  intro k
  induction k with
  | zero => intro h; omega
  | succ k ih =>
    intro hk
    simp only [EX]
    by_cases hjk : j = k
    · subst hjk
      rw [if_pos hj, ho]
      simp only
      rw [put_get, if_pos hd]
    · have ih := ih (by omega)
      cases ho2 : ops[k]? with
      | none => simp only [ite_self]; exact ih
      | some o2 =>
        simp only
        by_cases hd2 : o2.dst = some t
        · rw [hX k o2 ho2 hd2 (by omega)]
          simpa using ih
        · split
          · rw [put_get, if_neg hd2]; exact ih
          · exact ih

theorem H_step (tr : Tr C ops E H W U) {j : Nat} {o : AOpr} (ho : ops[j]? = some o) (hr : o.op.rank ≠ 2) : H (j + 1) = H j := by
  cases hw : W j with
  | true => exact rank_heap C hr (tr.does j o ho hw)
  | false => exact (tr.skip j o ho hw).2

/-- Between p and j nobody turns the heap. -/
theorem H_same (tr : Tr C ops E H W U) : ∀ (d p : Nat), p + d ≤ ops.length → (∀ k o, ops[k]? = some o → o.op.rank = 2 → p ≤ k → k < p + d → False) → H (p + d) = H p
  | 0, p, _, _ => rfl
  | d + 1, p, hp, hk => by
    obtain ⟨o, ho⟩ : ∃ o, ops[p + d]? = some o := ⟨ops[p + d], List.getElem?_eq_getElem (by omega)⟩
    have := H_step tr ho (fun h => hk (p + d) o ho h (by omega) (by omega))
    rw [show p + (d + 1) = p + d + 1 by omega, this]
    exact H_same tr d p (by omega) (fun k o hk1 hk2 hk3 hk4 => hk k o hk1 hk2 hk3 (by omega))

theorem H_between (tr : Tr C ops E H W U) (p j : Nat) (hp : p ≤ ops.length) (hj : j ≤ ops.length) (hk : ∀ k o, ops[k]? = some o → o.op.rank = 2 → (k < p ↔ k < j)) : H p = H j := by
  rcases Nat.le_total p j with h | h
  · have := H_same tr (j - p) p (by omega) (fun k o h1 h2 h3 h4 => by
      have := (hk k o h1 h2).2 (by omega)
      omega)
    rw [show p + (j - p) = j by omega] at this
    exact this.symm
  · have := H_same tr (p - j) j (by omega) (fun k o h1 h2 h3 h4 => by
      have := (hk k o h1 h2).1 (by omega)
      omega)
    rw [show j + (p - j) = p by omega] at this
    exact this
end

theorem chkOpers_get {P : Program} {sig : Sig} {n : Nat} {os : List Oper} : ∀ (ars : List AOpr) (l : List Oper), chkOpers P sig n os ars l = true →
    ars.length = l.length ∧ ∀ (i : Nat) (ar : AOpr) (o : Oper), ars[i]? = some ar → l[i]? = some o → chkOper P sig n os ar o = true
  | [], [], _ => ⟨rfl, fun i ar o h => by simp at h⟩
  | [], _ :: _, h => by simp [chkOpers] at h
  | _ :: _, [], h => by simp [chkOpers] at h
  | ar :: ars, o :: l, h => by
    simp only [chkOpers, Bool.and_eq_true] at h
    obtain ⟨h1, h2⟩ := chkOpers_get ars l h.2
    refine ⟨by simp [h1], fun i ar' o' ha ho => ?_⟩
    cases i with
    | zero =>
      simp at ha ho
      subst ha ho
      exact h.1
    | succ i => exact h2 i ar' o' (by simpa using ha) (by simpa using ho)

theorem pairsOk_get {ops : List AOpr} {B : List Nat} {fl : List (Nat × Nat × Nat)} {n : Nat} (h : pairsOk ops B fl n = true) {i j : Nat} (hij : i < j) (hj : j < n)
    (hb : (B.getD j 0).testBit i = false) {x y : AOpr} (hx : ops[i]? = some x) (hy : ops[j]? = some y) :
    apartA x y = true ∧ calm x y (fl.any fun q => q.1 == i) (fl.any fun q => q.1 == j) = true := by
  have h1 := List.all_eq_true.1 h j (List.mem_range.2 hj)
  have h2 := List.all_eq_true.1 h1 i (List.mem_range.2 hij)
  simp only [hb, Bool.false_or, hx, hy, Bool.and_eq_true] at h2
  exact h2

theorem apartA_spec {x y : AOpr} (h : apartA x y = true) : (∀ d, x.dst = some d → d ∉ y.looks ∧ y.dst ≠ some d) ∧ (∀ d, y.dst = some d → d ∉ x.looks) := by
  unfold apartA at h
  simp only [Bool.and_eq_true] at h
  refine ⟨fun d hd => ?_, fun d hd => ?_⟩
  · rw [hd] at h
    simpa using h.1
  · rw [hd] at h
    simpa using h.2

theorem wantedA_congr {e e' : Env} {g : Option (Nat × Bool)} (h : ∀ s b, g = some (s, b) → e.get s = e'.get s) : wantedA g e = wantedA g e' := by
  cases g with
  | none => rfl
  | some g =>
    obtain ⟨s, b⟩ := g
    simp only [wantedA]
    rw [h s b rfl]

theorem edges_lt : ∀ (l : List Oper) (k : Nat), edgesBack k l = true → ∀ j o, l[j]? = some o → ∀ ed, ed ∈ o.after → Region.binds .any ed = true → ed.on < k + j := by
  intro l
  induction l with
  | nil => intro k _ j o ho; simp at ho
  | cons x l ih =>
    intro k hk j o ho ed hed hbd
    simp only [edgesBack, Bool.and_eq_true] at hk
    cases j with
    | zero =>
      simp at ho
      subst ho
      have := List.all_eq_true.1 hk.1 ed (by simpa using hed)
      simp [hbd] at this
      omega
    | succ j =>
      have := ih (k + 1) hk.2 j o (by simpa using ho) ed hed hbd
      omega

theorem St.congr {G : Gh} {ρ : Rho} {e e' : Env} {h : Heap} {O : Own} {tm : Array Value} {w : World} (st : St G ρ e h O tm w) (he : ∀ t, e.get t = e'.get t) : St G ρ e' h O tm w :=
  ⟨fun i v hv => st.env i v (by rw [he]; exact hv), st.mem, fun s c hk => by
    obtain ⟨u, v, x, h1, h2, h3, h4⟩ := st.own s c hk
    exact ⟨u, v, x, h1, by rw [← he]; exact h2, h3, h4⟩, st.non⟩

section
variable {P : Program} {T : Table} {C : Callee} {sig : Sig} {n : Nat}

/-- The flags, at the trace. -/
def Flags (C : Callee) (ops : List AOpr) (E : Nat → Env) (H : Nat → Heap) (W : Nat → Bool) (U : Nat → V) (fl : List (Nat × Nat × Nat)) : Prop :=
  ∀ i lo hi, (i, lo, hi) ∈ fl → ∀ o, ops[i]? = some o → W i = true → ∀ p, lo ≤ p → p ≤ hi → p ≤ ops.length → ∃ hp, evOp C o.op (E i) (H p) = some (U i, hp)

theorem flags_of {ops : List AOpr} {e : Env} {h : Heap} {E : Nat → Env} {H : Nat → Heap} {W : Nat → Bool} {U : Nat → V} {fl : List (Nat × Nat × Nat)} (tr : Tr C ops E H W U)
    (htr : ∀ i, i ≤ ops.length → (runTr C ops e h)[i]? = some (E i, H i)) (hf : flagsOk C ops e h fl = true) : Flags C ops E H W U fl := by
  intro i lo hi hm o ho hw p h1 h2 h3
  have hall : fl.all (fun q => flagOk C ops (runTr C ops e h) q.1 q.2.1 q.2.2) = true := by
    cases fl with
    | nil => cases hm
    | cons a l => simpa only [flagsOk] using hf
  have hq := List.all_eq_true.1 hall (i, lo, hi) hm
  have hil : i < ops.length := (List.getElem?_eq_some_iff.1 ho).1
  have hwt := tr.want i o ho
  rw [hw] at hwt
  have hd := tr.does i o ho hw
  simp only [flagOk, ho, htr i (by omega), hwt, hd] at hq
  have := List.all_eq_true.1 hq p (List.mem_range'_1.2 ⟨h1, by omega⟩)
  rw [htr p h3] at this
  simp only at this
  cases hv : evOp C o.op (E i) (H p) with
  | none => rw [hv] at this; cases this
  | some q =>
    obtain ⟨u, hp⟩ := q
    rw [hv] at this
    rw [beq_eq _ _ this]
    exact ⟨hp, rfl⟩

theorem fl_lo {ops : List AOpr} {B : List Nat} {m i lo hi : Nat} (h : flOk ops B m (i, lo, hi) = true) :
    (lo = 0 ∨ ((B.getD i 0).testBit (lo - 1) = true ∧ 0 < lo ∧ ∃ o, ops[lo - 1]? = some o ∧ o.op.rank = 2)) ∧
    (hi = m ∨ ((B.getD hi 0).testBit i = true ∧ hi < m ∧ ∃ o, ops[hi]? = some o ∧ o.op.rank = 2)) := by
  simp only [flOk, Bool.and_eq_true, Bool.or_eq_true, beq_iff_eq, decide_eq_true_eq] at h
  obtain ⟨h1, h2⟩ := h
  refine ⟨?_, ?_⟩
  · rcases h1 with h1 | ⟨h1, h3⟩
    · exact .inl h1
    · cases ho : ops[lo - 1]? with
      | none => rw [ho] at h3; cases h3
      | some o =>
        rw [ho] at h3
        rcases Nat.eq_zero_or_pos lo with h0 | h0
        · exact .inl h0
        · exact .inr ⟨h1, h0, o, rfl, by simpa using h3⟩
  · rcases h2 with h2 | ⟨⟨h2, h4⟩, h3⟩
    · exact .inl h2
    · cases ho : ops[hi]? with
      | none => rw [ho] at h3; cases h3
      | some o =>
        rw [ho] at h3
        exact .inr ⟨h2, h4, o, rfl, by simpa using h3⟩

/-- What a set of done operations is: closed under the region's own edges. -/
def Closed (os : List Oper) (X : Nat → Bool) : Prop := ∀ j, X j = true → ∀ o, os[j]? = some o → ∀ ed, ed ∈ o.after → Region.binds .any ed = true → X ed.on = true

section
variable {os : List Oper} {ops : List AOpr} {E : Nat → Env} {H : Nat → Heap} {W : Nat → Bool} {U : Nat → V} {fl : List (Nat × Nat × Nat)} {X : Nat → Bool} {j : Nat} {ar : AOpr} {o : Oper}

/-- What is before j in every order is done when j is ready; what is behind j is not. -/
theorem order_done (hb : edgesBack 0 os = true) (hX : Closed os X) (hj : X j = false) (ho : os[j]? = some o) (hr : ∀ ed, ed ∈ o.after → Region.binds .any ed = true → X ed.on = true) (hlen : ∀ i, X i = true → i < os.length) :
    (∀ i, ((masks os []).getD j 0).testBit i = true → X i = true) ∧ (∀ i, ((masks os []).getD i 0).testBit j = true → X i = false) := by
  have key := masks_spec X os [] [] rfl hb hX (fun j o h => by simp at h)
  refine ⟨fun i hi => key j o (by simpa using ho) hr i hi, fun i hi => ?_⟩
  cases hxi : X i with
  | false => rfl
  | true =>
    have hil := hlen i hxi
    have hoi : os[i]? = some os[i] := List.getElem?_eq_getElem hil
    have := key i os[i] (by simpa using hoi) (fun ed h1 h2 => hX i hxi os[i] hoi ed h1 h2) j hi
    rw [hj] at this
    cases this

/-- Two operations that do not go together: one is ahead of the other in every order. -/
theorem clash_done (hb : edgesBack 0 os = true) (hX : Closed os X) (hj : X j = false) (ho : os[j]? = some o) (hr : ∀ ed, ed ∈ o.after → Region.binds .any ed = true → X ed.on = true) (hlen : ∀ i, X i = true → i < os.length)
    (hp : pairsOk ops (masks os []) fl ops.length = true) (ha : ops[j]? = some ar) {i : Nat} {ar' : AOpr} (ha' : ops[i]? = some ar') (hij : i ≠ j)
    (hc : (apartA ar ar' = false ∨ calm ar ar' (fl.any fun q => q.1 == j) (fl.any fun q => q.1 == i) = false) ∧ (apartA ar' ar = false ∨ calm ar' ar (fl.any fun q => q.1 == i) (fl.any fun q => q.1 == j) = false)) : X i = true ↔ i < j := by
  obtain ⟨d1, d2⟩ := order_done hb hX hj ho hr hlen
  have hjl : j < ops.length := (List.getElem?_eq_some_iff.1 ha).1
  have hil : i < ops.length := (List.getElem?_eq_some_iff.1 ha').1
  rcases Nat.lt_or_ge i j with h | h
  · refine ⟨fun _ => h, fun _ => d1 i ?_⟩
    cases hbit : ((masks os []).getD j 0).testBit i with
    | true => rfl
    | false =>
      obtain ⟨p1, p2⟩ := pairsOk_get hp h hjl hbit ha' ha
      rcases hc.2 with e | e
      · rw [p1] at e; cases e
      · rw [p2] at e; cases e
  · have hlt : j < i := by omega
    refine ⟨fun hx => ?_, fun hx => by omega⟩
    have : X i = false := d2 i (by
      cases hbit : ((masks os []).getD i 0).testBit j with
      | true => rfl
      | false =>
        obtain ⟨p1, p2⟩ := pairsOk_get hp hlt hil hbit ha ha'
        rcases hc.1 with e | e
        · rw [p1] at e; cases e
        · rw [p2] at e; cases e)
    rw [this] at hx
    cases hx

theorem not_apart_dst {x y : AOpr} {t : Nat} (h : x.dst = some t) (hy : t ∈ y.looks ∨ y.dst = some t) : apartA x y = false := by
  cases hc : apartA x y with
  | false => rfl
  | true =>
    have := (apartA_spec hc).1 t h
    rcases hy with hy | hy
    · exact absurd hy this.1
    · exact absurd hy this.2
theorem not_apart_dst' {x y : AOpr} {t : Nat} (h : y.dst = some t) (hx : t ∈ x.looks ∨ x.dst = some t) : apartA x y = false := by
  cases hc : apartA x y with
  | false => rfl
  | true =>
    obtain ⟨q1, q2⟩ := apartA_spec hc
    rcases hx with hx | hx
    · exact absurd hx (q2 t h)
    · exact absurd h (q1 t hx).2

/-- A ready operation reads the slots that it reads in the text's order. -/
theorem ready_slots (tr : Tr C ops E H W U) (hb : edgesBack 0 os = true) (hX : Closed os X) (hj : X j = false) (ho : os[j]? = some o) (hr : ∀ ed, ed ∈ o.after → Region.binds .any ed = true → X ed.on = true) (hlen : ∀ i, X i = true → i < os.length)
    (hp : pairsOk ops (masks os []) fl ops.length = true) (ha : ops[j]? = some ar) (t : Nat) (ht : t ∈ ar.looks) : (EX (E 0) ops U X ops.length).get t = (E j).get t := by
  have hjl : j < ops.length := (List.getElem?_eq_some_iff.1 ha).1
  have := EX_get tr X t j (fun i ar' ha' hd => by
    by_cases hij : i = j
    · subst hij
      rw [hj]
      simp
    · exact clash_done hb hX hj ho hr hlen hp ha ha' hij ⟨.inl (not_apart_dst' hd (.inl ht)), .inl (not_apart_dst hd (.inl ht))⟩) ops.length (Nat.le_refl _)
  rw [this]
  congr 2
  omega

/-- Behind a ready operation. -/
theorem ready_env (hb : edgesBack 0 os = true) (hX : Closed os X) (hj : X j = false) (ho : os[j]? = some o) (hr : ∀ ed, ed ∈ o.after → Region.binds .any ed = true → X ed.on = true) (hlen : ∀ i, X i = true → i < os.length)
    (hp : pairsOk ops (masks os []) fl ops.length = true) (ha : ops[j]? = some ar) (X' : Nat → Bool) (hX' : ∀ i, X' i = true ↔ (i = j ∨ X i = true)) (t : Nat) :
    (EX (E 0) ops U X' ops.length).get t = ((EX (E 0) ops U X ops.length).put ar.dst (U j)).get t := by
  have hjl : j < ops.length := (List.getElem?_eq_some_iff.1 ha).1
  rw [put_get]
  split
  · rename_i hd
    refine EX_last (E 0) X' t j ar ha hd ((hX' j).2 (.inl rfl)) (fun i ar' ha' hd' hlt => ?_) ops.length hjl
    have hc := clash_done hb hX hj ho hr hlen hp ha ha' (by omega) ⟨.inl (not_apart_dst' hd' (.inr hd)), .inl (not_apart_dst hd' (.inr hd))⟩
    cases hx : X' i with
    | false => rfl
    | true =>
      rcases (hX' i).1 hx with e | e
      · omega
      · have := hc.1 e
        omega
  · rename_i hd
    refine EX_same (E 0) X' X t (fun i ar' ha' hd' => ?_) ops.length
    have hij : i ≠ j := fun e => by
      subst e
      rw [ha] at ha'
      cases ha'
      exact hd hd'
    have := hX' i
    simp only [hij, false_or] at this
    cases hx : X i with
    | true => exact this.2 hx
    | false =>
      cases hx' : X' i with
      | false => rfl
      | true => rw [this.1 hx'] at hx; cases hx

theorem calm_ww {x y : AOpr} {a b : Bool} (hx : x.op.rank = 2) (hy : y.op.rank = 2) : calm x y a b = false := by simp [calm, hx, hy]
theorem calm_wr {x y : AOpr} {a : Bool} (hx : x.op.rank = 2) (hy : y.op.rank = 1) : calm x y a false = false := by simp [calm, hx, hy]
theorem calm_rw {x y : AOpr} {b : Bool} (hx : x.op.rank = 1) (hy : y.op.rank = 2) : calm x y false b = false := by simp [calm, hx, hy]

theorem rank_le (op : AOp) : op.rank = 0 ∨ op.rank = 1 ∨ op.rank = 2 := by
  cases op <;> simp only [AOp.rank] <;> (try split) <;> simp

/-- A ready operation does at the heap that it finds what it does in the text's order. -/
theorem ready_does (tr : Tr C ops E H W U) (hfl : Flags C ops E H W U fl) (hfo : fl.all (flOk ops (masks os []) ops.length) = true) (hb : edgesBack 0 os = true) (hX : Closed os X) (hj : X j = false) (ho : os[j]? = some o) (hr : ∀ ed, ed ∈ o.after → Region.binds .any ed = true → X ed.on = true) (hlen : ∀ i, X i = true → i < os.length)
    (hp : pairsOk ops (masks os []) fl ops.length = true) (ha : ops[j]? = some ar) (p : Nat) (hpl : p ≤ ops.length) (hw : ∀ k ar', ops[k]? = some ar' → ar'.op.rank = 2 → (X k = true ↔ k < p))
    (X' : Nat → Bool) (hX' : ∀ i, X' i = true ↔ (i = j ∨ X i = true)) :
    ∃ p', p' ≤ ops.length ∧ (∀ k ar', ops[k]? = some ar' → ar'.op.rank = 2 → (X' k = true ↔ k < p')) ∧ (W j = true → evOp C ar.op (E j) (H p) = some (U j, H p')) ∧ (W j = false → H p' = H p) := by
  have hjl : j < ops.length := (List.getElem?_eq_some_iff.1 ha).1
  by_cases h2 : ar.op.rank = 2
  · -- one that turns the heap
    have hkj : ∀ k ar', ops[k]? = some ar' → ar'.op.rank = 2 → k ≠ j → (X k = true ↔ k < j) := fun k ar' ha' hk hne =>
      clash_done hb hX hj ho hr hlen hp ha ha' hne ⟨.inr (calm_ww h2 hk), .inr (calm_ww hk h2)⟩
    have hpj : H p = H j := H_between tr p j hpl (by omega) (fun k ar' ha' hk => by
      by_cases hne : k = j
      · subst hne
        have := hw k ar' ha' hk
        rw [hj] at this
        simp at this
        constructor <;> intro h <;> omega
      · exact (hw k ar' ha' hk).symm.trans (hkj k ar' ha' hk hne))
    refine ⟨j + 1, by omega, fun k ar' ha' hk => ?_, fun hwj => ?_, fun hwj => ?_⟩
    · rw [hX']
      by_cases hne : k = j
      · subst hne; simp
      · have := hkj k ar' ha' hk hne
        simp only [hne, false_or]
        rw [this]
        omega
    · rw [hpj]; exact tr.does j ar ha hwj
    · rw [hpj]; exact (tr.skip j ar ha hwj).2
  · have hX2 : ∀ k ar', ops[k]? = some ar' → ar'.op.rank = 2 → (X' k = true ↔ k < p) := fun k ar' ha' hk => by
      have hne : k ≠ j := fun e => by
        subst e
        rw [ha] at ha'
        cases ha'
        exact h2 hk
      rw [hX', ← hw k ar' ha' hk]
      simp [hne]
    refine ⟨p, hpl, hX2, fun hwj => ?_, fun _ => rfl⟩
    have hd := tr.does j ar ha hwj
    rcases rank_le ar.op with h0 | h1 | h1
    · exact rank_free C h0 hd (H p)
    · by_cases hf : (fl.any fun q => q.1 == j) = true
      · obtain ⟨q, hq, hqj⟩ := List.any_eq_true.1 hf
        obtain ⟨i, lo, hi⟩ := q
        have : i = j := by simpa using hqj
        subst this
        obtain ⟨d1, d2⟩ := order_done hb hX hj ho hr hlen
        obtain ⟨q1, q2⟩ := fl_lo (List.all_eq_true.1 hfo _ hq)
        have hlo : lo ≤ p := by
          rcases q1 with e | ⟨e1, e2, ar', e3, e4⟩
          · omega
          · have := (hw (lo - 1) ar' e3 e4).1 (d1 _ e1)
            omega
        have hhi : p ≤ hi := by
          rcases q2 with e | ⟨e1, e2, ar', e3, e4⟩
          · omega
          · have hx := d2 _ e1
            have := hw hi ar' e3 e4
            rw [hx] at this
            simp at this
            omega
        obtain ⟨hp', hv⟩ := hfl i lo hi hq ar ha hwj p hlo hhi hpl
        rw [hv, rank_heap C h2 hv]
      · have hf' : (fl.any fun q => q.1 == j) = false := Bool.not_eq_true _ ▸ hf
        have hpj : H p = H j := H_between tr p j hpl (by omega) (fun k ar' ha' hk => by
          have hne : k ≠ j := fun e => by
            subst e
            rw [ha] at ha'
            cases ha'
            exact h2 hk
          exact (hw k ar' ha' hk).symm.trans (clash_done hb hX hj ho hr hlen hp ha ha' hne ⟨.inr (by rw [hf']; exact calm_rw h1 hk), .inr (by rw [hf']; exact calm_wr hk h1)⟩))
        rw [hpj]
        have := H_step tr ha h2
        rw [hd, this]
    · exact absurd h1 h2
end

/-- How many are still to be done. -/
def undone (l : Array Bool) : Nat := l.toList.count false
theorem undone_set {l : Array Bool} {j : Nat} (hj : l.getD j true = false) : undone (l.setIfInBounds j true) + 1 = undone l := by
  have hjs : j < l.size := by
    rcases Nat.lt_or_ge j l.size with h | h
    · exact h
    · simp [Array.getD_eq_getD_getElem?, Array.getElem?_eq_none h] at hj
  have hjl : j < l.toList.length := by simpa using hjs
  unfold undone
  rw [Array.toList_setIfInBounds, List.count_set hjl]
  have hv : l.toList[j] = false := by
    rw [Array.getD_eq_getD_getElem?, Array.getElem?_eq_getElem hjs] at hj
    simpa using hj
  have hpos : 0 < l.toList.count false := List.count_pos_iff.2 (by rw [← hv]; exact List.getElem_mem hjl)
  rw [hv]
  simp only [beq_self_eq_true, if_true, show ((true : Bool) == false) = false from rfl, Bool.false_eq_true, if_false]
  omega

theorem getD_true {l : Array Bool} {j : Nat} (h : j < l.size) : l.getD j true = l.getD j false := by
  simp [Array.getD_eq_getD_getElem?, h]

/-- A REGION WHOSE ORDER IS DRAWN. -/
theorem draw_sound (hC : CallsOk P T C) (hT : ∀ f af, T f = some af → funcOk P f = true) (hS : ∀ f ps rs, sig f = some (ps, rs) → ∃ af, T f = some af ∧ af.ownP = ps ∧ af.ownR = rs)
    {id : Nat} {os : Array Oper} {ops : List AOpr} {own : Own} {fl : List (Nat × Nat × Nat)} {G : Gh} {ρ : Rho} {e e' : Env} {h h' : Heap} {a : Act} {w : World} {Q : Exit → Act → World → Prop} (hm : P.follows .mixedOrders = true)
    (st : FSt n G ρ e h own a w) (hc : chkDraw P sig n ops own fl os.toList = true) (hv : runOps C ops e h = some (e', h')) (hf : flagsOk C ops e h fl = true)
    (hQ : ∀ G' ρ' a' w', FSt n G' ρ' e' h' own a' w' → Fr G ρ w G' ρ' w' → Q .normal a' w') : (Code.region id os true).wp P Q a w := by
  refine wp_region_any hm ?_
  simp only [chkDraw, Bool.and_eq_true] at hc
  obtain ⟨⟨⟨⟨c1, c2⟩, c3⟩, c4⟩, c5⟩ := hc
  obtain ⟨E, H, W, U, tr, e0, h0, e1, h1, htr⟩ := tr_of_run C ops e h e' h' hv
  have hfl := flags_of tr htr hf
  obtain ⟨hlen, hget⟩ := chkOpers_get ops os.toList c1
  have hlen' : ops.length = os.size := by simpa using hlen
  -- the walk through whatever order
  have walk : ∀ (fuel : Nat) (listed : Array Bool) (G1 : Gh) (ρ1 : Rho) (ea : Env) (p : Nat) (a1 : Act) (w1 : World), listed.size = os.size → undone listed = fuel →
      Closed os.toList (fun i => listed.getD i false) → p ≤ ops.length → (∀ k ar', ops[k]? = some ar' → ar'.op.rank = 2 → (listed.getD k false = true ↔ k < p)) →
      (∀ t, ea.get t = (EX (E 0) ops U (fun i => listed.getD i false) ops.length).get t) → FSt n G1 ρ1 ea (H p) own a1 w1 → Fr G ρ w G1 ρ1 w1 →
      wpAny P .any os Q fuel listed a1 w1 := by
    intro fuel
    induction fuel with
    | zero =>
      intro listed G1 ρ1 ea p a1 w1 hls hu hcl hpl hw hea st1 f1
      have hall : ∀ i, i < listed.size → listed.getD i true = true := fun i hi => by
        have : listed.toList.count false = 0 := hu
        rw [List.count_eq_zero] at this
        cases hv : listed.getD i true with
        | true => rfl
        | false =>
          exfalso
          refine this ?_
          rw [Array.getD_eq_getD_getElem?, Array.getElem?_eq_getElem hi] at hv
          rw [← show listed[i] = false by simpa using hv]
          exact Array.getElem_mem_toList hi
      refine ⟨?_, ?_⟩
      · cases hr : Region.ready .any os listed with
        | nil => rfl
        | cons j r =>
          have hj : j ∈ Region.ready .any os listed := by rw [hr]; simp
          obtain ⟨q1, o, q2, _⟩ := mem_ready.1 hj
          have hjl : j < os.size := (Array.getElem?_eq_some_iff.1 q2).1
          rw [hall j (by omega)] at q1
          cases q1
      · have hH : H p = h' := by
          rw [← h1]
          refine H_between tr p ops.length hpl (Nat.le_refl _) (fun k ar' ha' hk => ?_)
          have hkl : k < ops.length := (List.getElem?_eq_some_iff.1 ha').1
          rw [← hw k ar' ha' hk, ← getD_true (by omega), hall k (by omega)]
          simp [hkl]
        have hE : ∀ t, ea.get t = e'.get t := fun t => by
          rw [hea t, ← e1]
          have := EX_get tr (fun i => listed.getD i false) t ops.length (fun i ar' ha' _ => by
            have hkl : i < ops.length := (List.getElem?_eq_some_iff.1 ha').1
            show listed.getD i false = true ↔ _
            rw [← getD_true (by omega), hall i (by omega)]
            simp [hkl]) ops.length (Nat.le_refl _)
          rw [this]
          simp
        rw [hH] at st1
        exact hQ G1 ρ1 a1 w1 ⟨st1.st.congr hE, st1.size, st1.defers⟩ f1
    | succ fuel ih =>
      intro listed G1 ρ1 ea p a1 w1 hls hu hcl hpl hw hea st1 f1
      refine ⟨fun hnil => ?_, fun j hj => ?_⟩
      · -- somebody is ready
        exfalso
        have hex : ∀ (d j : Nat), j < d → j < os.size → listed.getD j true = false → False := by
          intro d
          induction d with
          | zero => intro j h; omega
          | succ d ihd =>
            intro j hjd hjs hjf
            have hno : j ∉ Region.ready .any os listed := by rw [hnil]; simp
            apply hno
            rw [mem_ready]
            refine ⟨hjf, os[j], Array.getElem?_eq_getElem hjs, fun ed hed hbd => ?_⟩
            have hlt := edges_lt os.toList 0 c2 j os[j] (by simp [hjs]) ed hed hbd
            cases hx : listed.getD ed.on false with
            | true => rfl
            | false =>
              exfalso
              exact ihd ed.on (by omega) (by omega) (by rw [getD_true (by omega)]; exact hx)
        have hpos : 0 < listed.toList.count false := by
          have : listed.toList.count false = fuel + 1 := hu
          omega
        obtain ⟨i, hi, hvi⟩ := List.getElem_of_mem (List.count_pos_iff.1 hpos)
        have his : i < listed.size := by simpa using hi
        refine hex (i + 1) i (by omega) (by omega) ?_
        rw [Array.getD_eq_getD_getElem?, Array.getElem?_eq_getElem his]
        simpa using hvi
      · obtain ⟨hjf, o, ho, hr⟩ := mem_ready.1 hj
        have hjs : j < os.size := (Array.getElem?_eq_some_iff.1 ho).1
        have hoL : os.toList[j]? = some o := by rw [Array.getElem?_toList]; exact ho
        obtain ⟨ar, ha⟩ : ∃ ar, ops[j]? = some ar := ⟨ops[j]'(by omega), List.getElem?_eq_getElem (by omega)⟩
        have hoc := hget j ar o ha hoL
        have hXj : listed.getD j false = false := by rw [← getD_true (by omega)]; exact hjf
        have hlX : ∀ i, listed.getD i false = true → i < os.toList.length := fun i hi => by
          rcases Nat.lt_or_ge i listed.size with h | h
          · simp; omega
          · simp [Array.getD_eq_getD_getElem?, Array.getElem?_eq_none h] at hi
        have hX' : ∀ i, (listed.setIfInBounds j true).getD i false = true ↔ (i = j ∨ listed.getD i false = true) := fun i => by
          simp only [Array.getD_eq_getD_getElem?, Array.getElem?_setIfInBounds]
          by_cases hij : j = i
          · subst hij
            simp [hls, hjs]
          · rw [if_neg hij]
            exact ⟨fun h => .inr h, fun h => h.resolve_left fun e => hij e.symm⟩
        have hsl := fun t ht => ready_slots (X := fun i => listed.getD i false) tr c2 hcl hXj hoL hr hlX c3 ha t ht
        obtain ⟨p', hpl', hw', hdo, hsk⟩ := ready_does (X := fun i => listed.getD i false) tr hfl c4 c2 hcl hXj hoL hr hlX c3 ha p hpl hw (fun i => (listed.setIfInBounds j true).getD i false) hX'
        have henv := ready_env (X := fun i => listed.getD i false) (E := E) (U := U) c2 hcl hXj hoL hr hlX c3 ha (fun i => (listed.setIfInBounds j true).getD i false) hX'
        have hsl2 : ∀ t, t ∈ ar.looks → ea.get t = (E j).get t := fun t ht => (hea t).trans (hsl t ht)
        have hwt := tr.want j ar ha
        have hwa : wantedA ar.guard ea = some (W j) := by
          rw [← hwt]
          refine wantedA_congr fun s b hg => hsl2 s ?_
          unfold AOpr.looks
          rw [hg]
          simp
        simp only [chkOper, Bool.and_eq_true, beq_iff_eq] at hoc
        obtain ⟨⟨⟨q1, q2⟩, q3⟩, q4⟩ := hoc
        have hwanted := wanted_eq (o := o) st1.st.env q3 hwa
        have hdl := dst_lt st1.size q2
        have htk := List.all_eq_true.1 c5 ar (List.mem_of_getElem? ha)
        simp only [tokFix, Bool.and_eq_true] at htk
        obtain ⟨tk1, tk2⟩ := htk
        have hcl' : Closed os.toList (fun i => (listed.setIfInBounds j true).getD i false) := fun i hi oi hoi ed hed hbd => by
          refine (hX' ed.on).2 (.inr ?_)
          rcases (hX' i).1 hi with e | e
          · subst e
            rw [hoL] at hoi
            cases hoi
            exact hr ed hed hbd
          · exact hcl i e oi hoi ed hed hbd
        have hgo := ih (listed.setIfInBounds j true)
        have hea' : ∀ (v : V), U j = v → ∀ t, (ea.put ar.dst v).get t = (EX (E 0) ops U (fun i => (listed.setIfInBounds j true).getD i false) ops.length).get t := fun v hv t => by
          rw [henv t, put_get, put_get, hv, hea t]
        unfold wpOp
        simp only [ho, hwanted]
        cases hwj : W j with
        | true =>
          simp only [if_true]
          have hop : evOp C ar.op ea (H p) = some (U j, H p') := by
            rw [evOp_congr C ar.op (H p) (fun t ht => hsl2 t (List.mem_append.2 (.inl ht)))]
            exact hdo hwj
          cases htok : tokOp sig ar.op ar.dst own with
          | none => rw [htok] at tk1; cases tk1
          | some O' =>
            rw [htok] at tk1
            rw [q1] at htok
            refine .inl (step_any hC hT hS st1.st q4 hdl htok hop _ _ fun u w' G' ρ' st' f' => ?_)
            obtain ⟨st2, f2⟩ := st'.less own (fun k hk => by simpa using List.all_eq_true.1 tk1 k hk)
            rw [← q1] at st2
            refine hgo G' _ (ea.put ar.dst (U j)) p' _ w' (by simpa using hls) (by have := undone_set hjf; omega) hcl' hpl' hw' (hea' _ rfl) ⟨by rw [← q1]; exact st2, by rw [put_size]; exact st1.size, by rw [put_defers']; exact st1.defers⟩ ((f1.trans f').trans f2)
        | false =>
          simp only [Bool.false_eq_true, if_false]
          obtain ⟨st2, f2⟩ := skip_st (o := o) st1.st hdl
          rw [← q1] at st2 f2
          obtain ⟨st3, f3⟩ := st2.less own (fun k hk => by simpa using List.all_eq_true.1 tk2 k hk)
          have hU := (tr.skip j ar ha hwj).1
          rw [← hsk hwj] at st3
          refine hgo G1 _ (ea.put ar.dst (.tup [])) p' _ w1 (by simpa using hls) (by have := undone_set hjf; omega) hcl' hpl' hw' (hea' _ hU) ⟨by rw [← q1]; exact st3, by rw [put_size]; exact st1.size, by rw [put_defers']; exact st1.defers⟩ ((f1.trans f2).trans f3)
  have hrep : ∀ i, (Array.replicate os.size false).getD i false = false := fun i => by
    simp only [Array.getD_eq_getD_getElem?, Array.getElem?_replicate]
    split <;> rfl
  refine walk os.size (Array.replicate os.size false) G ρ e 0 a _ (by simp) ?_ (fun i hi => ?_) (by omega) (fun k ar' _ _ => ?_) (fun t => ?_) ?_ (.drew G ρ w _)
  · simp [undone]
  · simp only [hrep] at hi
    cases hi
  · rw [hrep]
    simp
  · rw [EX_get tr (fun i => (Array.replicate os.size false).getD i false) t 0 (fun i ar' _ _ => by simp only [hrep]; simp) ops.length (Nat.le_refl _)]
    simp [e0]
  · rw [h0]
    exact ⟨⟨st.st.env, st.st.mem.drew _, st.st.own, st.st.non⟩, st.size, st.defers⟩
end
end Ev
