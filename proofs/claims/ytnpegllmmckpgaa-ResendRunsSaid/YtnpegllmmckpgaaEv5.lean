/- The evaluator of abstract code, Ev5: regions whose order is drawn, part one. No condition of its own: each theorem states its own. -/
import Derived.Test.YtnpegllmmckpgaaEv4
set_option linter.all false
/-! Ew, part D: a region whose order is drawn. -/
namespace Ev
open Go

def A.slots : A → List Nat
  | .t i => [i]
  | .c _ => []
  | .g _ => []
def As.slots : List A → List Nat
  | [] => []
  | a :: r => a.slots ++ As.slots r
def Ps.slots : List (Nat × Nat × A) → List Nat
  | [] => []
  | (_, _, a) :: r => a.slots ++ Ps.slots r
def Ao.slots : Option A → List Nat
  | none => []
  | some a => a.slots
def AOp.slots : AOp → List Nat
  | .mv x _ | .box x | .boxf x | .nilck x | .un _ x | .conv _ x | .mkif _ x | .fa _ x | .fld _ _ x | .ta _ _ _ x | .ext x _ | .len _ x | .load _ x | .lit x | .capv x | .frz x _ | .ldz _ x _ | .rng _ x | .nxt _ x | .clr _ _ x | .ent x | .mlen x => x.slots
  | .pick a b c => a.slots ++ (b.slots ++ c.slots)
  | .alloc _ | .mkm | .bad => []
  | .mset _ a b c => a.slots ++ (b.slots ++ c.slots)
  | .look _ a b _ _ => a.slots ++ b.slots
  | .build _ ps => Ps.slots ps
  | .bsl _ xs _ | .mx _ xs | .mkfn _ xs | .callp _ xs _ | .callh _ xs => As.slots xs
  | .store _ a b | .bin _ _ a b | .ia _ a b | .idx _ _ a b | .app _ _ a b | .apph _ _ a b | .copy _ a b | .mksl _ _ _ a b _ | .mdel _ a b | .ovl _ a b | .appz _ _ _ a b => a.slots ++ b.slots
  | .sl _ x a b c _ => x.slots ++ (Ao.slots a ++ (Ao.slots b ++ Ao.slots c))
  | .callv x xs => x.slots ++ As.slots xs

def AOpr.looks (o : AOpr) : List Nat := o.op.slots ++ (match o.guard with | some (s, _) => [s] | none => [])

theorem A_congr {e e' : Env} : ∀ (x : A), (∀ t, t ∈ x.slots → e.get t = e'.get t) → x.ev e = x.ev e'
  | .t i, h => h i (by simp [A.slots])
  | .c _, _ => rfl
  | .g _, _ => rfl
theorem As_congr {e e' : Env} : ∀ (xs : List A), (∀ t, t ∈ As.slots xs → e.get t = e'.get t) → A.evs e xs = A.evs e' xs
  | [], _ => rfl
  | a :: r, h => by
    simp only [A.evs]
    rw [A_congr a (fun t ht => h t (List.mem_append.2 (.inl ht))), As_congr r (fun t ht => h t (List.mem_append.2 (.inr ht)))]
theorem Ps_congr {e e' : Env} : ∀ (xs : List (Nat × Nat × A)), (∀ t, t ∈ Ps.slots xs → e.get t = e'.get t) → evParts e xs = evParts e' xs
  | [], _ => rfl
  | (o, s, a) :: r, h => by
    simp only [evParts]
    rw [A_congr a (fun t ht => h t (List.mem_append.2 (.inl ht))), Ps_congr r (fun t ht => h t (List.mem_append.2 (.inr ht)))]
theorem Ao_congr {e e' : Env} (x : Option A) (h : ∀ t, t ∈ Ao.slots x → e.get t = e'.get t) : evO e x = evO e' x := by
  cases x with
  | none => rfl
  | some a => simp only [evO]; rw [A_congr a h]

attribute [-simp] A.ev A.evs Env.get

theorem evOp_congr (C : Callee) (op : AOp) {e e' : Env} (h : Heap) (hs : ∀ t, t ∈ op.slots → e.get t = e'.get t) : evOp C op e h = evOp C op e' h := by
  cases op <;> simp only [AOp.slots, List.mem_append] at hs <;> simp only [evOp]
  case pick a b c =>
    rw [A_congr a (fun t ht => hs t (.inl ht))]
    have h1 := A_congr b (fun t ht => hs t (.inr (.inl ht)))
    have h2 := A_congr c (fun t ht => hs t (.inr (.inr ht)))
    congr 1; funext x; congr 1; funext t
    cases t <;> simp [h1, h2]
  case mset q a b c =>
    rw [A_congr a (fun t ht => hs t (.inl ht)), A_congr b (fun t ht => hs t (.inr (.inl ht))), A_congr c (fun t ht => hs t (.inr (.inr ht)))]
  case look q a b z ok =>
    rw [A_congr a (fun t ht => hs t (.inl ht)), A_congr b (fun t ht => hs t (.inr ht))]
  case build z ps => rw [Ps_congr ps hs]
  case bsl s xs hp => rw [As_congr xs hs]
  case mx m xs => rw [As_congr xs hs]
  case mkfn f xs => rw [As_congr xs hs]
  case callp f xs b => rw [As_congr xs hs]
  case callh f xs => rw [As_congr xs hs]
  case sl k x a b c t =>
    rw [A_congr x (fun t ht => hs t (.inl ht)), Ao_congr a (fun t ht => hs t (.inr (.inl ht))), Ao_congr b (fun t ht => hs t (.inr (.inr (.inl ht)))), Ao_congr c (fun t ht => hs t (.inr (.inr (.inr ht))))]
  case callv x xs => rw [A_congr x (fun t ht => hs t (.inl ht)), As_congr xs (fun t ht => hs t (.inr ht))]
  all_goals first
    | rfl
    | (rename_i x; rw [A_congr x hs]; done)
    | (rename_i x _; rw [A_congr x hs]; done)
    | (rename_i x y; rw [A_congr x (fun t ht => hs t (.inl ht)), A_congr y (fun t ht => hs t (.inr ht))]; done)
    | (rename_i x y _; rw [A_congr x (fun t ht => hs t (.inl ht)), A_congr y (fun t ht => hs t (.inr ht))]; done)

/-- 0: hangs on no heap; 1: reads it; 2: turns it. -/
def AOp.rank : AOp → Nat
  | .alloc _ | .box _ | .store .. | .apph .. | .appz .. | .copy .. | .lit _ | .frz .. | .ldz .. | .callh .. | .callv .. | .rng .. | .nxt .. | .mkm | .mset .. | .mdel .. | .clr .. => 2
  | .bsl _ _ hp => if hp then 2 else 0
  | .mksl _ _ _ _ _ hp => if hp then 2 else 0
  | .load .. | .app .. | .ovl .. | .look .. | .ent .. | .mlen .. => 1
  | .conv k _ => (match k with | .bs => 1 | _ => 0)
  | .callp _ _ b => if b.isEmpty then 0 else 1
  | _ => 0

theorem rank_heap (C : Callee) {op : AOp} {e : Env} {h h' : Heap} {v : V} (hr : op.rank ≠ 2) (hv : evOp C op e h = some (v, h')) : h' = h := by
  cases op <;> simp only [AOp.rank] at hr <;> try (exact absurd rfl hr)
  case bsl s xs hp =>
    cases hp
    · simp only [evOp] at hv
      obtain ⟨vs, _, h2⟩ := pair_bind hv
      split at h2
      · simp at h2; exact h2.2.symm
      · cases h2
    · simp at hr
  case mksl s b z l c hp =>
    cases hp
    · simp only [evOp] at hv
      obtain ⟨_, _, h2⟩ := pair_bind hv
      obtain ⟨_, _, h3⟩ := pair_bind h2
      obtain ⟨⟨_, _⟩, _, h4⟩ := pair_bind h3
      simp at h4; exact h4.2.symm
    · simp at hr
  case boxf x =>
    simp only [evOp] at hv
    obtain ⟨v', h1, h3⟩ := pair_bind hv
    split at h3
    · cases h3; rfl
    · cases h3
  all_goals
    simp only [evOp] at hv
    repeat (rw [Option.bind_eq_some_iff] at hv; obtain ⟨_, _, hv⟩ := hv)
    cases hv <;> rfl

theorem lend_nil (h : Heap) : ∀ (vs : List V) (i : Nat), lend h [] i vs = some vs
  | [], _ => rfl
  | v :: vs, i => by simp [lend, lend_nil h vs (i + 1)]
theorem conv_free {h h2 : Heap} {k : CK} {x v : V} (hk : k ≠ .bs) (hv : convV h k x = some v) : convV h2 k x = some v := by
  cases k <;> cases x <;> simp_all [convV]

theorem rank_free (C : Callee) {op : AOp} {e : Env} {h h' : Heap} {v : V} (hr : op.rank = 0) (hv : evOp C op e h = some (v, h')) (h2 : Heap) : evOp C op e h2 = some (v, h2) := by
  cases op <;> simp only [AOp.rank] at hr <;> try (cases hr; done)
  case bsl s xs hp =>
    cases hp
    · simp only [evOp] at hv ⊢
      obtain ⟨vs, h1, h3⟩ := pair_bind hv
      rw [h1]
      split at h3
      · rename_i hc
        simp at h3
        simp only [Option.bind_some]
        rw [if_pos hc]
        simp [h3.1]
      · cases h3
    · simp at hr
  case mksl s b z l c hp =>
    cases hp
    · simp only [evOp] at hv ⊢
      obtain ⟨_, h1, h3⟩ := pair_bind hv
      obtain ⟨_, h4, h5⟩ := pair_bind h3
      obtain ⟨⟨_, _⟩, h6, h7⟩ := pair_bind h5
      simp at h7
      simp [h1, h4, h6, h7.1]
    · simp at hr
  case conv k x =>
    have hk : k ≠ .bs := fun e => by subst e; simp at hr
    simp only [evOp] at hv ⊢
    obtain ⟨x', h1, h3⟩ := pair_bind hv
    obtain ⟨v', h4, h5⟩ := pair_bind h3
    cases h5
    simp [h1, conv_free (h2 := h2) hk h4]
  case callp f xs b =>
    have hb : b = [] := by
      cases b with
      | nil => rfl
      | cons x y => simp at hr
    subst hb
    simp only [evOp, lend_nil] at hv ⊢
    obtain ⟨x', h1, h3⟩ := pair_bind hv
    simp only [Option.bind_some] at h3
    obtain ⟨v', h4, h5⟩ := pair_bind h3
    cases h5
    simp [h1, h4]
  case boxf x =>
    simp only [evOp] at hv ⊢
    obtain ⟨v', h1, h3⟩ := pair_bind hv
    rw [h1, Option.bind_some]
    split at h3
    · rename_i hc
      cases h3
      rw [if_pos hc]
    · cases h3
  all_goals
    simp only [evOp] at hv ⊢
    repeat (rw [Option.bind_eq_some_iff] at hv; obtain ⟨_, hk, hv⟩ := hv; rw [hk, Option.bind_some])
    cases hv <;> rfl

/-! ### What each operation of a region does, in the text's order -/
structure Tr (C : Callee) (ops : List AOpr) (E : Nat → Env) (H : Nat → Heap) (W : Nat → Bool) (U : Nat → V) : Prop where
  want : ∀ i o, ops[i]? = some o → wantedA o.guard (E i) = some (W i)
  does : ∀ i o, ops[i]? = some o → W i = true → evOp C o.op (E i) (H i) = some (U i, H (i + 1))
  skip : ∀ i o, ops[i]? = some o → W i = false → U i = .tup [] ∧ H (i + 1) = H i
  env : ∀ i o, ops[i]? = some o → E (i + 1) = (E i).put o.dst (U i)

def cons {α : Type} (a : α) (f : Nat → α) : Nat → α
  | 0 => a
  | i + 1 => f i

theorem tr_of_run (C : Callee) : ∀ (ops : List AOpr) (e : Env) (h : Heap) (e' : Env) (h' : Heap), runOps C ops e h = some (e', h') →
    ∃ E H W U, Tr C ops E H W U ∧ E 0 = e ∧ H 0 = h ∧ E ops.length = e' ∧ H ops.length = h' ∧ ∀ i, i ≤ ops.length → (runTr C ops e h)[i]? = some (E i, H i)
  | [], e, h, e', h', hv => by
    simp at hv
    obtain ⟨rfl, rfl⟩ := hv
    exact ⟨fun _ => e, fun _ => h, fun _ => false, fun _ => .tup [], ⟨fun i o ho => by simp at ho, fun i o ho => by simp at ho, fun i o ho => by simp at ho, fun i o ho => by simp at ho⟩, rfl, rfl, rfl, rfl, fun i hi => by
      have : i = 0 := by simpa using hi
      subst this
      simp [runTr]⟩
  | o :: ops, e, h, e', h', hv => by
    simp only [runOps, Option.bind_eq_some_iff] at hv
    obtain ⟨b, hb, hv⟩ := hv
    cases b with
    | true =>
      simp only [if_true] at hv
      obtain ⟨⟨v, h1⟩, hv1, hv2⟩ := pair_bind hv
      simp only at hv2
      obtain ⟨E, H, W, U, tr, e0, h0, e1, h1', htr⟩ := tr_of_run C ops _ _ e' h' hv2
      refine ⟨cons e E, cons h H, cons true W, cons v U, ⟨?_, ?_, ?_, ?_⟩, rfl, rfl, e1, h1', ?_⟩
      · intro i o' ho
        cases i with
        | zero => simp at ho; subst ho; exact hb
        | succ i => exact tr.want i o' (by simpa using ho)
      · intro i o' ho hw
        cases i with
        | zero =>
          simp at ho
          subst ho
          show evOp C o.op e h = some (v, H 0)
          rw [h0]; exact hv1
        | succ i => exact tr.does i o' (by simpa using ho) hw
      · intro i o' ho hw
        cases i with
        | zero => cases hw
        | succ i => exact tr.skip i o' (by simpa using ho) hw
      · intro i o' ho
        cases i with
        | zero => simp at ho; subst ho; exact e0
        | succ i => exact tr.env i o' (by simpa using ho)
      · intro i hi
        cases i with
        | zero => simp [runTr, cons]
        | succ i =>
          have := htr i (by simpa using hi)
          simp only [runTr, hb, hv1, List.getElem?_cons_succ]
          exact this
    | false =>
      simp only [Bool.false_eq_true, if_false] at hv
      obtain ⟨E, H, W, U, tr, e0, h0, e1, h1', htr⟩ := tr_of_run C ops _ _ e' h' hv
      refine ⟨cons e E, cons h H, cons false W, cons (.tup []) U, ⟨?_, ?_, ?_, ?_⟩, rfl, rfl, e1, h1', ?_⟩
      · intro i o' ho
        cases i with
        | zero => simp at ho; subst ho; exact hb
        | succ i => exact tr.want i o' (by simpa using ho)
      · intro i o' ho hw
        cases i with
        | zero => cases hw
        | succ i => exact tr.does i o' (by simpa using ho) hw
      · intro i o' ho hw
        cases i with
        | zero => exact ⟨rfl, h0⟩
        | succ i => exact tr.skip i o' (by simpa using ho) hw
      · intro i o' ho
        cases i with
        | zero => simp at ho; subst ho; exact e0
        | succ i => exact tr.env i o' (by simpa using ho)
      · intro i hi
        cases i with
        | zero => simp [runTr, cons]
        | succ i =>
          have := htr i (by simpa using hi)
          simp only [runTr, hb, List.getElem?_cons_succ]
          exact this

/-! ### The static look at a region's order -/
/-- For each operation, as bits: those that come before it in whatever order. -/
def masks : List Oper → List Nat → List Nat
  | [], acc => acc
  | o :: r, acc => masks r (acc ++ [o.after.toList.foldl (fun s ed => if Region.binds .any ed then s ||| 2 ^ ed.on ||| acc.getD ed.on 0 else s) 0])

def edgesBack : Nat → List Oper → Bool
  | _, [] => true
  | i, o :: r => o.after.toList.all (fun ed => !Region.binds .any ed || decide (ed.on < i)) && edgesBack (i + 1) r

def apartA (x y : AOpr) : Bool :=
  (match x.dst with | some d => !y.looks.contains d && y.dst != some d | none => true) && (match y.dst with | some d => !x.looks.contains d | none => true)

/-- May the two be swapped, as far as the heap goes? -/
def calm (x y : AOpr) (fx fy : Bool) : Bool :=
  let a := x.op.rank
  let b := y.op.rank
  !((a == 2 && (b == 2 || (b == 1 && !fy))) || (b == 2 && a == 1 && !fx))

/-- One that makes a block, and does nothing else; what lies there holds no block. -/
def AOp.mk1 : AOp → Bool
  | .alloc z => V.hfs z
  | .mksl _ _ z _ _ hp => hp && z.hf
  | _ => false
def rank2 (ops : List AOpr) (i : Nat) : Bool := match ops[i]? with | some o => o.op.rank == 2 | none => false
/-- One that turns the heap and that may come ahead of one that turns it, though the text has it behind. -/
def lateB (ops : List AOpr) (B : List Nat) (j : Nat) : Bool := rank2 ops j && (List.range j).any fun i => rank2 ops i && !(B.getD j 0).testBit i
def lateOk (ops : List AOpr) (B : List Nat) (n : Nat) : Bool :=
  (List.range n).all fun j => !lateB ops B j || (match ops[j]? with
    | some o => o.op.mk1 && o.guard.isNone && (match o.dst with
      | some d => (List.range n).all fun k => k == j || (match ops[k]? with
        | some y => y.dst != some d && (!y.looks.contains d || decide (k < j) || (List.range j).all fun i => !rank2 ops i || (B.getD k 0).testBit i)
        | none => false)
      | none => false)
    | none => false)

def pairsOk (ops : List AOpr) (B : List Nat) (fl : List (Nat × Nat × Nat)) (n : Nat) : Bool :=
  (List.range n).all fun j => (List.range j).all fun i => (B.getD j 0).testBit i || (match ops[i]?, ops[j]? with
    | some x, some y => apartA x y && (calm x y (fl.any fun q => q.1 == i) (fl.any fun q => q.1 == j) || (x.op.rank == 2 && y.op.rank == 2))
    | _, _ => false)

def flOk (ops : List AOpr) (B : List Nat) (n : Nat) (q : Nat × Nat × Nat) : Bool :=
  let (i, lo, hi) := q
  (lo == 0 || ((B.getD i 0).testBit (lo - 1) && rank2 ops (lo - 1) && !lateB ops B (lo - 1))) &&
  (hi == n || ((B.getD hi 0).testBit i && decide (hi < n) && rank2 ops hi))

def tokFix (sig : Sig) (own : Own) (ar : AOpr) : Bool :=
  (match tokOp sig ar.op ar.dst own with | some O' => own.all fun k => O'.contains k | none => false) && own.all fun k => (dropSlot own ar.dst).contains k

/-- Who owns what behind so many of the operations that change it. -/
def ownAt (pl : Plan) : Nat → Own
  | 0 => pl.1
  | k + 1 => match pl.2[k]? with | some q => q.2 | none => pl.1
def planOk (sig : Sig) (ops : List AOpr) (B : List Nat) (pl : Plan) (n : Nat) : Bool :=
  let m := pl.2.length
  ((List.range m).all fun l => (List.range l).all fun k => match pl.2[l]?, pl.2[k]? with
    | some x, some y => decide (y.1 < x.1) && (B.getD x.1 0).testBit y.1
    | _, _ => false) &&
  ((List.range m).all fun l => match pl.2[l]? with
    | some x => (match ops[x.1]? with
      | some ar => !lateB ops B x.1 && (match tokOpr sig ar (ownAt pl l) with | some O' => x.2.all fun k => O'.contains k | none => false)
      | none => false)
    | none => false) &&
  ((List.range n).all fun j => (pl.2.any fun x => x.1 == j) || (List.range (m + 1)).all fun k =>
    (match k with | 0 => false | k' + 1 => match pl.2[k']? with | some x => (B.getD x.1 0).testBit j | none => false) ||
    (match pl.2[k]? with | some x => (B.getD j 0).testBit x.1 | none => false) ||
    (match ops[j]? with | some ar => tokFix sig (ownAt pl k) ar | none => false)) &&
  ((List.range n).all fun j => !lateB ops B j || (List.range (m + 1)).all fun k => match ops[j]? with
    | some ar => (match ar.dst with | some d => (ownAt pl k).all fun q => q.1 != d | none => true)
    | none => false)

def chkDraw (P : Program) (sig : Sig) (n : Nat) (ops : List AOpr) (own : Plan) (fl : List (Nat × Nat × Nat)) (os : List Oper) : Bool :=
  let B := masks os []
  chkOpers P sig n os ops os && edgesBack 0 os && pairsOk ops B fl ops.length && lateOk ops B ops.length && fl.all (flOk ops B ops.length) && planOk sig ops B own ops.length

/-- What is before an operation in every order has been done when its own edges have been met. -/
theorem masks_spec (X : Nat → Bool) : ∀ (os : List Oper) (pre : List Oper) (acc : List Nat), acc.length = pre.length → edgesBack 0 (pre ++ os) = true →
    (∀ j, X j = true → ∀ o, (pre ++ os)[j]? = some o → ∀ ed, ed ∈ o.after → Region.binds .any ed = true → X ed.on = true) →
    (∀ j o, pre[j]? = some o → (∀ ed, ed ∈ o.after → Region.binds .any ed = true → X ed.on = true) → ∀ i, (acc.getD j 0).testBit i = true → X i = true) →
    ∀ j o, (pre ++ os)[j]? = some o → (∀ ed, ed ∈ o.after → Region.binds .any ed = true → X ed.on = true) → ∀ i, ((masks os acc).getD j 0).testBit i = true → X i = true
  | [], pre, acc, hl, _, _, hacc => fun j o ho hr i hi => hacc j o (by simpa using ho) hr i (by simpa [masks] using hi)
  | o :: os, pre, acc, hl, hb, hX, hacc => by
    have hcat : pre ++ o :: os = (pre ++ [o]) ++ os := by simp
    rw [hcat] at hb hX ⊢
    simp only [masks]
    refine masks_spec X os (pre ++ [o]) _ (by simp [hl]) hb hX ?_
    intro j o' ho hr i hi
    by_cases hj : j < pre.length
    · rw [List.getElem?_append_left hj] at ho
      have hg : (acc ++ [o.after.toList.foldl (fun s ed => if Region.binds .any ed then s ||| 2 ^ ed.on ||| acc.getD ed.on 0 else s) 0]).getD j 0 = acc.getD j 0 := by
        simp only [List.getD, List.getElem?_append_left (show j < acc.length by omega)]
      rw [hg] at hi
      exact hacc j o' ho hr i hi
    · have hjl : j = pre.length := by
        have := (List.getElem?_eq_some_iff.1 ho).1
        simp at this; omega
      subst hjl
      rw [List.getElem?_append_right (Nat.le_refl _)] at ho
      simp at ho
      subst ho
      have hg : (acc ++ [o.after.toList.foldl (fun s ed => if Region.binds .any ed then s ||| 2 ^ ed.on ||| acc.getD ed.on 0 else s) 0]).getD pre.length 0 = o.after.toList.foldl (fun s ed => if Region.binds .any ed then s ||| 2 ^ ed.on ||| acc.getD ed.on 0 else s) 0 := by
        simp only [List.getD]
        rw [List.getElem?_append_right (by omega)]
        simp [hl]
      rw [hg] at hi
      have hback : ∀ ed, ed ∈ o.after → Region.binds .any ed = true → ed.on < pre.length := by
        have key : ∀ (l : List Oper) (k : Nat), edgesBack k l = true → ∀ j o, l[j]? = some o → ∀ ed, ed ∈ o.after → Region.binds .any ed = true → ed.on < k + j := by
          intro l
          induction l with
          | nil => intro k _ j o ho; simp at ho
          | cons x l ih =>
            intro k hk j o ho ed hed hbd
            simp only [edgesBack, Bool.and_eq_true] at hk
            cases j with
            | zero =>
              simp at ho
              subst ho
              have := List.all_eq_true.1 hk.1 ed (by simpa using hed)
              simp [hbd] at this
              omega
            | succ j =>
              have := ih (k + 1) hk.2 j o (by simpa using ho) ed hed hbd
              omega
        intro ed hed hbd
        have := key ((pre ++ [o]) ++ os) 0 hb pre.length o (by simp) ed hed hbd
        omega
      have fold : ∀ (l : List Edge) (s : Nat), (∀ ed, ed ∈ l → ed ∈ o.after) → (∀ i, s.testBit i = true → X i = true) → ∀ i, (l.foldl (fun s ed => if Region.binds .any ed then s ||| 2 ^ ed.on ||| acc.getD ed.on 0 else s) s).testBit i = true → X i = true := by
        intro l
        induction l with
        | nil => intro s _ hs i hi; exact hs i hi
        | cons ed l ih =>
          intro s hl2 hs i hi
          simp only [List.foldl_cons] at hi
          refine ih _ (fun e he => hl2 e (by simp [he])) ?_ i hi
          intro i hi
          split at hi
          · rename_i hbd
            simp only [Nat.testBit_or, Bool.or_eq_true] at hi
            have hed := hl2 ed (by simp)
            have hXe := hr ed hed hbd
            rcases hi with (hi | hi) | hi
            · exact hs i hi
            · have : ed.on = i := by simpa [Nat.testBit_two_pow] using hi
              rw [← this]; exact hXe
            · have hlt := hback ed hed hbd
              cases hpe : pre[ed.on]? with
              | none => rw [List.getElem?_eq_none_iff] at hpe; omega
              | some oe =>
                exact hacc ed.on oe hpe (fun ed2 h1 h2 => hX ed.on hXe oe (by rw [List.append_assoc, List.getElem?_append_left hlt]; exact hpe) ed2 h1 h2) i hi
          · exact hs i hi
      exact fold o.after.toList 0 (fun ed he => by simpa using he) (fun i hi => by simp at hi) i hi
end Ev
