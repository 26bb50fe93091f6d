/- The evaluator of abstract code, Ev8: rules to step through the abstract code. No condition of its own: each theorem states its own. -/
import Derived.Test.YtnpegllmmckpgaaEv0
set_option linter.all false
/-! Ev, part 2F: more fuel and a better callee change no answer. -/
namespace Ev
open Go

/-- All that one callee answers, the other one answers alike. -/
def Callee.le (C D : Callee) : Prop := (∀ f vs h r, C.call f vs h = some r → D.call f vs h = some r) ∧ D.free = C.free

variable {C D : Callee}

theorem callP_mono (hc : C.le D) {f : Nat} {us : List V} {b : Bool} {v : V} (h : callP C f us b = some v) : callP D f us b = some v := by
  unfold callP at h ⊢
  split at h
  · rename_i hh
    rw [if_pos hh]
    cases hq : C.call f us [] with
    | none => rw [hq] at h; cases h
    | some r => rw [hq] at h; rw [hc.1 _ _ _ _ hq]; exact h
  · cases h

theorem evOp_mono (hc : C.le D) {op : AOp} {e : Env} {h : Heap} {r : V × Heap} (hr : evOp C op e h = some r) : evOp D op e h = some r := by
  cases op with
  | callp f args bor =>
    simp only [evOp] at hr ⊢
    cases h1 : A.evs e args with
    | none => rw [h1] at hr; cases hr
    | some vs =>
      rw [h1] at hr; simp only [Option.bind_some] at hr ⊢
      cases h2 : lend h bor 0 vs with
      | none => rw [h2] at hr; cases hr
      | some us =>
        rw [h2] at hr; simp only [Option.bind_some] at hr ⊢
        cases h3 : callP C f us (lents bor vs) with
        | none => rw [h3] at hr; cases hr
        | some v => rw [h3] at hr; rw [callP_mono hc h3]; exact hr
  | callh f args =>
    simp only [evOp] at hr ⊢
    cases h1 : A.evs e args with
    | none => rw [h1] at hr; cases hr
    | some vs => rw [h1] at hr; exact hc.1 _ _ _ _ hr
  | callv x args =>
    simp only [evOp] at hr ⊢
    cases h0 : x.ev e with
    | none => rw [h0] at hr; cases hr
    | some y =>
      rw [h0] at hr; simp only [Option.bind_some] at hr ⊢
      cases h1 : A.evs e args with
      | none => rw [h1] at hr; cases hr
      | some vs =>
        rw [h1] at hr; simp only [Option.bind_some] at hr ⊢
        cases y with
        | fn f cap =>
          simp only at hr ⊢
          rw [hc.2]
          split at hr
          · rename_i hf; rw [if_pos hf]; exact hc.1 _ _ _ _ hr
          · cases hr
        | _ => cases hr
  | _ => exact hr

theorem runOps_mono (hc : C.le D) : ∀ (ops : List AOpr) {e : Env} {h : Heap} {r : Env × Heap}, runOps C ops e h = some r → runOps D ops e h = some r
  | [], _, _, _, hr => hr
  | o :: ops, e, h, r, hr => by
    simp only [runOps] at hr ⊢
    cases hw : wantedA o.guard e with
    | none => rw [hw] at hr; cases hr
    | some w =>
      rw [hw] at hr; simp only [Option.bind_some] at hr ⊢
      cases w with
      | false => exact runOps_mono hc ops hr
      | true =>
        simp only [if_true] at hr ⊢
        cases ho : evOp C o.op e h with
        | none => rw [ho] at hr; cases hr
        | some q => rw [ho] at hr; rw [evOp_mono hc ho]; exact runOps_mono hc ops hr

theorem runTr_mono (hc : C.le D) : ∀ (ops : List AOpr) (e : Env) (h : Heap) (p : Nat) (x : Env × Heap), (runTr C ops e h)[p]? = some x → (runTr D ops e h)[p]? = some x
  | [], _, _, _, _, hr => hr
  | o :: ops, e, h, p, x, hr => by
    cases p with
    | zero => exact hr
    | succ p =>
      simp only [runTr, List.getElem?_cons_succ] at hr ⊢
      cases hw : wantedA o.guard e with
      | none => rw [hw] at hr; simp at hr
      | some w =>
        rw [hw] at hr
        cases w with
        | false => exact runTr_mono hc ops _ _ p x hr
        | true =>
          simp only at hr ⊢
          cases ho : evOp C o.op e h with
          | none => rw [ho] at hr; simp at hr
          | some q => rw [ho] at hr; rw [evOp_mono hc ho]; exact runTr_mono hc ops _ _ p x hr

theorem flagOk_mono (hc : C.le D) {ops : List AOpr} {e : Env} {h : Heap} {i lo hi : Nat} (hf : flagOk C ops (runTr C ops e h) i lo hi = true) :
    flagOk D ops (runTr D ops e h) i lo hi = true := by
  unfold flagOk at hf ⊢
  cases h1 : ops[i]? with
  | none => rw [h1] at hf; cases hf
  | some o =>
    cases h2 : (runTr C ops e h)[i]? with
    | none => rw [h1, h2] at hf; cases hf
    | some q =>
      obtain ⟨e1, h3⟩ := q
      rw [h1, h2] at hf
      rw [runTr_mono hc ops e h i _ h2]
      simp only at hf ⊢
      cases hw : wantedA o.guard e1 with
      | none => rfl
      | some w =>
        cases w with
        | false => rfl
        | true =>
          rw [hw] at hf
          simp only at hf ⊢
          cases ho : evOp C o.op e1 h3 with
          | none => rw [ho] at hf; cases hf
          | some q =>
            obtain ⟨v, h4⟩ := q
            rw [ho] at hf; rw [evOp_mono hc ho]
            simp only [List.all_eq_true] at hf ⊢
            intro p hp
            have := hf p hp
            cases h5 : (runTr C ops e h)[p]? with
            | none => rw [h5] at this; cases this
            | some q =>
              obtain ⟨e5, h6⟩ := q
              rw [h5] at this
              rw [runTr_mono hc ops e h p _ h5]
              simp only at this ⊢
              cases h7 : evOp C o.op e1 h6 with
              | none => rw [h7] at this; cases this
              | some q => rw [h7] at this; rw [evOp_mono hc h7]; exact this

theorem flagsOk_mono (hc : C.le D) {ops : List AOpr} {e : Env} {h : Heap} {fs : List (Nat × Nat × Nat)} (hf : flagsOk C ops e h fs = true) : flagsOk D ops e h fs = true := by
  cases fs with
  | nil => rfl
  | cons f fs =>
    simp only [flagsOk, List.all_eq_true] at hf ⊢
    intro x hx
    exact flagOk_mono hc (hf x hx)

theorem iter_mono {g k : Env → Heap → Option (Ex × Env × Heap)} (hg : ∀ e h r, g e h = some r → k e h = some r) : ∀ (n m : Nat) {e : Env} {h : Heap} {r : Ex × Env × Heap}, n ≤ m → iter g n e h = some r → iter k m e h = some r
  | 0, _, _, _, _, _, hr => by cases hr
  | n + 1, 0, _, _, _, hm, _ => by omega
  | n + 1, m + 1, e, h, r, hm, hr => by
    simp only [iter] at hr ⊢
    cases h1 : g e h with
    | none => rw [h1] at hr; cases hr
    | some q =>
      obtain ⟨x, e1, h2⟩ := q
      rw [h1] at hr; rw [hg _ _ _ h1]
      cases x with
      | n => exact iter_mono hg n m (by omega) hr
      | _ => exact hr

theorem thenR_mono {r r' : Option (Ex × Env × Heap)} {k k' : Env → Heap → Option (Ex × Env × Heap)} (hr : ∀ q, r = some q → r' = some q) (hk : ∀ e h q, k e h = some q → k' e h = some q) {q : Ex × Env × Heap} (h : thenR r k = some q) : thenR r' k' = some q := by
  unfold thenR at h ⊢
  cases h1 : r with
  | none => rw [h1] at h; cases h
  | some p =>
    obtain ⟨x, e1, h2⟩ := p
    rw [h1] at h; rw [hr _ h1]
    cases x with
    | n => exact hk _ _ _ h
    | _ => exact h
theorem joinAll_mono {α : Type} {f g : α → Option (Ex × Env × Heap)} : ∀ (l : List α), (∀ a, a ∈ l → ∀ q, f a = some q → g a = some q) → ∀ q, joinAll (l.map f) = some q → joinAll (l.map g) = some q
  | [], _, q, h => h
  | [a], hl, q, h => hl a (by simp) q h
  | a :: b :: l, hl, q, h => by
    have h : joinR (f a) (joinAll ((b :: l).map f)) = some q := h
    show joinR (g a) (joinAll ((b :: l).map g)) = some q
    obtain ⟨x, e, hh⟩ := q
    obtain ⟨h1, h2, q1, q2, _⟩ := joinR_some h
    rw [q1, q2] at h
    rw [hl a (by simp) _ q1, joinAll_mono (b :: l) (fun c hc => hl c (by simp [hc])) _ q2]
    exact h
theorem mgo_mono {st : Env → Heap → Option (List Heap)} {b1 c1 b2 c2 : Env → Heap → Option (Ex × Env × Heap)} {id : Nat} (hb : ∀ e h q, b1 e h = some q → b2 e h = some q) (hc : ∀ e h q, c1 e h = some q → c2 e h = some q) :
    ∀ (n m : Nat), n ≤ m → ∀ (e : Env) (h : Heap) (q : Ex × Env × Heap), mgo st b1 c1 id n e h = some q → mgo st b2 c2 id m e h = some q
  | 0, _, _, _, _, _, h => by cases h
  | n + 1, 0, hm, _, _, _, _ => by omega
  | n + 1, m + 1, hm, e, h, q, hr => by
    simp only [mgo] at hr ⊢
    cases h1 : st e h with
    | none => rw [h1] at hr; cases hr
    | some hs =>
      rw [h1] at hr
      simp only [Option.bind_some] at hr ⊢
      cases hs with
      | nil => exact hc _ _ _ hr
      | cons h0 hs =>
        simp only [List.isEmpty_cons, Bool.false_eq_true, if_false] at hr ⊢
        refine joinAll_mono _ (fun h2 _ q hq => ?_) q hr
        cases h3 : b1 e h2 with
        | none => rw [h3] at hq; cases hq
        | some p =>
          obtain ⟨x, e2, h4⟩ := p
          rw [h3] at hq; rw [hb _ _ _ h3]
          simp only [Option.bind_some] at hq ⊢
          cases x with
          | n => exact mgo_mono hb hc n m (by omega) _ _ _ hq
          | x i =>
            simp only at hq ⊢
            split at hq
            · rename_i e; rw [if_pos e]; exact hc _ _ _ hq
            · rename_i e; rw [if_neg e]; exact hq
          | r => exact hq
theorem ev_mono (hc : C.le D) {n m : Nat} (hm : n ≤ m) : ∀ (c : ACode) {e : Env} {h : Heap} {r : Ex × Env × Heap}, ev C n c e h = some r → ev D m c e h = some r
  | .skip, _, _, _, hr => hr
  | .reg ops keep, e, h, r, hr => by
    simp only [ev] at hr ⊢
    cases ho : runOps C ops e h with
    | none => rw [ho] at hr; cases hr
    | some q => rw [ho] at hr; rw [runOps_mono hc ops ho]; exact hr
  | .regd ops keep _ fl, e, h, r, hr => by
    simp only [ev] at hr ⊢
    split at hr
    · rename_i hf
      rw [if_pos (flagsOk_mono hc hf)]
      cases ho : runOps C ops e h with
      | none => rw [ho] at hr; cases hr
      | some q => rw [ho] at hr; rw [runOps_mono hc ops ho]; exact hr
    · cases hr
  | .seq a b, e, h, r, hr => by
    simp only [ev] at hr ⊢
    cases h1 : ev C n a e h with
    | none => rw [h1] at hr; cases hr
    | some q =>
      obtain ⟨x, e1, h2⟩ := q
      rw [h1] at hr; rw [ev_mono hc hm a h1]
      cases x with
      | n => exact ev_mono hc hm b hr
      | _ => exact hr
  | .cond c a b, e, h, r, hr => by
    simp only [ev] at hr ⊢
    cases h1 : c.ev e with
    | none => rw [h1] at hr; cases hr
    | some v =>
      rw [h1] at hr; simp only [Option.bind_some] at hr ⊢
      cases h2 : boolV v with
      | none => rw [h2] at hr; cases hr
      | some t =>
        rw [h2] at hr; simp only [Option.bind_some] at hr ⊢
        cases t with
        | true => exact ev_mono hc hm a hr
        | false => exact ev_mono hc hm b hr
  | .nilc ops x d neq keep a b c, e, h, r, hr => by
    simp only [ev] at hr ⊢
    cases ho : runOps C ops e h with
    | none => rw [ho] at hr; cases hr
    | some q =>
      rw [ho] at hr; rw [runOps_mono hc ops ho]
      simp only [Option.bind_some] at hr ⊢
      cases h1 : x.ev q.1 with
      | none => rw [h1] at hr; cases hr
      | some v =>
        rw [h1] at hr; simp only [Option.bind_some] at hr ⊢
        cases h2 : nilV v with
        | none => rw [h2] at hr; cases hr
        | some t =>
          rw [h2] at hr; simp only [Option.bind_some] at hr ⊢
          have ha := fun q0 => thenR_mono (fun p hp => ev_mono hc hm a hp) (fun e h p hp => ev_mono hc hm c hp) (r := ev C n a (q.1.keep keep) q.2) (k := fun e h => ev C n c e h) (k' := fun e h => ev D m c e h) (q := q0)
          have hb := fun q0 => thenR_mono (fun p hp => ev_mono hc hm b hp) (fun e h p hp => ev_mono hc hm c hp) (r := ev C n b (q.1.keep keep) q.2) (k := fun e h => ev C n c e h) (k' := fun e h => ev D m c e h) (q := q0)
          cases t with
          | true =>
            simp only [if_true] at hr ⊢
            obtain ⟨k1, k2⟩ := bothR_some hr
            exact bothR_of (ha _ k1) (hb _ k2)
          | false =>
            cases neq with
            | true => exact ha _ hr
            | false => exact hb _ hr
  | .block id a, e, h, r, hr => by
    simp only [ev] at hr ⊢
    cases h1 : ev C n a e h with
    | none => rw [h1] at hr; cases hr
    | some q => rw [h1] at hr; rw [ev_mono hc hm a h1]; exact hr
  | .loop keep _ a, e, h, r, hr => by
    simp only [ev] at hr ⊢
    exact iter_mono (fun e h r hr => ev_mono hc hm a hr) n m hm hr
  | .exit i, _, _, _, hr => hr
  | .gap, _, _, _, hr => by cases hr
  | .ins .., _, _, _, hr => hr
  | .scope a, e, h, r, hr => by
    simp only [ev] at hr ⊢
    exact ev_mono hc hm a hr
  | .ret, _, _, _, hr => hr
  | .mloop pre it d1 d2 keep own id body c, e, h, r, hr => by
    simp only [ev] at hr ⊢
    exact thenR_mono (fun q hq => ev_mono hc hm pre hq) (fun e h q hq => mgo_mono (fun e h q hq => ev_mono hc hm body hq) (fun e h q hq => ev_mono hc hm c hq) n m hm e h q hq) hr

theorem run_succ (T : Table) (n f : Nat) (vs : List V) (h : Heap) : run T (n + 1) f vs h = (T f).bind fun af => (ev ⟨run T n, T.free⟩ n af.code (args 0 vs) h).bind fun (x, e, h') => match x with
    | .x _ => none
    | _ => epi af e h' := rfl

theorem run_mono (T : Table) : ∀ (n m : Nat), n ≤ m → ∀ (f : Nat) (vs : List V) (h : Heap) (r : V × Heap), run T n f vs h = some r → run T m f vs h = some r
  | 0, _, _, _, _, _, _, hr => by cases hr
  | n + 1, 0, hm, _, _, _, _, _ => by omega
  | n + 1, m + 1, hm, f, vs, h, r, hr => by
    rw [run_succ] at hr ⊢
    cases h1 : T f with
    | none => rw [h1] at hr; cases hr
    | some af =>
      rw [h1] at hr; simp only [Option.bind_some] at hr ⊢
      cases h2 : ev ⟨run T n, T.free⟩ n af.code (args 0 vs) h with
      | none => rw [h2] at hr; cases hr
      | some q => rw [h2] at hr; rw [ev_mono (C := ⟨run T n, T.free⟩) (D := ⟨run T m, T.free⟩) ⟨fun f vs h r hr => run_mono T n m (by omega) f vs h r hr, rfl⟩ (by omega : n ≤ m) af.code h2]; exact hr

theorem callee_mono (T : Table) {n m : Nat} (hm : n ≤ m) : Callee.le ⟨run T n, T.free⟩ ⟨run T m, T.free⟩ := ⟨fun f vs h r hr => run_mono T n m hm f vs h r hr, rfl⟩

end Ev

/-! Ev, part 2G: what code computes, with no fuel in sight: rules to step through it. -/
namespace Ev
open Go

/-- The function yields this. -/
def Run (T : Table) (f : Nat) (vs : List V) (h : Heap) (v : V) (h' : Heap) : Prop := ∃ n, run T n f vs h = some (v, h')

def opt {α : Type} (o : Option α) (K : α → Prop) : Prop := ∃ a, o = some a ∧ K a
def later {α : Type} (a : α) (K : α → Prop) : Prop := K a
def br (b : Bool) (P Q : Prop) : Prop := (b = true → P) ∧ (b = false → Q)
def Ex.sq : Ex → Prop → Prop → Prop
  | .n, p, _ => p
  | _, _, q => q
def Ex.fin : Ex → Prop → Prop
  | .x _, _ => False
  | _, p => p

def Wc (T : Table) (c : ACode) (e : Env) (h : Heap) (Q : Ex → Env → Heap → Prop) : Prop := ∃ n x e' h', ev ⟨run T n, T.free⟩ n c e h = some (x, e', h') ∧ Q x e' h'
def Wo (T : Table) (ops : List AOpr) (e : Env) (h : Heap) (Q : Env → Heap → Prop) : Prop := ∃ n e' h', runOps ⟨run T n, T.free⟩ ops e h = some (e', h') ∧ Q e' h'
def W1 (T : Table) (op : AOp) (e : Env) (h : Heap) (K : V → Heap → Prop) : Prop := ∃ n v h', evOp ⟨run T n, T.free⟩ op e h = some (v, h') ∧ K v h'
def Call (T : Table) (f : Nat) (vs : List V) (h : Heap) (K : V → Heap → Prop) : Prop := ∃ v h', Run T f vs h v h' ∧ K v h'
/-- A call that sees nothing of the heap. -/
def Callp (T : Table) (f : Nat) (vs : List V) (lent : Bool) (K : V → Prop) : Prop := V.hfs vs = true ∧ ∃ v h', Run T f vs [] v h' ∧ v.hf = true ∧ (!lent || scalar v) = true ∧ K v

variable {T : Table}

theorem Run.det {f : Nat} {vs : List V} {h h1 h2 : Heap} {v1 v2 : V} (a : Run T f vs h v1 h1) (b : Run T f vs h v2 h2) : v1 = v2 ∧ h1 = h2 := by
  obtain ⟨n, a⟩ := a
  obtain ⟨m, b⟩ := b
  have a' := run_mono T n (max n m) (by omega) f vs h _ a
  have b' := run_mono T m (max n m) (by omega) f vs h _ b
  rw [a'] at b'
  simp at b'
  exact b'

theorem Run.call {f : Nat} {vs : List V} {h h' : Heap} {v : V} (r : Run T f vs h v h') {K : V → Heap → Prop} : Call T f vs h K = K v h' := by
  refine propext ⟨fun ⟨u, g, hr, hk⟩ => ?_, fun hk => ⟨v, h', r, hk⟩⟩
  obtain ⟨rfl, rfl⟩ := hr.det r
  exact hk
theorem Run.callp {f : Nat} {vs : List V} {h' : Heap} {v : V} (r : Run T f vs [] v h') {b : Bool} {K : V → Prop} (h1 : V.hfs vs = true) (h2 : v.hf = true) (h3 : (!b || scalar v) = true) : Callp T f vs b K = K v := by
  refine propext ⟨fun ⟨_, u, g, hr, _, _, hk⟩ => ?_, fun hk => ⟨h1, v, h', r, h2, h3, hk⟩⟩
  obtain ⟨rfl, rfl⟩ := hr.det r
  exact hk

/-! ### stuck forms: only what decides them is simplified -/
theorem opt_congr {α : Type} {o o' : Option α} {K : α → Prop} (h : o = o') : opt o K = opt o' K := by rw [h]
theorem later_congr {α : Type} {a a' : α} {K : α → Prop} (h : a = a') : later a K = later a' K := by rw [h]
theorem br_congr {b b' : Bool} {P Q : Prop} (h : b = b') : br b P Q = br b' P Q := by rw [h]
theorem sq_congr {x x' : Ex} {P Q : Prop} (h : x = x') : Ex.sq x P Q = Ex.sq x' P Q := by rw [h]
theorem fin_congr {x x' : Ex} {P : Prop} (h : x = x') : Ex.fin x P = Ex.fin x' P := by rw [h]
theorem Wc_congr {c : ACode} {e e' : Env} {h h' : Heap} {Q : Ex → Env → Heap → Prop} (he : e = e') (hh : h = h') : Wc T c e h Q = Wc T c e' h' Q := by rw [he, hh]
theorem Wo_congr {c : List AOpr} {e e' : Env} {h h' : Heap} {Q : Env → Heap → Prop} (he : e = e') (hh : h = h') : Wo T c e h Q = Wo T c e' h' Q := by rw [he, hh]
theorem W1_congr {c : AOp} {e e' : Env} {h h' : Heap} {Q : V → Heap → Prop} (he : e = e') (hh : h = h') : W1 T c e h Q = W1 T c e' h' Q := by rw [he, hh]
theorem Call_congr {f : Nat} {e e' : List V} {h h' : Heap} {Q : V → Heap → Prop} (he : e = e') (hh : h = h') : Call T f e h Q = Call T f e' h' Q := by rw [he, hh]
theorem Callp_congr {f : Nat} {e e' : List V} {b b' : Bool} {Q : V → Prop} (he : e = e') (hb : b = b') : Callp T f e b Q = Callp T f e' b' Q := by rw [he, hb]

theorem opt_some {α : Type} (a : α) (K : α → Prop) : opt (some a) K = K a := propext ⟨fun ⟨_, h, k⟩ => by cases h; exact k, fun k => ⟨a, rfl, k⟩⟩
theorem opt_none {α : Type} (K : α → Prop) : opt none K = False := propext ⟨fun ⟨_, h, _⟩ => (by cases h), False.elim⟩
theorem opt_pure {α : Type} (a : α) (K : α → Prop) : opt (pure a) K = K a := opt_some a K
theorem opt_bind {α β : Type} (o : Option α) (f : α → Option β) (K : β → Prop) : opt (o.bind f) K = opt o (fun a => opt (f a) K) := by
  cases o with
  | none => simp [opt]
  | some a => simp [opt]
theorem opt_map {α β : Type} (o : Option α) (f : α → β) (K : β → Prop) : opt (o.map f) K = opt o (fun a => K (f a)) := by
  cases o with
  | none => simp [opt]
  | some a => simp [opt]
theorem opt_ite {α : Type} {c : Prop} [Decidable c] (hc : c) (a b : Option α) (K : α → Prop) : opt (if c then a else b) K = opt a K := by rw [if_pos hc]
theorem opt_neg {α : Type} {c : Prop} [Decidable c] (hc : ¬ c) (a b : Option α) (K : α → Prop) : opt (if c then a else b) K = opt b K := by rw [if_neg hc]
theorem later_eq {α : Type} (a : α) (K : α → Prop) : later a K = K a := rfl
theorem br_true (P Q : Prop) : br true P Q = P := by simp [br]
theorem br_false (P Q : Prop) : br false P Q = Q := by simp [br]
theorem br_intro {b : Bool} {P Q : Prop} (h : b = true → P) (k : b = false → Q) : br b P Q := ⟨h, k⟩
theorem br_dec {c : Prop} [Decidable c] {P Q : Prop} (h : c → P) (k : ¬ c → Q) : br (decide c) P Q := ⟨fun x => h (of_decide_eq_true x), fun x => k (of_decide_eq_false x)⟩
theorem br_pos {c : Prop} [Decidable c] {P Q : Prop} (h : c) : br (decide c) P Q = P := by rw [decide_eq_true h, br_true]
theorem br_neg {c : Prop} [Decidable c] {P Q : Prop} (h : ¬ c) : br (decide c) P Q = Q := by rw [decide_eq_false h, br_false]
theorem br_not (b : Bool) (P Q : Prop) : br (!b) P Q = br b Q P := by cases b <;> simp [br_true, br_false]
theorem sq_n (P Q : Prop) : Ex.sq .n P Q = P := rfl
theorem sq_x (i : Nat) (P Q : Prop) : Ex.sq (.x i) P Q = Q := rfl
theorem sq_r (P Q : Prop) : Ex.sq .r P Q = Q := rfl
theorem fin_n (P : Prop) : Ex.fin .n P = P := rfl
theorem fin_r (P : Prop) : Ex.fin .r P = P := rfl

/-! ### one operation -/
theorem W1_bind {α : Type} (o : Option α) (g : α → Option (V × Heap)) (op : AOp) (e : Env) (h : Heap) (K : V → Heap → Prop)
    (he : ∀ C : Callee, evOp C op e h = o.bind g) : W1 T op e h K = opt o fun a => opt (g a) fun r => K r.1 r.2 := by
  refine propext ⟨fun ⟨n, v, h', hr, hk⟩ => ?_, fun ⟨a, ha, r, hr, hk⟩ => ?_⟩
  · rw [he] at hr
    cases ho : o with
    | none => rw [ho] at hr; cases hr
    | some a => rw [ho] at hr; exact ⟨a, rfl, (v, h'), hr, hk⟩
  · exact ⟨0, r.1, r.2, by rw [he, ha]; exact hr, hk⟩

def noC : Callee := ⟨fun _ _ _ => none, fun _ => false⟩
/-- An operation that calls nothing. -/
theorem W1_q {op : AOp} {e : Env} {h : Heap} {K : V → Heap → Prop} (he : ∀ C : Callee, evOp C op e h = evOp noC op e h) : W1 T op e h K = opt (evOp noC op e h) fun r => K r.1 r.2 := by
  refine propext ⟨fun ⟨n, v, h', hr, hk⟩ => ⟨(v, h'), (he _).symm.trans hr, hk⟩, fun ⟨r', ha, hk⟩ => ⟨0, r'.1, r'.2, by rw [he, ha], hk⟩⟩

section
variable (e : Env) (h : Heap) (K : V → Heap → Prop)
theorem W1_mv (x : A) (t : Bool) : W1 T (.mv x t) e h K = opt (x.ev e) fun v => K v h := by
  rw [W1_q fun C => rfl]; simp only [evOp, opt_bind, opt_some]
theorem W1_pick (c a b : A) : W1 T (.pick c a b) e h K = opt (c.ev e) fun c => opt (boolV c) fun t => opt ((if t then a else b).ev e) fun v => K v h := by
  rw [W1_q fun C => rfl]; simp only [evOp, opt_bind, opt_some]
theorem W1_alloc (z : List V) : W1 T (.alloc z) e h K = K (.ptr h.length 0) (h ++ [some z]) := by
  rw [W1_q fun C => rfl]; simp only [evOp, opt_bind, opt_some]
theorem W1_box (x : A) : W1 T (.box x) e h K = opt (x.ev e) fun v => opt (if v.cells.all V.one = true then some (h ++ [some v.cells]) else none) fun h' => K (.ptr h.length 0) h' := by
  rw [W1_q fun C => rfl]; simp only [evOp, opt_bind, opt_some]
  congr 1; funext v
  by_cases hc : (v.cells.all V.one = true)
  · simp only [if_pos hc, opt_some]
  · simp only [if_neg hc, opt_none]
theorem W1_build (z : List V) (ps : List (Nat × Nat × A)) : W1 T (.build z ps) e h K = opt (evParts e ps) fun ps => opt (buildV z ps) fun v => K v h := by
  rw [W1_q fun C => rfl]; simp only [evOp, opt_bind, opt_some]
theorem W1_bsl (s : Nat) (xs : List A) (hp : Bool) : W1 T (.bsl s xs hp) e h K = opt (A.evs e xs) fun vs => opt (if vs.all (fun v => v.cells.length == s && v.cells.all V.one) = true then
      (if hp then (if vs.isEmpty then some (.hn s, h) else some (.hs s h.length 0 vs.length, h ++ [some (flat vs)])) else some (.ps s vs, h)) else none) fun r => K r.1 r.2 := by
  rw [W1_q fun C => rfl]; simp only [evOp, opt_bind, opt_some]
theorem W1_load (sz : Nat) (a : A) : W1 T (.load sz a) e h K = opt (a.ev e) fun a => opt (loadV h sz a) fun v => K v h := by
  rw [W1_q fun C => rfl]; simp only [evOp, opt_bind, opt_some]
theorem W1_store (n : Nat) (a x : A) : W1 T (.store n a x) e h K = opt (a.ev e) fun a => opt (x.ev e) fun x => opt (storeV h n a x) fun h' => K (.tup []) h' := by
  rw [W1_q fun C => rfl]; simp only [evOp, opt_bind, opt_some]
theorem W1_nilck (x : A) : W1 T (.nilck x) e h K = opt (x.ev e) fun x => opt (nilckV x) fun v => K v h := by
  rw [W1_q fun C => rfl]; simp only [evOp, opt_bind, opt_some]
theorem W1_bin (op : BinOp) (q : EqK) (x y : A) : W1 T (.bin op q x y) e h K = opt (x.ev e) fun x => opt (y.ev e) fun y => opt (binV op q x y) fun v => K v h := by
  rw [W1_q fun C => rfl]; simp only [evOp, opt_bind, opt_some]
theorem W1_un (op : UnOp) (x : A) : W1 T (.un op x) e h K = opt (x.ev e) fun x => opt (unV op x) fun v => K v h := by
  rw [W1_q fun C => rfl]; simp only [evOp, opt_bind, opt_some]
theorem W1_conv (k : CK) (x : A) : W1 T (.conv k x) e h K = opt (x.ev e) fun x => opt (convV h k x) fun v => K v h := by
  rw [W1_q fun C => rfl]; simp only [evOp, opt_bind, opt_some]
theorem W1_mkif (t : Nat) (x : A) : W1 T (.mkif t x) e h K = opt (x.ev e) fun x => K (.iface t x) h := by
  rw [W1_q fun C => rfl]; simp only [evOp, opt_bind, opt_some]
theorem W1_mkfn (f : Nat) (cap : List A) : W1 T (.mkfn f cap) e h K = opt (A.evs e cap) fun vs => K (.fn f vs) h := by
  rw [W1_q fun C => rfl]; simp only [evOp, opt_bind, opt_some]
theorem W1_mksl (s bytes : Nat) (z : V) (l c : A) (hp : Bool) : W1 T (.mksl s bytes z l c hp) e h K = opt (l.ev e) fun l => opt (c.ev e) fun c => opt (mkslV s bytes z l c) fun q =>
      br hp (K (.hs s h.length 0 q.1) (h ++ [some (flat (List.replicate q.1 z))])) (K (.ps s (List.replicate q.1 z)) h) := by
  rw [W1_q fun C => rfl]; cases hp <;> simp only [evOp, opt_bind, opt_some, br_true, br_false, if_true, if_false, Bool.false_eq_true]
theorem W1_sl (k : SK) (x : A) (lo hi mx : Option A) (t : Bool) : W1 T (.sl k x lo hi mx t) e h K = opt (x.ev e) fun x => opt (evO e lo) fun lo => opt (evO e hi) fun hi => opt (evO e mx) fun mx => opt (slT t k x lo hi mx) fun v => K v h := by
  rw [W1_q fun C => rfl]; simp only [evOp, opt_bind, opt_some]
theorem W1_fa (off : Nat) (a : A) : W1 T (.fa off a) e h K = opt (a.ev e) fun a => opt (faV off a) fun v => K v h := by
  rw [W1_q fun C => rfl]; simp only [evOp, opt_bind, opt_some]
theorem W1_fld (off sz : Nat) (x : A) : W1 T (.fld off sz x) e h K = opt (x.ev e) fun x => opt (fldV off sz x) fun v => K v h := by
  rw [W1_q fun C => rfl]; simp only [evOp, opt_bind, opt_some]
theorem W1_ia (k : SK) (x i : A) : W1 T (.ia k x i) e h K = opt (x.ev e) fun x => opt (i.ev e) fun i => opt (iaV k x i) fun v => K v h := by
  rw [W1_q fun C => rfl]; simp only [evOp, opt_bind, opt_some]
theorem W1_idx (k : SK) (sz : Nat) (x i : A) : W1 T (.idx k sz x i) e h K = opt (x.ev e) fun x => opt (i.ev e) fun i => opt (idxV k sz x i) fun v => K v h := by
  rw [W1_q fun C => rfl]; simp only [evOp, opt_bind, opt_some]
theorem W1_ta (t : Nat) (z : V) (ok : Bool) (x : A) : W1 T (.ta t z ok x) e h K = opt (x.ev e) fun x => opt (taV t z ok x) fun v => K v h := by
  rw [W1_q fun C => rfl]; simp only [evOp, opt_bind, opt_some]
theorem W1_ext (x : A) (i : Nat) : W1 T (.ext x i) e h K = opt (x.ev e) fun x => opt (extV x i) fun v => K v h := by
  rw [W1_q fun C => rfl]; simp only [evOp, opt_bind, opt_some]
theorem W1_len (str : Bool) (x : A) : W1 T (.len str x) e h K = opt (x.ev e) fun x => opt (lenV str x) fun v => K v h := by
  rw [W1_q fun C => rfl]; simp only [evOp, opt_bind, opt_some]
theorem W1_app (s bytes : Nat) (x y : A) : W1 T (.app s bytes x y) e h K = opt (x.ev e) fun x => opt (y.ev e) fun y => opt (appV h s bytes x y) fun v => K v h := by
  rw [W1_q fun C => rfl]; simp only [evOp, opt_bind, opt_some]
theorem W1_apph (s bytes : Nat) (x y : A) : W1 T (.apph s bytes x y) e h K = opt (x.ev e) fun x => opt (y.ev e) fun y => opt (appH h s bytes x y) fun r => K r.1 r.2 := by
  rw [W1_q fun C => rfl]; simp only [evOp, opt_bind, opt_some]
theorem W1_mx (m : Bool) (xs : List A) : W1 T (.mx m xs) e h K = opt (A.evs e xs) fun vs => opt (mxV m vs) fun v => K v h := by
  rw [W1_q fun C => rfl]; simp only [evOp, opt_bind, opt_some]
theorem W1_copy (s : Nat) (x y : A) : W1 T (.copy s x y) e h K = opt (x.ev e) fun x => opt (y.ev e) fun y => opt (copyV h s x y) fun r => K r.1 r.2 := by
  rw [W1_q fun C => rfl]; simp only [evOp, opt_bind, opt_some]
theorem W1_ldz (sz : Nat) (x : A) (ag : Bool) : W1 T (.ldz sz x ag) e h K = opt (x.ev e) fun x => opt (loadV h sz x) fun v => opt (freezeA ag v h) fun r => K r.1 r.2 := by
  rw [W1_q fun C => rfl]; simp only [evOp, opt_bind, opt_some]
theorem W1_frz (x : A) (ag : Bool) : W1 T (.frz x ag) e h K = opt (x.ev e) fun x => opt (freezeA ag x h) fun r => K r.1 r.2 := by
  rw [W1_q fun C => rfl]; simp only [evOp, opt_bind, opt_some]
theorem W1_lit (x : A) : W1 T (.lit x) e h K = opt (x.ev e) fun x => opt (litV h x) fun r => K r.1 r.2 := by
  rw [W1_q fun C => rfl]; simp only [evOp, opt_bind, opt_some]

theorem W1_callp (f : Nat) (args : List A) (bor : List (Nat × Bool)) : W1 T (.callp f args bor) e h K =
    opt (A.evs e args) fun vs => opt (lend h bor 0 vs) fun us => Callp T f us (lents bor vs) fun v => K v h := by
  refine propext ⟨fun ⟨n, v, h', hr, hk⟩ => ?_, fun ⟨vs, hv, us, hu, h1, v, h', ⟨n, hr⟩, h2, h3, hk⟩ => ?_⟩
  · simp only [evOp] at hr
    rw [Option.bind_eq_some_iff] at hr; obtain ⟨vs, hv, hr⟩ := hr
    rw [Option.bind_eq_some_iff] at hr; obtain ⟨us, hu, hr⟩ := hr
    rw [Option.bind_eq_some_iff] at hr; obtain ⟨u, hp, hr⟩ := hr
    obtain ⟨rfl, rfl⟩ := (by simpa using hr : u = v ∧ h = h')
    unfold callP at hp
    split at hp
    · rename_i hh
      rw [Option.bind_eq_some_iff] at hp; obtain ⟨⟨u1, h1⟩, hq, hp⟩ := hp
      simp only at hp
      split at hp
      · rename_i hs
        cases hp
        simp only [Bool.and_eq_true] at hs
        exact ⟨vs, hv, us, hu, hh, u, h1, ⟨n, hq⟩, hs.1, hs.2, hk⟩
      · cases hp
    · cases hp
  · refine ⟨n, v, h, ?_, hk⟩
    simp only [evOp, hv, hu, callP, h1, hr, h2, h3, Option.bind_some, if_true, Bool.and_self]
theorem W1_callh (f : Nat) (args : List A) : W1 T (.callh f args) e h K = opt (A.evs e args) fun vs => Call T f vs h K := by
  refine propext ⟨fun ⟨n, v, h', hr, hk⟩ => ?_, fun ⟨vs, hv, v, h', ⟨n, hr⟩, hk⟩ => ?_⟩
  · simp only [evOp] at hr
    rw [Option.bind_eq_some_iff] at hr; obtain ⟨vs, hv, hr⟩ := hr
    exact ⟨vs, hv, v, h', ⟨n, hr⟩, hk⟩
  · exact ⟨n, v, h', by simp [evOp, hv, hr], hk⟩
/-- A function value is called. -/
def Callv (T : Table) (x : V) (vs : List V) (h : Heap) (K : V → Heap → Prop) : Prop := match x with
  | .fn f cap => T.free f = true ∧ Call T f (vs ++ cap) h K
  | _ => False
theorem Callv_congr {x x' : V} {e e' : List V} {h h' : Heap} {Q : V → Heap → Prop} (hx : x = x') (he : e = e') (hh : h = h') : Callv T x e h Q = Callv T x' e' h' Q := by rw [hx, he, hh]
theorem Callv_fn {f : Nat} {cap vs : List V} (hf : T.free f = true) : Callv T (.fn f cap) vs h K = Call T f (vs ++ cap) h K := by simp [Callv, hf]
theorem W1_callv (x : A) (args : List A) : W1 T (.callv x args) e h K = opt (x.ev e) fun x => opt (A.evs e args) fun vs => Callv T x vs h K := by
  refine propext ⟨fun ⟨n, v, h', hr, hk⟩ => ?_, fun ⟨y, hy, vs, hv, hc⟩ => ?_⟩
  · simp only [evOp] at hr
    rw [Option.bind_eq_some_iff] at hr; obtain ⟨y, hy, hr⟩ := hr
    rw [Option.bind_eq_some_iff] at hr; obtain ⟨vs, hv, hr⟩ := hr
    refine ⟨y, hy, vs, hv, ?_⟩
    cases y with
    | fn f cap =>
      simp only at hr
      split at hr
      · rename_i hf; exact ⟨hf, v, h', ⟨n, hr⟩, hk⟩
      · cases hr
    | _ => cases hr
  · cases y with
    | fn f cap =>
      obtain ⟨hf, v, h', ⟨n, hr⟩, hk⟩ := hc
      exact ⟨n, v, h', by simp only [evOp, hy, hv, hf, Option.bind_some, if_true]; exact hr, hk⟩
    | _ => cases hc
end

/-! ### rows of operations -/
theorem Wo_nil (e : Env) (h : Heap) (Q : Env → Heap → Prop) : Wo T [] e h Q = Q e h :=
  propext ⟨fun ⟨n, e', h', hr, hk⟩ => by simp at hr; obtain ⟨rfl, rfl⟩ := hr; exact hk, fun hk => ⟨0, e, h, by simp, hk⟩⟩

theorem Wo_step (op : AOp) (d : Option Nat) (r : List AOpr) (e : Env) (h : Heap) (Q : Env → Heap → Prop) :
    Wo T (⟨d, op, none⟩ :: r) e h Q = W1 T op e h fun v h' => Wo T r (e.put d v) h' Q := by
  refine propext ⟨fun ⟨n, e', h', hr, hk⟩ => ?_, fun ⟨n, v, h1, hv, m, e', h', hr, hk⟩ => ?_⟩
  · simp only [runOps, wantedA, Option.bind_some, if_true] at hr
    rw [Option.bind_eq_some_iff] at hr; obtain ⟨⟨v, h1⟩, ho, hr⟩ := hr
    exact ⟨n, v, h1, ho, n, e', h', hr, hk⟩
  · refine ⟨max n m, e', h', ?_, hk⟩
    have h1 := evOp_mono (callee_mono T (show n ≤ max n m by omega)) hv
    have h2 := runOps_mono (callee_mono T (show m ≤ max n m by omega)) r hr
    simp only [runOps, wantedA, Option.bind_some, if_true, h1, h2]
theorem Wo_some (op : AOp) (d : Nat) (r : List AOpr) (e : Env) (h : Heap) (Q : Env → Heap → Prop) :
    Wo T (⟨some d, op, none⟩ :: r) e h Q = W1 T op e h fun v h' => Wo T r ((d, v) :: e) h' Q := Wo_step op (some d) r e h Q
theorem Wo_none (op : AOp) (r : List AOpr) (e : Env) (h : Heap) (Q : Env → Heap → Prop) :
    Wo T (⟨none, op, none⟩ :: r) e h Q = W1 T op e h fun _ h' => Wo T r e h' Q := Wo_step op none r e h Q
theorem Wo_guard (op : AOp) (d : Option Nat) (s : Nat) (b : Bool) (r : List AOpr) (e : Env) (h : Heap) (Q : Env → Heap → Prop) :
    Wo T (⟨d, op, some (s, b)⟩ :: r) e h Q = opt (wantedA (some (s, b)) e) fun w => br w (Wo T (⟨d, op, none⟩ :: r) e h Q) (Wo T r (e.put d (.tup [])) h Q) := by
  have key : ∀ C, runOps C (⟨d, op, some (s, b)⟩ :: r) e h = (wantedA (some (s, b)) e).bind fun w => if w then runOps C (⟨d, op, none⟩ :: r) e h else runOps C r (e.put d (.tup [])) h := by
    intro C
    rw [runOps]
    congr 1
  refine propext ⟨fun ⟨n, e', h', hr, hk⟩ => ?_, fun ⟨w, hw, hk⟩ => ?_⟩
  · rw [key, Option.bind_eq_some_iff] at hr
    obtain ⟨w, hw, hr⟩ := hr
    refine ⟨w, hw, ?_⟩
    cases w
    · rw [br_false]; exact ⟨n, e', h', hr, hk⟩
    · rw [br_true]; exact ⟨n, e', h', hr, hk⟩
  · cases w
    · rw [br_false] at hk; obtain ⟨n, e', h', hr, hk⟩ := hk; exact ⟨n, e', h', by rw [key, hw]; exact hr, hk⟩
    · rw [br_true] at hk; obtain ⟨n, e', h', hr, hk⟩ := hk; exact ⟨n, e', h', by rw [key, hw]; exact hr, hk⟩

/-! ### code -/
section
variable (e : Env) (h : Heap) (Q : Ex → Env → Heap → Prop)
theorem Wc_skip : Wc T .skip e h Q = Q .n e h := propext ⟨fun ⟨n, x, e', h', hr, hk⟩ => by simp [ev] at hr; obtain ⟨rfl, rfl, rfl⟩ := hr; exact hk, fun hk => ⟨0, _, _, _, rfl, hk⟩⟩
theorem Wc_exit (i : Nat) : Wc T (.exit i) e h Q = Q (.x i) e h := propext ⟨fun ⟨n, x, e', h', hr, hk⟩ => by simp [ev] at hr; obtain ⟨rfl, rfl, rfl⟩ := hr; exact hk, fun hk => ⟨0, _, _, _, rfl, hk⟩⟩
theorem Wc_ret : Wc T .ret e h Q = Q .r e h := propext ⟨fun ⟨n, x, e', h', hr, hk⟩ => by simp [ev] at hr; obtain ⟨rfl, rfl, rfl⟩ := hr; exact hk, fun hk => ⟨0, _, _, _, rfl, hk⟩⟩
theorem Wc_reg (ops : List AOpr) (keep : List Nat) : Wc T (.reg ops keep) e h Q = Wo T ops e h fun e' h' => later (e'.keep keep) fun e' => Q .n e' h' := by
  refine propext ⟨fun ⟨n, x, e', h', hr, hk⟩ => ?_, fun ⟨n, e', h', hr, hk⟩ => ?_⟩
  · simp only [ev] at hr
    rw [Option.bind_eq_some_iff] at hr; obtain ⟨⟨e1, h1⟩, ho, hr⟩ := hr
    simp at hr
    obtain ⟨rfl, rfl, rfl⟩ := hr
    exact ⟨n, e1, h1, ho, hk⟩
  · exact ⟨n, .n, _, h', by simp only [ev, hr, Option.bind_some], hk⟩
theorem Wc_regd (ops : List AOpr) (keep : List Nat) (own : Plan) (fl : List (Nat × Nat × Nat)) (hf : ∃ n, flagsOk ⟨run T n, T.free⟩ ops e h fl = true) :
    Wc T (.regd ops keep own fl) e h Q = Wo T ops e h fun e' h' => later (e'.keep keep) fun e' => Q .n e' h' := by
  obtain ⟨m, hf⟩ := hf
  refine propext ⟨fun ⟨n, x, e', h', hr, hk⟩ => ?_, fun ⟨n, e', h', hr, hk⟩ => ?_⟩
  · simp only [ev] at hr
    split at hr
    · rw [Option.bind_eq_some_iff] at hr; obtain ⟨⟨e1, h1⟩, ho, hr⟩ := hr
      simp at hr
      obtain ⟨rfl, rfl, rfl⟩ := hr
      exact ⟨n, e1, h1, ho, hk⟩
    · cases hr
  · refine ⟨max n m, .n, _, h', ?_, hk⟩
    have h1 := flagsOk_mono (callee_mono T (show m ≤ max n m by omega)) hf
    have h2 := runOps_mono (callee_mono T (show n ≤ max n m by omega)) ops hr
    simp only [ev, h1, h2, if_true, Option.bind_some]
theorem Wc_regd0 (ops : List AOpr) (keep : List Nat) (own : Plan) : Wc T (.regd ops keep own []) e h Q = Wo T ops e h fun e' h' => later (e'.keep keep) fun e' => Q .n e' h' :=
  Wc_regd e h Q ops keep own [] ⟨0, rfl⟩
theorem Wc_seq (a b : ACode) : Wc T (.seq a b) e h Q = Wc T a e h fun x e' h' => x.sq (Wc T b e' h' Q) (Q x e' h') := by
  refine propext ⟨fun ⟨n, x, e', h', hr, hk⟩ => ?_, fun ⟨n, x, e1, h1, hr, hk⟩ => ?_⟩
  · simp only [ev] at hr
    rw [Option.bind_eq_some_iff] at hr; obtain ⟨⟨x1, e1, h1⟩, ho, hr⟩ := hr
    refine ⟨n, x1, e1, h1, ho, ?_⟩
    cases x1 with
    | n => exact ⟨n, x, e', h', hr, hk⟩
    | x i => simp at hr; obtain ⟨rfl, rfl, rfl⟩ := hr; exact hk
    | r => simp at hr; obtain ⟨rfl, rfl, rfl⟩ := hr; exact hk
  · cases x with
    | n =>
      obtain ⟨m, x, e', h', hr', hk⟩ := hk
      refine ⟨max n m, x, e', h', ?_, hk⟩
      have a1 := ev_mono (callee_mono T (show n ≤ max n m by omega)) (show n ≤ max n m by omega) a hr
      have a2 := ev_mono (callee_mono T (show m ≤ max n m by omega)) (show m ≤ max n m by omega) b hr'
      simp only [ev, a1, Option.bind_some]; exact a2
    | x i => exact ⟨n, .x i, e1, h1, by simp only [ev, hr, Option.bind_some], hk⟩
    | r => exact ⟨n, .r, e1, h1, by simp only [ev, hr, Option.bind_some], hk⟩
theorem Wc_cond (c : A) (a b : ACode) : Wc T (.cond c a b) e h Q = opt (c.ev e) fun v => opt (boolV v) fun t => br t (Wc T a e h Q) (Wc T b e h Q) := by
  refine propext ⟨fun ⟨n, x, e', h', hr, hk⟩ => ?_, fun ⟨v, hv, t, ht, hk⟩ => ?_⟩
  · simp only [ev] at hr
    rw [Option.bind_eq_some_iff] at hr; obtain ⟨v, hv, hr⟩ := hr
    rw [Option.bind_eq_some_iff] at hr; obtain ⟨t, ht, hr⟩ := hr
    refine ⟨v, hv, t, ht, ?_⟩
    cases t
    · rw [br_false]; exact ⟨n, x, e', h', hr, hk⟩
    · rw [br_true]; exact ⟨n, x, e', h', hr, hk⟩
  · cases t
    · rw [br_false] at hk; obtain ⟨n, x, e', h', hr, hk⟩ := hk; exact ⟨n, x, e', h', by simp only [ev, hv, ht, Option.bind_some, Bool.false_eq_true, if_false]; exact hr, hk⟩
    · rw [br_true] at hk; obtain ⟨n, x, e', h', hr, hk⟩ := hk; exact ⟨n, x, e', h', by simp only [ev, hv, ht, Option.bind_some, if_true]; exact hr, hk⟩
theorem Wc_nil (ops : List AOpr) (x : A) (d : Nat) (neq : Bool) (keep : List Nat) (a b c : ACode) {e1 : Env} {h1 : Heap} {v : V} (hr : ∃ n, runOps ⟨run T n, T.free⟩ ops e h = some (e1, h1)) (hx : x.ev e1 = some v) (hn : nilV v = some false) :
    Wc T (.seq (if neq then a else b) c) (e1.keep keep) h1 Q → Wc T (.nilc ops x d neq keep a b c) e h Q := by
  rintro ⟨n, y, e', h', hv, hk⟩
  obtain ⟨m, hr⟩ := hr
  have a1 := runOps_mono (callee_mono T (show m ≤ max n m by omega)) ops hr
  have a2 := ev_mono (callee_mono T (show n ≤ max n m by omega)) (show n ≤ max n m by omega) _ hv
  refine ⟨max n m, y, e', h', ?_, hk⟩
  simp only [ev, a1, Option.bind_some, hx, hn, Bool.false_eq_true, if_false]
  cases neq <;> simpa [ev, thenR] using a2
theorem Wc_may (ops : List AOpr) (x : A) (d : Nat) (neq : Bool) (keep : List Nat) (a b c : ACode) {e1 : Env} {h1 : Heap} {v : V} (hr : ∃ n, runOps ⟨run T n, T.free⟩ ops e h = some (e1, h1)) (hx : x.ev e1 = some v) (hn : nilV v = some true) {y : Ex} {e' : Env} {h' : Heap}
    (ha : Wc T (.seq a c) (e1.keep keep) h1 fun x e h => x = y ∧ e = e' ∧ h = h') (hb : Wc T (.seq b c) (e1.keep keep) h1 fun x e h => x = y ∧ e = e' ∧ h = h') (hQ : Q y e' h') : Wc T (.nilc ops x d neq keep a b c) e h Q := by
  obtain ⟨n1, _, _, _, hv1, rfl, rfl, rfl⟩ := ha
  obtain ⟨n2, _, _, _, hv2, rfl, rfl, rfl⟩ := hb
  obtain ⟨m, hr⟩ := hr
  let N := max m (max n1 n2)
  have a0 := runOps_mono (callee_mono T (show m ≤ N by omega)) ops hr
  have a1 := ev_mono (callee_mono T (show n1 ≤ N by omega)) (show n1 ≤ N by omega) _ hv1
  have a2 := ev_mono (callee_mono T (show n2 ≤ N by omega)) (show n2 ≤ N by omega) _ hv2
  refine ⟨N, _, _, _, ?_, hQ⟩
  simp only [ev, a0, Option.bind_some, hx, hn, if_true]
  exact bothR_of (by simpa [ev, thenR] using a1) (by simpa [ev, thenR] using a2)
def Ex.unb (id : Nat) (x : Ex) : Ex := if x = .x id then .n else x
theorem unb_n (id : Nat) : Ex.unb id .n = .n := rfl
theorem unb_r (id : Nat) : Ex.unb id .r = .r := rfl
theorem unb_x (id i : Nat) : Ex.unb id (.x i) = if i = id then .n else .x i := by simp [Ex.unb]
theorem Wc_block (id : Nat) (a : ACode) : Wc T (.block id a) e h Q = Wc T a e h fun x e' h' => later (x.unb id) fun x => Q x e' h' := by
  refine propext ⟨fun ⟨n, x, e', h', hr, hk⟩ => ?_, fun ⟨n, x, e', h', hr, hk⟩ => ?_⟩
  · simp only [ev] at hr
    rw [Option.bind_eq_some_iff] at hr; obtain ⟨⟨x1, e1, h1⟩, ho, hr⟩ := hr
    simp only [Option.some.injEq, Prod.mk.injEq] at hr
    obtain ⟨rfl, rfl, rfl⟩ := hr
    exact ⟨n, x1, e1, h1, ho, hk⟩
  · exact ⟨n, x.unb id, e', h', by simp only [ev, hr, Option.bind_some]; rfl, hk⟩
theorem Wc_scope (a : ACode) : Wc T (.scope a) e h Q = Wc T a e h Q := by
  refine propext ⟨fun ⟨n, x, e', h', hr, hk⟩ => ⟨n, x, e', h', by simpa only [ev] using hr, hk⟩, fun ⟨n, x, e', h', hr, hk⟩ => ⟨n, x, e', h', by simpa only [ev] using hr, hk⟩⟩
theorem Wc_loop (keep : List Nat) (own : List (Nat × Nat)) (a : ACode) : Wc T (.loop keep own a) e h Q =
    Wc T a (e.keep keep) h fun x e' h' => x.sq (Wc T (.loop keep own a) e' h' Q) (Q x e' h') := by
  refine propext ⟨fun ⟨n, x, e', h', hr, hk⟩ => ?_, fun ⟨n, x, e1, h1, hr, hk⟩ => ?_⟩
  · simp only [ev] at hr
    cases n with
    | zero => cases hr
    | succ n =>
      simp only [iter] at hr
      rw [Option.bind_eq_some_iff] at hr; obtain ⟨⟨x1, e1, h1⟩, ho, hr⟩ := hr
      refine ⟨n + 1, x1, e1, h1, ho, ?_⟩
      cases x1 with
      | n => exact ⟨n + 1, x, e', h', by simp only [ev]; exact iter_mono (fun _ _ _ k => k) n (n + 1) (by omega) hr, hk⟩
      | x i => simp at hr; obtain ⟨rfl, rfl, rfl⟩ := hr; exact hk
      | r => simp at hr; obtain ⟨rfl, rfl, rfl⟩ := hr; exact hk
  · have a1 := fun m (hm : n ≤ m) => ev_mono (callee_mono T hm) hm a hr
    cases x with
    | n =>
      obtain ⟨m, x, e', h', hr', hk⟩ := hk
      refine ⟨max n m + 1, x, e', h', ?_, hk⟩
      simp only [ev] at hr' ⊢
      simp only [iter, a1 (max n m + 1) (by omega), Option.bind_some]
      exact iter_mono (fun e h r k => ev_mono (callee_mono T (show m ≤ max n m + 1 by omega)) (by omega) a k) m (max n m) (by omega) hr'
    | x i => exact ⟨n + 1, .x i, e1, h1, by simp only [ev, iter, a1 (n + 1) (by omega), Option.bind_some], hk⟩
    | r => exact ⟨n + 1, .r, e1, h1, by simp only [ev, iter, a1 (n + 1) (by omega), Option.bind_some], hk⟩
end

/-- A function, from its code. -/
theorem Run.of {f : Nat} {af : AFunc} {vs : List V} {h h' : Heap} {v : V} (hf : T f = some af)
    (hw : Wc T af.code (args 0 vs) h fun x e h1 => x.fin (opt (epi af e h1) fun r => r = (v, h'))) : Run T f vs h v h' := by
  obtain ⟨n, x, e, h1, hr, hk⟩ := hw
  refine ⟨n + 1, ?_⟩
  rw [run_succ, hf, Option.bind_some, hr, Option.bind_some]
  cases x with
  | x i => exact hk.elim
  | n => obtain ⟨_, h2, rfl⟩ := hk; exact h2
  | r => obtain ⟨_, h2, rfl⟩ := hk; exact h2
theorem Call.of {f : Nat} {af : AFunc} {vs : List V} {h : Heap} {K : V → Heap → Prop} (hf : T f = some af)
    (hw : Wc T af.code (args 0 vs) h fun x e h1 => x.fin (opt (epi af e h1) fun r => K r.1 r.2)) : Call T f vs h K := by
  obtain ⟨n, x, e, h1, hr, hk⟩ := hw
  cases x with
  | x i => exact hk.elim
  | n => obtain ⟨⟨v, h'⟩, h2, hk⟩ := hk; exact ⟨v, h', ⟨n + 1, by rw [run_succ, hf, Option.bind_some, hr, Option.bind_some]; exact h2⟩, hk⟩
  | r => obtain ⟨⟨v, h'⟩, h2, hk⟩ := hk; exact ⟨v, h', ⟨n + 1, by rw [run_succ, hf, Option.bind_some, hr, Option.bind_some]; exact h2⟩, hk⟩
theorem Run.iff_call {f : Nat} {vs : List V} {h h' : Heap} {v : V} : Run T f vs h v h' ↔ Call T f vs h (fun u g => u = v ∧ g = h') :=
  ⟨fun r => ⟨v, h', r, rfl, rfl⟩, fun ⟨_, _, r, a, b⟩ => a ▸ b ▸ r⟩

end Ev

/-! Ev, part 2H: what the primitive operations yield, as rules to rewrite with. -/
namespace Ev
open Go

/-! ### numbers -/
theorem wrap_i64_def (x : Int) : IntKind.i64.wrap x = if 9223372036854775808 ≤ x % 18446744073709551616 then x % 18446744073709551616 - 18446744073709551616 else x % 18446744073709551616 := by simp [IntKind.wrap, IntKind.bits, IntKind.signed]
theorem wrap_i64 {x : Int} (h1 : -9223372036854775808 ≤ x) (h2 : x < 9223372036854775808) : IntKind.i64.wrap x = x := by rw [wrap_i64_def]; split <;> omega
theorem wrap_i32_def (x : Int) : IntKind.i32.wrap x = if 2147483648 ≤ x % 4294967296 then x % 4294967296 - 4294967296 else x % 4294967296 := by simp [IntKind.wrap, IntKind.bits, IntKind.signed]
theorem wrap_i32 {x : Int} (h1 : -2147483648 ≤ x) (h2 : x < 2147483648) : IntKind.i32.wrap x = x := by rw [wrap_i32_def]; split <;> omega
theorem wrap_i16_def (x : Int) : IntKind.i16.wrap x = if 32768 ≤ x % 65536 then x % 65536 - 65536 else x % 65536 := by simp [IntKind.wrap, IntKind.bits, IntKind.signed]
theorem wrap_i16 {x : Int} (h1 : -32768 ≤ x) (h2 : x < 32768) : IntKind.i16.wrap x = x := by rw [wrap_i16_def]; split <;> omega
theorem wrap_i8_def (x : Int) : IntKind.i8.wrap x = if 128 ≤ x % 256 then x % 256 - 256 else x % 256 := by simp [IntKind.wrap, IntKind.bits, IntKind.signed]
theorem wrap_i8 {x : Int} (h1 : -128 ≤ x) (h2 : x < 128) : IntKind.i8.wrap x = x := by rw [wrap_i8_def]; split <;> omega
theorem wrap_u64_def (x : Int) : IntKind.u64.wrap x = x % 18446744073709551616 := by simp [IntKind.wrap, IntKind.bits, IntKind.signed]
theorem wrap_u64 {x : Int} (h1 : 0 ≤ x) (h2 : x < 18446744073709551616) : IntKind.u64.wrap x = x := by rw [wrap_u64_def]; omega
theorem wrap_u32_def (x : Int) : IntKind.u32.wrap x = x % 4294967296 := by simp [IntKind.wrap, IntKind.bits, IntKind.signed]
theorem wrap_u32 {x : Int} (h1 : 0 ≤ x) (h2 : x < 4294967296) : IntKind.u32.wrap x = x := by rw [wrap_u32_def]; omega
theorem wrap_u16_def (x : Int) : IntKind.u16.wrap x = x % 65536 := by simp [IntKind.wrap, IntKind.bits, IntKind.signed]
theorem wrap_u16 {x : Int} (h1 : 0 ≤ x) (h2 : x < 65536) : IntKind.u16.wrap x = x := by rw [wrap_u16_def]; omega
theorem wrap_u8_def (x : Int) : IntKind.u8.wrap x = x % 256 := by simp [IntKind.wrap, IntKind.bits, IntKind.signed]
theorem wrap_u8 {x : Int} (h1 : 0 ≤ x) (h2 : x < 256) : IntKind.u8.wrap x = x := by rw [wrap_u8_def]; omega
theorem wrap_i64_ge (x : Int) : -9223372036854775808 ≤ IntKind.i64.wrap x := by rw [wrap_i64_def]; split <;> omega
theorem wrap_i64_lt (x : Int) : IntKind.i64.wrap x < 9223372036854775808 := by rw [wrap_i64_def]; split <;> omega
attribute [simp] wrap_i64 wrap_i32 wrap_i16 wrap_i8 wrap_u64 wrap_u32 wrap_u16 wrap_u8

/-! ### operators -/
section
variable (q : EqK) (k l : IntKind) (a b : Int)
@[simp] theorem bin_eql (x y : V) : binV .eql q x y = (eqV q x y).map .bool := rfl
@[simp] theorem bin_neq (x y : V) : binV .neq q x y = (eqV q x y).map fun b => .bool (!b) := rfl
@[simp] theorem bin_add : binV .add q (.int k a) (.int k b) = some (.int k (k.wrap (a + b))) := by simp [binV, arithV, intOp]
@[simp] theorem bin_sub : binV .sub q (.int k a) (.int k b) = some (.int k (k.wrap (a - b))) := by simp [binV, arithV, intOp]
@[simp] theorem bin_mul : binV .mul q (.int k a) (.int k b) = some (.int k (k.wrap (a * b))) := by simp [binV, arithV, intOp]
@[simp] theorem bin_quo (h : b ≠ 0) : binV .quo q (.int k a) (.int k b) = some (.int k (k.wrap (a.tdiv b))) := by simp [binV, arithV, intOp, h]
@[simp] theorem bin_rem (h : b ≠ 0) : binV .rem q (.int k a) (.int k b) = some (.int k (a.tmod b)) := by simp [binV, arithV, intOp, h]
@[simp] theorem bin_and : binV .and q (.int k a) (.int k b) = some (.int k (k.wrap (BitVec.ofInt k.bits a &&& BitVec.ofInt k.bits b).toNat)) := by simp [binV, arithV, intOp]
@[simp] theorem bin_or : binV .or q (.int k a) (.int k b) = some (.int k (k.wrap (BitVec.ofInt k.bits a ||| BitVec.ofInt k.bits b).toNat)) := by simp [binV, arithV, intOp]
@[simp] theorem bin_xor : binV .xor q (.int k a) (.int k b) = some (.int k (k.wrap (BitVec.ofInt k.bits a ^^^ BitVec.ofInt k.bits b).toNat)) := by simp [binV, arithV, intOp]
@[simp] theorem bin_andNot : binV .andNot q (.int k a) (.int k b) = some (.int k (k.wrap (BitVec.ofInt k.bits a &&& ~~~ BitVec.ofInt k.bits b).toNat)) := by simp [binV, arithV, intOp]
@[simp] theorem bin_lss : binV .lss q (.int k a) (.int k b) = some (.bool (decide (a < b))) := by simp [binV, arithV, intOp]
@[simp] theorem bin_leq : binV .leq q (.int k a) (.int k b) = some (.bool (decide (a ≤ b))) := by simp [binV, arithV, intOp]
@[simp] theorem bin_gtr : binV .gtr q (.int k a) (.int k b) = some (.bool (decide (b < a))) := by simp [binV, arithV, intOp]
@[simp] theorem bin_geq : binV .geq q (.int k a) (.int k b) = some (.bool (decide (b ≤ a))) := by simp [binV, arithV, intOp]
@[simp] theorem bin_shl (h : 0 ≤ b) : binV .shl q (.int k a) (.int l b) = some (.int k (k.wrap (a * 2 ^ (min b.toNat k.bits)))) := by simp only [binV]; rw [if_neg (by omega)]
@[simp] theorem bin_shr (h : 0 ≤ b) : binV .shr q (.int k a) (.int l b) = some (.int k (a.fdiv (2 ^ (min b.toNat k.bits)))) := by simp only [binV]; rw [if_neg (by omega)]
@[simp] theorem bin_adds (s t : List UInt8) (h : s.length + t.length ≤ 4611686018427387904) : binV .add q (.str s) (.str t) = some (.str (s ++ t)) := by simp [binV, arithV, strCmp, h]
@[simp] theorem bin_lsss (s t : List UInt8) : binV .lss q (.str s) (.str t) = some (.bool (Op.bytesLess s t)) := by simp [binV, arithV, strCmp]
@[simp] theorem bin_gtrs (s t : List UInt8) : binV .gtr q (.str s) (.str t) = some (.bool (!(Op.bytesLess s t || s == t))) := by simp [binV, arithV, strCmp]

@[simp] theorem eq_int : eqV .int (.int k a) (.int k b) = some (decide (a = b)) := by simp [eqV]; rfl
@[simp] theorem eq_bool (a b : Bool) : eqV .bool (.bool a) (.bool b) = some (a == b) := by simp [eqV]
@[simp] theorem eq_str (a b : List UInt8) : eqV .str (.str a) (.str b) = some (decide (a = b)) := by simp only [eqV, Option.some.injEq]; rw [Bool.eq_iff_iff]; simp
@[simp] theorem eq_nn : eqV .ptr .nilp .nilp = some true := by simp [eqV]
@[simp] theorem eq_np (b o : Nat) : eqV .ptr .nilp (.ptr b o) = some false := by simp [eqV]
@[simp] theorem eq_nr (cs : List V) : eqV .ptr .nilp (.rp cs) = some false := by simp [eqV]
@[simp] theorem eq_pn (b o : Nat) : eqV .ptr (.ptr b o) .nilp = some false := by simp [eqV]
@[simp] theorem eq_rn (cs : List V) : eqV .ptr (.rp cs) .nilp = some false := by simp [eqV]
@[simp] theorem eq_ii : eqV .ifc .nili .nili = some true := by simp [eqV]
@[simp] theorem eq_iv (t : Nat) (v : V) : eqV .ifc .nili (.iface t v) = some false := by simp [eqV]
@[simp] theorem eq_vi (t : Nat) (v : V) : eqV .ifc (.iface t v) .nili = some false := by simp [eqV]
@[simp] theorem eq_ff : eqV .func .nilf .nilf = some true := by simp [eqV]
@[simp] theorem eq_fv (f : Nat) (c : List V) : eqV .func .nilf (.fn f c) = some false := by simp [eqV]
@[simp] theorem eq_vf (f : Nat) (c : List V) : eqV .func (.fn f c) .nilf = some false := by simp [eqV]
@[simp] theorem eq_agg (fs : EqFs) (a b : List V) : eqV (.agg fs) (.agg a) (.agg b) = eqFs fs a b := by simp [eqV]
@[simp] theorem eq_fnil (a b : List V) : eqFs .nil a b = some true := by simp [eqFs]
@[simp] theorem eq_fcons (o s : Nat) (k : EqK) (r : EqFs) (a b : List V) : eqFs (.cons o s k r) a b = ((partV o s a).bind fun x => (partV o s b).bind fun y => (eqV k x y).bind fun t => if t then eqFs r a b else some false) := by simp [eqFs]

@[simp] theorem un_neg : unV .neg (.int k a) = some (.int k (k.wrap (0 - a))) := rfl
@[simp] theorem un_not (b : Bool) : unV .not (.bool b) = some (.bool !b) := rfl
@[simp] theorem un_xor : unV .xor (.int k a) = some (.int k (k.wrap (BitVec.ofInt k.bits (if k.signed then -1 else k.max) ^^^ BitVec.ofInt k.bits a).toNat)) := rfl
@[simp] theorem conv_i (h : Heap) : convV h (.i k) (.int l a) = some (.int k (k.wrap a)) := rfl
@[simp] theorem conv_ss (h : Heap) (s : List UInt8) : convV h .ss (.str s) = some (.str s) := rfl
@[simp] theorem conv_sb (h : Heap) (s : List UInt8) : convV h .sb (.str s) = some (.ps 1 (s.map byteV)) := rfl
@[simp] theorem conv_bs (h : Heap) (xs : List V) : convV h .bs (.ps 1 xs) = (toBytes xs).map .str := rfl
@[simp] theorem conv_bn (h : Heap) (s : Nat) : convV h .bs (.hn s) = some (.str []) := rfl
end

@[simp] theorem mx_max (k l : IntKind) (a b : Int) : mxV true [.int k a, .int l b] = some (.int k (max a b)) := by
  simp only [mxV, List.foldlM_cons, mx2, List.foldlM_nil, if_true]
  show some _ = some _
  congr 2; split <;> omega
@[simp] theorem mx_min (k l : IntKind) (a b : Int) : mxV false [.int k a, .int l b] = some (.int k (min a b)) := by
  simp only [mxV, List.foldlM_cons, mx2, List.foldlM_nil, Bool.false_eq_true, if_false]
  show some _ = some _
  congr 2; split <;> omega

/-! ### memory -/
@[simp] theorem get_zero {α : Type} (a : α) (l : List α) : (a :: l)[0]? = some a := by simp
@[simp] theorem get_succ {α : Type} (a : α) (l : List α) (i : Nat) : (a :: l)[i + 1]? = l[i]? := by simp
@[simp] theorem part0 (off : Nat) (cs : List V) : partV off 0 cs = cs[off]? := by simp [partV]
@[simp] theorem part_succ (off sz : Nat) (cs : List V) : partV off (sz + 1) cs = if off + (sz + 1) ≤ cs.length then some (.agg ((cs.drop off).take (sz + 1))) else none := by simp [partV]
@[simp] theorem load_rp (h : Heap) (sz : Nat) (cs : List V) : loadV h sz (.rp cs) = partV 0 sz cs := rfl
@[simp] theorem load_ptr (h : Heap) (sz b off : Nat) : loadV h sz (.ptr b off) = (h.row b).bind fun cs => partV off sz cs := rfl
@[simp] theorem store_ptr (h : Heap) (n b off : Nat) (x : V) : storeV h n (.ptr b off) x = (h.row b).bind fun cs =>
    if x.cells.length = n ∧ off + n ≤ cs.length ∧ x.cells.all V.one = true then some (h.set b (some (spliceL cs off x.cells))) else none := rfl
@[simp] theorem nilck_ptr (b off : Nat) : nilckV (.ptr b off) = some (.ptr b off) := rfl
@[simp] theorem nilck_rp (cs : List V) : nilckV (.rp cs) = some (.rp cs) := rfl
@[simp] theorem nilck_fn (f : Nat) (cs : List V) : nilckV (.fn f cs) = some (.fn f cs) := rfl
@[simp] theorem fa_ptr (off b o : Nat) : faV off (.ptr b o) = some (.ptr b (o + off)) := rfl
@[simp] theorem fa_rp (off : Nat) (cs : List V) : faV off (.rp cs) = some (.rp (cs.drop off)) := rfl
@[simp] theorem ia_ps {s : Nat} {xs : List V} {k : IntKind} {n : Int} (h : 0 ≤ n) : iaV (.sl s) (.ps s xs) (.int k n) = (xs[n.toNat]?).map fun x => .rp x.cells := by simp [iaV, h]
@[simp] theorem ia_hs {s b off len : Nat} {k : IntKind} {n : Int} (h : 0 ≤ n) (h' : n < len) : iaV (.sl s) (.hs s b off len) (.int k n) = some (.ptr b (off + n.toNat * s)) := by simp [iaV, h, h']
@[simp] theorem ia_ap {s b off len : Nat} {k : IntKind} {n : Int} (h : 0 ≤ n) (h' : n < len) : iaV (.arr len s) (.ptr b off) (.int k n) = some (.ptr b (off + n.toNat * s)) := by simp [iaV, h, h']
@[simp] theorem ia_ar {s len : Nat} {cs : List V} {k : IntKind} {n : Int} (h : 0 ≤ n) (h' : n < len) : iaV (.arr len s) (.rp cs) (.int k n) = some (.rp (cs.drop (n.toNat * s))) := by simp [iaV, h, h']
@[simp] theorem idx_str {s : List UInt8} {sz : Nat} {k : IntKind} {n : Int} (h : 0 ≤ n) : idxV .str sz (.str s) (.int k n) = (s[n.toNat]?).map byteV := by simp [idxV, h]
@[simp] theorem idx_arr {s sz len : Nat} {cs : List V} {k : IntKind} {n : Int} (h : 0 ≤ n) (h' : n < len) : idxV (.arr len s) sz (.agg cs) (.int k n) = partV (n.toNat * s) sz cs := by simp [idxV, h, h']
@[simp] theorem fld_agg (off sz : Nat) (cs : List V) : fldV off sz (.agg cs) = partV off sz cs := rfl
@[simp] theorem ext_tup (vs : List V) (i : Nat) : extV (.tup vs) i = vs[i]? := rfl
@[simp] theorem len_str (s : List UInt8) : lenV true (.str s) = some (.int .i64 s.length) := rfl
@[simp] theorem len_ps (s : Nat) (xs : List V) : lenV false (.ps s xs) = some (.int .i64 xs.length) := rfl
@[simp] theorem len_hs (s b off len : Nat) : lenV false (.hs s b off len) = some (.int .i64 len) := rfl
@[simp] theorem len_hn (s : Nat) : lenV false (.hn s) = some (.int .i64 0) := rfl
@[simp] theorem cells_bool (b : Bool) : V.cells (.bool b) = [.bool b] := rfl
@[simp] theorem cells_int (k : IntKind) (n : Int) : V.cells (.int k n) = [.int k n] := rfl
@[simp] theorem cells_str (s : List UInt8) : V.cells (.str s) = [.str s] := rfl
@[simp] theorem cells_nilp : V.cells .nilp = [.nilp] := rfl
@[simp] theorem cells_ptr (b o : Nat) : V.cells (.ptr b o) = [.ptr b o] := rfl
@[simp] theorem cells_rp (cs : List V) : V.cells (.rp cs) = [.rp cs] := rfl
@[simp] theorem cells_ps (s : Nat) (cs : List V) : V.cells (.ps s cs) = [.ps s cs] := rfl
@[simp] theorem cells_hs (s b o l : Nat) : V.cells (.hs s b o l) = [.hs s b o l] := rfl
@[simp] theorem cells_hn (s : Nat) : V.cells (.hn s) = [.hn s] := rfl
@[simp] theorem cells_agg (cs : List V) : V.cells (.agg cs) = cs := rfl
@[simp] theorem cells_tup (cs : List V) : V.cells (.tup cs) = [.tup cs] := rfl
@[simp] theorem cells_iface (t : Nat) (v : V) : V.cells (.iface t v) = [.iface t v] := rfl
@[simp] theorem cells_nili : V.cells .nili = [.nili] := rfl
@[simp] theorem cells_nilf : V.cells .nilf = [.nilf] := rfl
@[simp] theorem cells_fn (f : Nat) (cs : List V) : V.cells (.fn f cs) = [.fn f cs] := rfl
@[simp] theorem one_bool (b : Bool) : V.one (.bool b) = true := rfl
@[simp] theorem one_int (k : IntKind) (n : Int) : V.one (.int k n) = true := rfl
@[simp] theorem one_str (s : List UInt8) : V.one (.str s) = true := rfl
@[simp] theorem one_nilp : V.one .nilp = true := rfl
@[simp] theorem one_ptr (b o : Nat) : V.one (.ptr b o) = true := rfl
@[simp] theorem one_rp (cs : List V) : V.one (.rp cs) = true := rfl
@[simp] theorem one_ps (s : Nat) (cs : List V) : V.one (.ps s cs) = true := rfl
@[simp] theorem one_hs (s b o l : Nat) : V.one (.hs s b o l) = true := rfl
@[simp] theorem one_hn (s : Nat) : V.one (.hn s) = true := rfl
@[simp] theorem one_iface (t : Nat) (v : V) : V.one (.iface t v) = true := rfl
@[simp] theorem one_nili : V.one .nili = true := rfl
@[simp] theorem one_nilf : V.one .nilf = true := rfl
@[simp] theorem one_fn (f : Nat) (cs : List V) : V.one (.fn f cs) = true := rfl
@[simp] theorem hf_bool (b : Bool) : V.hf (.bool b) = true := rfl
@[simp] theorem hf_int (k : IntKind) (n : Int) : V.hf (.int k n) = true := rfl
@[simp] theorem hf_str (s : List UInt8) : V.hf (.str s) = true := rfl
@[simp] theorem hf_nilp : V.hf .nilp = true := rfl
@[simp] theorem hf_nili : V.hf .nili = true := rfl
@[simp] theorem hf_nilf : V.hf .nilf = true := rfl
@[simp] theorem hf_hn (s : Nat) : V.hf (.hn s) = true := rfl
@[simp] theorem hf_ptr (b o : Nat) : V.hf (.ptr b o) = false := rfl
@[simp] theorem hf_rp (cs : List V) : V.hf (.rp cs) = V.hfs cs := by rw [V.hf]
@[simp] theorem hf_ps (s : Nat) (cs : List V) : V.hf (.ps s cs) = V.hfs cs := by rw [V.hf]
@[simp] theorem hf_agg (cs : List V) : V.hf (.agg cs) = V.hfs cs := by rw [V.hf]
@[simp] theorem hf_tup (cs : List V) : V.hf (.tup cs) = V.hfs cs := by rw [V.hf]
@[simp] theorem hf_iface (t : Nat) (v : V) : V.hf (.iface t v) = v.hf := by rw [V.hf]
@[simp] theorem hf_fn (f : Nat) (cs : List V) : V.hf (.fn f cs) = V.hfs cs := by rw [V.hf]
@[simp] theorem hfs_nil : V.hfs [] = true := rfl
@[simp] theorem hfs_cons (x : V) (r : List V) : V.hfs (x :: r) = (x.hf && V.hfs r) := by rw [V.hfs]
theorem hfs_iff : ∀ (xs : List V), V.hfs xs = true ↔ ∀ x ∈ xs, x.hf = true
  | [] => by simp
  | x :: r => by simp [hfs_iff r]
@[simp] theorem hfs_append (xs ys : List V) : V.hfs (xs ++ ys) = (V.hfs xs && V.hfs ys) := by
  rw [Bool.eq_iff_iff, Bool.and_eq_true, hfs_iff, hfs_iff, hfs_iff]
  simp only [List.mem_append]
  exact ⟨fun h => ⟨fun x hx => h x (.inl hx), fun x hx => h x (.inr hx)⟩, fun h x hx => hx.elim (h.1 x) (h.2 x)⟩
theorem hfs_map {α : Type} (f : α → V) (hf : ∀ a, (f a).hf = true) (l : List α) : V.hfs (l.map f) = true := (hfs_iff _).2 (by simpa using fun a _ => hf a)

/-! ### rows -/
section
variable {h : Heap} {s bytes : Nat} {xs ys : List V} {t u : List UInt8} {k l m : IntKind} {a b c : Int}
theorem app_ps' (hb : (xs.length + ys.length) * bytes ≤ 140737488355328) : appV h s bytes (.ps s xs) (.ps s ys) = some (.ps s (xs ++ ys)) := by
  simp only [appV, newEls, if_true, Option.bind_some]; rw [if_pos hb]
@[simp] theorem app_hn : appV h s bytes (.ps s xs) (.hn s) = (if xs.length * bytes ≤ 140737488355328 then some (.ps s xs) else none) := by
  simp [appV, newEls]
theorem app_str' (hb : xs.length + t.length ≤ 140737488355328) : appV h 1 1 (.ps 1 xs) (.str t) = some (.ps 1 (xs ++ t.map byteV)) := by
  simp only [appV, newEls, if_true, Option.bind_some]; rw [if_pos (by simpa using hb)]
@[simp] theorem sl_ps0 : slV (.sl s) (.ps s xs) none none none = some (.ps s xs) := by simp [slV, bndO]
theorem sl_pslo' (h1 : 0 ≤ a) (h2 : a ≤ xs.length) : slV (.sl s) (.ps s xs) (some (.int k a)) none none = some (.ps s (xs.drop a.toNat)) := by
  simp [slV, bndO, bndV, h1, h2]
theorem sl_pshi' (h1 : 0 ≤ b) (h2 : b ≤ xs.length) : slV (.sl s) (.ps s xs) none (some (.int k b)) none = some (.ps s (xs.take b.toNat)) := by
  simp [slV, bndO, bndV, h1, h2]
theorem sl_pslh' (h1 : 0 ≤ a) (h2 : a ≤ b) (h3 : b ≤ xs.length) : slV (.sl s) (.ps s xs) (some (.int k a)) (some (.int l b)) none = some (.ps s ((xs.take b.toNat).drop a.toNat)) := by
  have h0 : 0 ≤ b := by omega
  have h4 : a ≤ (b.toNat : Int) := by omega
  simp only [slV, bndO, bndV, h0, h1, h3, h4, Option.isSome_none, Bool.false_eq_true, false_implies, and_self, if_true, Option.bind_some]
theorem sl_psx' (h1 : 0 ≤ a) (h2 : a ≤ b) (h3 : b ≤ c) (h4 : c ≤ xs.length) : slV (.sl s) (.ps s xs) (some (.int k a)) (some (.int l b)) (some (.int m c)) = some (.ps s ((xs.take b.toNat).drop a.toNat)) := by
  have h0 : 0 ≤ b := by omega
  have h6 : 0 ≤ c := by omega
  have h5 : a ≤ (b.toNat : Int) := by omega
  have h7 : b ≤ (c.toNat : Int) := by omega
  simp only [slV, bndO, bndV, h0, h1, h5, h6, h7, h4, Option.isSome_some, imp_self, and_self, if_true, Option.bind_some]
theorem sl_psxn' (h2 : 0 ≤ b) (h3 : b ≤ c) (h4 : c ≤ xs.length) : slV (.sl s) (.ps s xs) none (some (.int l b)) (some (.int m c)) = some (.ps s (xs.take b.toNat)) := by
  have h6 : 0 ≤ c := by omega
  have h7 : b ≤ (c.toNat : Int) := by omega
  have h0 : (0 : Int) ≤ 0 := by omega
  have h8 : (0 : Int) ≤ (b.toNat : Int) := by omega
  simp only [slV, bndO, bndV, h2, h6, h7, h4, Option.isSome_some, imp_self, and_self, if_true, Option.bind_some, List.drop_zero]
@[simp] theorem sl_str0 : slV .str (.str t) none none none = some (.str t) := by simp [slV, bndO]
theorem sl_strlo' (h1 : 0 ≤ a) (h2 : a ≤ t.length) : slV .str (.str t) (some (.int k a)) none none = some (.str (t.drop a.toNat)) := by
  simp [slV, bndO, bndV, h1, h2]
theorem sl_strhi' (h1 : 0 ≤ b) (h2 : b ≤ t.length) : slV .str (.str t) none (some (.int k b)) none = some (.str (t.take b.toNat)) := by
  simp [slV, bndO, bndV, h1, h2]
theorem sl_strlh' (h1 : 0 ≤ a) (h2 : a ≤ b) (h3 : b ≤ t.length) : slV .str (.str t) (some (.int k a)) (some (.int l b)) none = some (.str ((t.take b.toNat).drop a.toNat)) := by
  have h0 : 0 ≤ b := by omega
  have h4 : a ≤ (b.toNat : Int) := by omega
  simp only [slV, bndO, bndV, h0, h1, h3, h4, Option.isSome_none, Bool.false_eq_true, if_false, and_self, if_true, Option.bind_some]
@[simp] theorem app_ps : appV h s bytes (.ps s xs) (.ps s ys) = if (xs.length + ys.length) * bytes ≤ 140737488355328 then some (.ps s (xs ++ ys)) else none := by
  simp only [appV, newEls, if_true, Option.bind_some]
@[simp] theorem app_str : appV h 1 1 (.ps 1 xs) (.str t) = if xs.length + t.length ≤ 140737488355328 then some (.ps 1 (xs ++ t.map byteV)) else none := by
  simp only [appV, newEls, if_true, Option.bind_some, List.length_map, Nat.mul_one]
theorem bnd_if (n : Nat) (k : IntKind) (a : Int) : bndV n (.int k a) = if 0 ≤ a ∧ a ≤ n then some a.toNat else none := rfl
@[simp] theorem sl_pslo : slV (.sl s) (.ps s xs) (some (.int k a)) none none = if 0 ≤ a ∧ a ≤ xs.length then some (.ps s (xs.drop a.toNat)) else none := by
  by_cases hc : 0 ≤ a ∧ a ≤ xs.length
  · rw [if_pos hc]; exact sl_pslo' hc.1 hc.2
  · rw [if_neg hc]; simp only [slV, bndO, bnd_if, if_neg hc, Option.isSome_none, Bool.false_eq_true, false_implies, and_self, if_true, Option.bind_some, Option.bind_none]
@[simp] theorem sl_pshi : slV (.sl s) (.ps s xs) none (some (.int k b)) none = if 0 ≤ b ∧ b ≤ xs.length then some (.ps s (xs.take b.toNat)) else none := by
  by_cases hc : 0 ≤ b ∧ b ≤ xs.length
  · rw [if_pos hc]; exact sl_pshi' hc.1 hc.2
  · rw [if_neg hc]; simp only [slV, bndO, bnd_if, if_neg hc, Option.isSome_none, Bool.false_eq_true, false_implies, and_self, if_true, Option.bind_some, Option.bind_none]
@[simp] theorem sl_pslh : slV (.sl s) (.ps s xs) (some (.int k a)) (some (.int l b)) none = if 0 ≤ a ∧ a ≤ b ∧ b ≤ xs.length then some (.ps s ((xs.take b.toNat).drop a.toNat)) else none := by
  by_cases hc : 0 ≤ a ∧ a ≤ b ∧ b ≤ xs.length
  · rw [if_pos hc]; exact sl_pslh' hc.1 hc.2.1 hc.2.2
  · rw [if_neg hc]
    by_cases h1 : 0 ≤ b ∧ b ≤ xs.length
    · have h2 : ¬ (0 ≤ a ∧ a ≤ b.toNat) := by omega
      simp only [slV, bndO, bnd_if, if_pos h1, if_neg h2, Option.isSome_none, Bool.false_eq_true, false_implies, and_self, if_true, Option.bind_some, Option.bind_none]
    · simp only [slV, bndO, bnd_if, if_neg h1, Option.isSome_none, Bool.false_eq_true, false_implies, and_self, if_true, Option.bind_some, Option.bind_none]
@[simp] theorem sl_psx : slV (.sl s) (.ps s xs) (some (.int k a)) (some (.int l b)) (some (.int m c)) = if 0 ≤ a ∧ a ≤ b ∧ b ≤ c ∧ c ≤ xs.length then some (.ps s ((xs.take b.toNat).drop a.toNat)) else none := by
  by_cases hc : 0 ≤ a ∧ a ≤ b ∧ b ≤ c ∧ c ≤ xs.length
  · rw [if_pos hc]; exact sl_psx' hc.1 hc.2.1 hc.2.2.1 hc.2.2.2
  · rw [if_neg hc]
    by_cases h0 : 0 ≤ c ∧ c ≤ xs.length
    · by_cases h1 : 0 ≤ b ∧ b ≤ c.toNat
      · have h2 : ¬ (0 ≤ a ∧ a ≤ b.toNat) := by omega
        simp only [slV, bndO, bnd_if, if_pos h0, if_pos h1, if_neg h2, Option.isSome_some, imp_self, and_self, if_true, Option.bind_some, Option.bind_none]
      · simp only [slV, bndO, bnd_if, if_pos h0, if_neg h1, Option.isSome_some, imp_self, and_self, if_true, Option.bind_some, Option.bind_none]
    · simp only [slV, bndO, bnd_if, if_neg h0, Option.isSome_some, imp_self, and_self, if_true, Option.bind_some, Option.bind_none]
@[simp] theorem sl_psxn : slV (.sl s) (.ps s xs) none (some (.int l b)) (some (.int m c)) = if 0 ≤ b ∧ b ≤ c ∧ c ≤ xs.length then some (.ps s (xs.take b.toNat)) else none := by
  by_cases hc : 0 ≤ b ∧ b ≤ c ∧ c ≤ xs.length
  · rw [if_pos hc]; exact sl_psxn' hc.1 hc.2.1 hc.2.2
  · rw [if_neg hc]
    by_cases h0 : 0 ≤ c ∧ c ≤ xs.length
    · have h1 : ¬ (0 ≤ b ∧ b ≤ c.toNat) := by omega
      simp only [slV, bndO, bnd_if, if_pos h0, if_neg h1, Option.isSome_some, imp_self, and_self, if_true, Option.bind_some, Option.bind_none]
    · simp only [slV, bndO, bnd_if, if_neg h0, Option.isSome_some, imp_self, and_self, if_true, Option.bind_some, Option.bind_none]
@[simp] theorem sl_strlo : slV .str (.str t) (some (.int k a)) none none = if 0 ≤ a ∧ a ≤ t.length then some (.str (t.drop a.toNat)) else none := by
  by_cases hc : 0 ≤ a ∧ a ≤ t.length
  · rw [if_pos hc]; exact sl_strlo' hc.1 hc.2
  · rw [if_neg hc]; simp only [slV, bndO, bnd_if, if_neg hc, Option.isSome_none, Bool.false_eq_true, if_false, Option.bind_some, Option.bind_none]
@[simp] theorem sl_strhi : slV .str (.str t) none (some (.int k b)) none = if 0 ≤ b ∧ b ≤ t.length then some (.str (t.take b.toNat)) else none := by
  by_cases hc : 0 ≤ b ∧ b ≤ t.length
  · rw [if_pos hc]; exact sl_strhi' hc.1 hc.2
  · rw [if_neg hc]; simp only [slV, bndO, bnd_if, if_neg hc, Option.isSome_none, Bool.false_eq_true, if_false, Option.bind_some, Option.bind_none]
@[simp] theorem sl_strlh : slV .str (.str t) (some (.int k a)) (some (.int l b)) none = if 0 ≤ a ∧ a ≤ b ∧ b ≤ t.length then some (.str ((t.take b.toNat).drop a.toNat)) else none := by
  by_cases hc : 0 ≤ a ∧ a ≤ b ∧ b ≤ t.length
  · rw [if_pos hc]; exact sl_strlh' hc.1 hc.2.1 hc.2.2
  · rw [if_neg hc]
    by_cases h1 : 0 ≤ b ∧ b ≤ t.length
    · have h2 : ¬ (0 ≤ a ∧ a ≤ b.toNat) := by omega
      simp only [slV, bndO, bnd_if, if_pos h1, if_neg h2, Option.isSome_none, Bool.false_eq_true, if_false, Option.bind_some, Option.bind_none]
    · simp only [slV, bndO, bnd_if, if_neg h1, Option.isSome_none, Bool.false_eq_true, if_false, Option.bind_some, Option.bind_none]
@[simp] theorem mksl_some {z : V} (h0 : 0 ≤ a) (h1 : a ≤ b) (h2 : b * bytes ≤ 140737488355328) (h3 : b < 9223372036854775808) : mkslV z.cells.length bytes z (.int k a) (.int l b) = some (a.toNat, b.toNat) := by
  simp only [mkslV]; rw [if_pos]; exact ⟨h0, h1, h2, h3, trivial⟩
theorem mksl_z {z : V} (hz : z.cells.length = s) (h0 : 0 ≤ a) (h1 : a ≤ b) (h2 : b * bytes ≤ 140737488355328) (h3 : b < 9223372036854775808) : mkslV s bytes z (.int k a) (.int l b) = some (a.toNat, b.toNat) := by
  subst hz; exact mksl_some h0 h1 h2 h3
@[simp] theorem mksl_bool {t : Bool} (h0 : 0 ≤ a) (h1 : a ≤ b) (h2 : b * bytes ≤ 140737488355328) (h3 : b < 9223372036854775808) : mkslV 1 bytes (.bool t) (.int k a) (.int l b) = some (a.toNat, b.toNat) := mksl_z rfl h0 h1 h2 h3
@[simp] theorem mksl_int {n : Int} {i : IntKind} (h0 : 0 ≤ a) (h1 : a ≤ b) (h2 : b * bytes ≤ 140737488355328) (h3 : b < 9223372036854775808) : mkslV 1 bytes (.int i n) (.int k a) (.int l b) = some (a.toNat, b.toNat) := mksl_z rfl h0 h1 h2 h3
@[simp] theorem mksl_ps {n : Nat} {vs : List V} (h0 : 0 ≤ a) (h1 : a ≤ b) (h2 : b * bytes ≤ 140737488355328) (h3 : b < 9223372036854775808) : mkslV 1 bytes (.ps n vs) (.int k a) (.int l b) = some (a.toNat, b.toNat) := mksl_z rfl h0 h1 h2 h3
@[simp] theorem mksl_str {t : List UInt8} (h0 : 0 ≤ a) (h1 : a ≤ b) (h2 : b * bytes ≤ 140737488355328) (h3 : b < 9223372036854775808) : mkslV 1 bytes (.str t) (.int k a) (.int l b) = some (a.toNat, b.toNat) := mksl_z rfl h0 h1 h2 h3
@[simp] theorem flat_nil : flat [] = [] := rfl
@[simp] theorem flat_cons (x : V) (r : List V) : flat (x :: r) = x.cells ++ flat r := rfl
theorem flat_one : ∀ (xs : List V), (∀ x ∈ xs, x.cells = [x]) → flat xs = xs
  | [], _ => rfl
  | x :: r, hx => by rw [flat_cons, hx x (by simp), flat_one r fun y hy => hx y (by simp [hy])]; rfl
@[simp] theorem flat_rep_bool (n : Nat) (t : Bool) : flat (List.replicate n (.bool t)) = List.replicate n (.bool t) := flat_one _ fun x hx => by rw [List.eq_of_mem_replicate hx]; rfl
@[simp] theorem flat_rep_int (n : Nat) (i : IntKind) (a : Int) : flat (List.replicate n (.int i a)) = List.replicate n (.int i a) := flat_one _ fun x hx => by rw [List.eq_of_mem_replicate hx]; rfl
@[simp] theorem spliceL_nil (cs : List V) (off : Nat) : spliceL cs off [] = cs := by simp [spliceL]
@[simp] theorem build_nil (z : List V) : buildV z [] = some (.agg z) := rfl
@[simp] theorem build_cons (z : List V) (off sz : Nat) (v : V) (r : List (Nat × Nat × V)) : buildV z ((off, sz, v) :: r) = if v.cells.length = sz ∧ off + sz ≤ z.length then buildV (spliceL z off v.cells) r else none := rfl
end

def ints (l : List Int) : List V := l.map (V.int .i64 ·)
theorem ints_len (l : List Int) : (ints l).length = l.length := by simp [ints]
theorem ints_get (l : List Int) (i : Nat) : (ints l)[i]? = (l[i]?).map (V.int .i64 ·) := by simp [ints]
theorem ints_hfs (l : List Int) : V.hfs (ints l) = true := hfs_map _ (fun _ => rfl) _

/-! ### the heap -/
theorem row_some {h : Heap} {b : Nat} {cs : List V} (hr : h.row b = some cs) : h[b]? = some (some cs) := by
  unfold Heap.row at hr
  cases hh : h[b]? with
  | none => rw [hh] at hr; cases hr
  | some o => rw [hh] at hr; simp at hr; rw [hr]
theorem row_lt {h : Heap} {b : Nat} {cs : List V} (hr : h.row b = some cs) : b < h.length := (List.getElem?_eq_some_iff.1 (row_some hr)).1
@[simp] theorem row_app {h : Heap} {b : Nat} {l : Heap} (hb : b < h.length) : Heap.row (h ++ l) b = h.row b := by
  unfold Heap.row; rw [List.getElem?_append_left hb]
@[simp] theorem row_new {h : Heap} {o : Option (List V)} : Heap.row (h ++ [o]) h.length = o := by
  unfold Heap.row; rw [List.getElem?_append_right (Nat.le_refl _)]; simp
@[simp] theorem row_set {h : Heap} {b : Nat} {o : Option (List V)} (hb : b < h.length) : Heap.row (h.set b o) b = o := by
  unfold Heap.row; rw [List.getElem?_set_self hb]; simp
@[simp] theorem row_ne {h : Heap} {b c : Nat} {o : Option (List V)} (hb : b ≠ c) : Heap.row (h.set b o) c = h.row c := by
  unfold Heap.row; rw [List.getElem?_set_ne hb]
@[simp] theorem row_zero (o : Option (List V)) (h : Heap) : Heap.row (o :: h) 0 = o := by simp [Heap.row]
@[simp] theorem row_succ (o : Option (List V)) (h : Heap) (n : Nat) : Heap.row (o :: h) (n + 1) = h.row n := by simp [Heap.row]
@[simp] theorem splice_succ (a : V) (l : List V) (n : Nat) (new : List V) : spliceL (a :: l) (n + 1) new = a :: spliceL l n new := by
  simp [spliceL, Nat.add_right_comm]
@[simp] theorem splice_zero (a x : V) (l : List V) (new : List V) : spliceL (a :: l) 0 (x :: new) = x :: spliceL l 0 new := by
  simp [spliceL]
@[simp] theorem splice1 {cs : List V} {off : Nat} {x : V} (h : off < cs.length) : spliceL cs off [x] = cs.set off x := by
  unfold spliceL
  rw [List.set_eq_take_append_cons_drop, if_pos h]
  simp

/-! ### results -/
@[simp] theorem resVs_nil (e : Env) (h : Heap) : resVs e h [] = some [] := rfl
@[simp] theorem resVs_cons (e : Env) (h : Heap) (r : RV) (rs : List RV) : resVs e h (r :: rs) = (resV e h r).bind fun v => (resVs e h rs).bind fun vs => some (v :: vs) := rfl
@[simp] theorem resV_t (e : Env) (h : Heap) (i : Nat) : resV e h (.t i) = e.get i := rfl
@[simp] theorem resV_c (e : Env) (h : Heap) (i sz : Nat) : resV e h (.c i sz) = (e.get i).bind fun a => loadV h sz a := rfl
@[simp] theorem freezes_none : ∀ (i : Nat) (vs : List V) (h : Heap), freezes [] i vs h = some (vs, h)
  | _, [], _ => rfl
  | i, v :: r, h => by simp [freezes, freezes_none (i + 1) r h]
@[simp] theorem pack_one (v : V) : pack [v] = v := rfl
@[simp] theorem pack_nil : pack [] = .tup [] := rfl
@[simp] theorem pack_two (v u : V) (vs : List V) : pack (v :: u :: vs) = .tup (v :: u :: vs) := rfl
attribute [simp] args lend lents evParts evO List.lookup

/-! ### appending to written slices; giving them up -/
@[simp] theorem newCells_ps (h : Heap) (s : Nat) (xs : List V) : newCells h s (.ps s xs) = some (flat xs) := by simp [newCells]
@[simp] theorem newCells_hn (h : Heap) (s : Nat) : newCells h s (.hn s) = some [] := by simp [newCells]
@[simp] theorem newCells_str (h : Heap) (t : List UInt8) : newCells h 1 (.str t) = some (t.map byteV) := by simp [newCells]
@[simp] theorem newCells_hs (h : Heap) (s b off len : Nat) : newCells h s (.hs s b off len) = hsCells h s b off len := by simp [newCells]
@[simp] theorem appH_hs (h : Heap) (s bytes b off len : Nat) (y : V) : appH h s bytes (.hs s b off len) y = (h.row b).bind fun cs => (newCells h s y).bind fun new =>
    if off + len * s = cs.length ∧ (cs.length + new.length) * bytes ≤ 140737488355328 then some (.hs s h.length 0 (len + new.length / s), (h.set b none) ++ [some (cs.drop off ++ new)]) else none := by simp [appH]
@[simp] theorem appH_hn (h : Heap) (s bytes : Nat) (y : V) : appH h s bytes (.hn s) y = (newCells h s y).bind fun new =>
    if new.length = 0 then some (.hn s, h) else if new.length * bytes ≤ 140737488355328 then some (.hs s h.length 0 (new.length / s), h ++ [some new]) else none := by simp [appH]
theorem hs_cells {h : Heap} {s b off len : Nat} {cs : List V} (hr : h.row b = some cs) (hl : off + len * s ≤ cs.length) : hsCells h s b off len = some ((cs.drop off).take (len * s)) := by
  simp [hsCells, hr, hl]
theorem chunk1 : ∀ (n : Nat) (cs : List V), cs.length = n → chunk 1 false n cs = cs
  | 0, cs, h => by rw [List.eq_nil_of_length_eq_zero h]; rfl
  | n + 1, [], h => by simp at h
  | n + 1, x :: r, h => by
    show x :: chunk 1 false n r = x :: r
    rw [chunk1 n r (by simpa using h)]
theorem freeze_hs {h : Heap} {b : Nat} {cs : List V} (hr : h.row b = some cs) (h1 : cs.all V.one = true) : freeze1 false (.hs 1 b 0 cs.length) h = some (.ps 1 cs, h.set b none) := by
  have hc := hs_cells (s := 1) (off := 0) (len := cs.length) hr (by omega)
  simp only [List.drop_zero, Nat.mul_one, List.take_length] at hc
  simp only [freeze1, hc, Option.bind_some, chunkOk, h1, beq_self_eq_true, Bool.and_self, Bool.or_true, if_true, chunk1 _ _ rfl]
@[simp] theorem freezeA_hs (ag : Bool) (s b off len : Nat) (h : Heap) : freezeA ag (.hs s b off len) h = freeze1 ag (.hs s b off len) h := rfl
@[simp] theorem freezeA_hn (ag : Bool) (s : Nat) (h : Heap) : freezeA ag (.hn s) h = some (.ps s [], h) := rfl
@[simp] theorem freezeA_ps (ag : Bool) (s : Nat) (xs : List V) (h : Heap) : freezeA ag (.ps s xs) h = some (.ps s xs, h) := rfl
@[simp] theorem freezeA_agg (ag : Bool) (cs : List V) (h : Heap) : freezeA ag (.agg cs) h = (freezeC ag cs h).bind fun q => some (.agg q.1, q.2) := rfl
@[simp] theorem freeze_hn (ag : Bool) (s : Nat) (h : Heap) : freeze1 ag (.hn s) h = some (.ps s [], h) := rfl
@[simp] theorem freeze_ps (ag : Bool) (s : Nat) (xs : List V) (h : Heap) : freeze1 ag (.ps s xs) h = some (.ps s xs, h) := rfl
@[simp] theorem freezes_nil (frz : List (Nat × Bool)) (i : Nat) (h : Heap) : freezes frz i [] h = some ([], h) := rfl
@[simp] theorem freezes_cons (frz : List (Nat × Bool)) (i : Nat) (v : V) (r : List V) (h : Heap) : freezes frz i (v :: r) h = (match frz.lookup i with | some ag => freeze1 ag v h | none => some (v, h)).bind fun q =>
      (freezes frz (i + 1) r q.2).bind fun p => some (q.1 :: p.1, p.2) := rfl
theorem ints_one (l : List Int) : (ints l).all V.one = true := by simp [ints]
theorem flat_ints (l : List Int) : flat (ints l) = ints l := flat_one _ fun x hx => by
  obtain ⟨n, _, rfl⟩ := List.mem_map.1 hx; rfl

theorem Run.code {T : Table} {f : Nat} {k : ACode} {n : Nat} {res : List RV} {p r : List Nat} {frz : List (Nat × Bool)} {vs : List V} {h h' : Heap} {v : V} (hf : T f = some ⟨k, n, res, p, r, frz⟩)
    (hw : Wc T k (args 0 vs) h fun x e h1 => x.fin (opt (resVs e h1 res) fun us => opt (freezes frz 0 us h1) fun r => pack r.1 = v ∧ r.2 = h')) : Run T f vs h v h' := by
  refine Run.of hf ?_
  obtain ⟨n, x, e, h1, hr, hk⟩ := hw
  refine ⟨n, x, e, h1, hr, ?_⟩
  have key : (opt (resVs e h1 res) fun us => opt (freezes frz 0 us h1) fun r => pack r.1 = v ∧ r.2 = h') → opt (epi ⟨k, ‹_›, res, p, r, frz⟩ e h1) fun r => r = (v, h') := by
    rintro ⟨us, h2, ⟨q, g⟩, h3, h4, h5⟩
    exact ⟨(v, h'), by simp only [epi, h2, h3, Option.bind_some]; rw [← h4, ← h5], rfl⟩
  cases x with
  | x i => exact hk
  | n => exact key hk
  | r => exact key hk

end Ev

/-! Ev, part 2I: stepping through code, the rest of the code kept as plain data. -/
namespace Ev
open Go

/-- What is still to do behind a piece of code. -/
inductive Kt where
  | seq (b : ACode)
  | block (id : Nat)

def Xk (T : Table) : List Kt → Ex → Env → Heap → (Ex → Env → Heap → Prop) → Prop
  | [], x, e, h, Q => Q x e h
  | .seq b :: ks, x, e, h, Q => x.sq (Wc T b e h fun x e h => Xk T ks x e h Q) (Xk T ks x e h Q)
  | .block id :: ks, x, e, h, Q => Xk T ks (x.unb id) e h Q
def Xc (T : Table) (c : ACode) (ks : List Kt) (e : Env) (h : Heap) (Q : Ex → Env → Heap → Prop) : Prop := Wc T c e h fun x e h => Xk T ks x e h Q
/-- What is kept behind a region; and where readings lie that no order fixes: they are held against the states met. -/
inductive Kp where
  | k (keep : List Nat)
  | f (keep : List Nat) (fl : List (Nat × Nat × Nat)) (ops : List AOpr) (acc : List (Env × Heap))
def Kp.push (K : Kp) (e : Env) (h : Heap) : Kp := match K with
  | .k keep => .k keep
  | .f keep fl ops acc => .f keep fl ops ((e, h) :: acc)
def noK (T : Table) : Callee := ⟨fun _ _ _ => none, T.free⟩
def flagW (w : Option Bool) (P : Prop) : Prop := w = some true → P
def eqv (r : Option (V × Heap)) (v : V) : Prop := r.map Prod.fst = some v
def flag3 (T : Table) (op : AOp) (e : Env) (v : V) : List Heap → Prop
  | [] => True
  | h :: r => eqv (evOp (noK T) op e h) v ∧ flag3 T op e v r
def flag2 (T : Table) (op : AOp) (e : Env) (r : Option (V × Heap)) (hs : List Heap) : Prop := opt r fun q => flag3 T op e q.1 hs
def flag1 (T : Table) (o : Option AOpr) (q : Option (Env × Heap)) (hs : List Heap) : Prop :=
  opt o fun o => opt q fun q => flagW (wantedA o.guard q.1) (flag2 T o.op q.1 (evOp (noK T) o.op q.1 q.2) hs)
def flagP (T : Table) (ops : List AOpr) (tr : List (Env × Heap)) (f : Nat × Nat × Nat) : Prop :=
  flag1 T ops[f.1]? tr[f.1]? (((tr.drop f.2.1).take (f.2.2 + 1 - f.2.1)).map Prod.snd) ∧ f.2.1 ≤ f.2.2 + 1 ∧ f.2.2 < tr.length
def flagsIn (T : Table) (ops : List AOpr) (tr : List (Env × Heap)) (fl : List (Nat × Nat × Nat)) : Prop := ∀ f ∈ fl, flagP T ops tr f
def Kp.fin (T : Table) (K : Kp) (ks : List Kt) (e : Env) (h : Heap) (Q : Ex → Env → Heap → Prop) : Prop := match K with
  | .k keep => Xk T ks .n (e.keep keep) h Q
  | .f keep fl ops acc => flagsIn T ops ((e, h) :: acc).reverse fl ∧ Xk T ks .n (e.keep keep) h Q
def Xo (T : Table) : List AOpr → Kp → List Kt → Env → Heap → (Ex → Env → Heap → Prop) → Prop
  | [], K, ks, e, h, Q => K.fin T ks e h Q
  | o :: r, K, ks, e, h, Q => opt (wantedA o.guard e) fun w => br w (W1 T o.op e h fun v h' => Xo T r (K.push e h) ks (e.put o.dst v) h' Q) (Xo T r (K.push e h) ks (e.put o.dst (.tup [])) h Q)
/-- An operation has yielded r. -/
def Xr (T : Table) (r : Option (V × Heap)) (d : Option Nat) (ops : List AOpr) (K : Kp) (ks : List Kt) (e : Env) (Q : Ex → Env → Heap → Prop) : Prop := opt r fun q => Xo T ops K ks (e.put d q.1) q.2 Q
/-- A guarded operation: is it wanted? -/
def Xg (T : Table) (t : Option Bool) (op : AOp) (d : Option Nat) (ops : List AOpr) (K : Kp) (ks : List Kt) (e : Env) (h : Heap) (Q : Ex → Env → Heap → Prop) : Prop :=
  opt t fun t => br t (Xo T (⟨d, op, none⟩ :: ops) K ks e h Q) (Xo T ops (K.push e h) ks (e.put d (.tup [])) h Q)
/-- Which of two codes? -/
def Xb (T : Table) (t : Option Bool) (a b : ACode) (ks : List Kt) (e : Env) (h : Heap) (Q : Ex → Env → Heap → Prop) : Prop := opt t fun t => br t (Xc T a ks e h Q) (Xc T b ks e h Q)
/-- A call. -/
def Xf (T : Table) (f : Nat) (vs : Option (List V)) (h : Heap) (d : Option Nat) (ops : List AOpr) (K : Kp) (ks : List Kt) (e : Env) (Q : Ex → Env → Heap → Prop) : Prop :=
  opt vs fun vs => Call T f vs h fun v h' => Xo T ops K ks (e.put d v) h' Q
/-- A call that sees nothing of the heap. -/
def Xp (T : Table) (f : Nat) (vs : Option (List V × Bool)) (h : Heap) (d : Option Nat) (ops : List AOpr) (K : Kp) (ks : List Kt) (e : Env) (Q : Ex → Env → Heap → Prop) : Prop :=
  opt vs fun q => Callp T f q.1 q.2 fun v => Xo T ops K ks (e.put d v) h Q
/-- A function value is called. -/
def Xv (T : Table) (x : Option V) (vs : Option (List V)) (h : Heap) (d : Option Nat) (ops : List AOpr) (K : Kp) (ks : List Kt) (e : Env) (Q : Ex → Env → Heap → Prop) : Prop :=
  opt x fun x => opt vs fun vs => Callv T x vs h fun v h' => Xo T ops K ks (e.put d v) h' Q

/-! ### strict forms -/
def wr (v : Option V) (h : Heap) : Option (V × Heap) := v.bind fun v => some (v, h)
def ap1 (f : V → Option V) (x : Option V) (h : Heap) : Option (V × Heap) := x.bind fun x => (f x).bind fun v => some (v, h)
def ap2 (f : V → V → Option V) (x y : Option V) (h : Heap) : Option (V × Heap) := x.bind fun x => y.bind fun y => (f x y).bind fun v => some (v, h)
def ap2h (f : V → V → Option (V × Heap)) (x y : Option V) : Option (V × Heap) := x.bind fun x => y.bind fun y => f x y
def apl (f : List V → Option V) (x : Option (List V)) (h : Heap) : Option (V × Heap) := x.bind fun x => (f x).bind fun v => some (v, h)
def aplh (f : List V → Option (V × Heap)) (x : Option (List V)) : Option (V × Heap) := x.bind f
def pk (t : Option Bool) (a b : Option V) : Option V := t.bind fun t => if t then a else b
def ob (x : Option V) : Option Bool := x.bind boolV
def want (x : Option V) (b : Bool) : Option Bool := match x with
  | some (.bool x) => some (x == b)
  | some (.tup []) => some false
  | _ => none
def boxH (h : Heap) (v : V) : Option (V × Heap) := if v.cells.all V.one = true then some (.ptr h.length 0, h ++ [some v.cells]) else none
def boxfH (h : Heap) (v : V) : Option (V × Heap) := if v.cells.all V.one = true then some (.rp v.cells, h) else none
def boxf1 (h : Heap) (x : Option V) : Option (V × Heap) := x.bind (boxfH h)
def box1 (h : Heap) (x : Option V) : Option (V × Heap) := x.bind (boxH h)
def bslH (h : Heap) (s : Nat) (hp : Bool) (vs : List V) : Option (V × Heap) := if vs.all (fun v => v.cells.length == s && v.cells.all V.one) = true then
      (if hp then (if vs.isEmpty then some (.hn s, h) else some (.hs s h.length 0 vs.length, h ++ [some (flat vs)])) else some (.ps s vs, h)) else none
def stH (h : Heap) (n : Nat) (a x : V) : Option (V × Heap) := (storeV h n a x).bind fun h => some (.tup [], h)
def mksH (h : Heap) (s bytes : Nat) (z : V) (hp : Bool) (l c : V) : Option (V × Heap) := (mkslV s bytes z l c).bind fun q => if hp then some (.hs s h.length 0 q.1, h ++ [some (flat (List.replicate q.1 z))]) else some (.ps s (List.replicate q.1 z), h)
def ldz1 (sz : Nat) (ag : Bool) (h : Heap) (x : Option V) : Option (V × Heap) := x.bind fun x => (loadV h sz x).bind fun v => freezeA ag v h
def frz1 (ag : Bool) (h : Heap) (x : Option V) : Option (V × Heap) := x.bind fun x => freezeA ag x h
def clr1 (h : Heap) (s : Nat) (z : List V) (x : Option V) : Option (V × Heap) := x.bind (clrV h s z)
def lit1 (h : Heap) (x : Option V) : Option (V × Heap) := x.bind (litV h)
def rng1 (h : Heap) (s : Bool) (x : Option V) : Option (V × Heap) := x.bind (rngS h s)
def nxt1 (h : Heap) (s : Bool) (x : Option V) : Option (V × Heap) := x.bind (nxsV h s)
def look2 (h : Heap) (q : EqK) (z : V) (ok : Bool) (m k : V) : Option V := lookV h q m k z ok
def mdel1 (h : Heap) (q : EqK) (m k : Option V) : Option (V × Heap) := m.bind fun m => k.bind fun k => (mdelV h q m k).bind fun h => some (.tup [], h)
def mset1 (h : Heap) (q : EqK) (m k x : Option V) : Option (V × Heap) := m.bind fun m => k.bind fun k => x.bind fun x => (msetV h q m k x).bind fun h => some (.tup [], h)
def slO (t : Bool) (k : SK) (x : Option V) (lo hi mx : Option (Option V)) : Option V := x.bind fun x => lo.bind fun lo => hi.bind fun hi => mx.bind fun mx => slT t k x lo hi mx
def bldO (z : List V) (ps : Option (List (Nat × Nat × V))) : Option V := ps.bind (buildV z)
def mkifO (t : Nat) (x : Option V) : Option V := x.bind fun x => some (.iface t x)
def mkfnO (f : Nat) (x : Option (List V)) : Option V := x.bind fun x => some (.fn f x)
def lendO (h : Heap) (bor : List (Nat × Bool)) (vs : Option (List V)) : Option (List V × Bool) := vs.bind fun vs => (lend h bor 0 vs).bind fun us => some (us, lents bor vs)

section
variable (a b : V) (v : V) (h : Heap) (l : List V)
@[simp] theorem wr_some : wr (some v) h = some (v, h) := rfl
@[simp] theorem ap1_some (f : V → Option V) : ap1 f (some a) h = wr (f a) h := rfl
@[simp] theorem ap2_some (f : V → V → Option V) : ap2 f (some a) (some b) h = wr (f a b) h := rfl
@[simp] theorem ap2h_some (f : V → V → Option (V × Heap)) : ap2h f (some a) (some b) = f a b := rfl
@[simp] theorem apl_some (f : List V → Option V) : apl f (some l) h = wr (f l) h := rfl
@[simp] theorem aplh_some (f : List V → Option (V × Heap)) : aplh f (some l) = f l := rfl
@[simp] theorem pk_true (x y : Option V) : pk (some true) x y = x := rfl
@[simp] theorem pk_false (x y : Option V) : pk (some false) x y = y := rfl
@[simp] theorem ob_bool (t : Bool) : ob (some (.bool t)) = some t := rfl
@[simp] theorem want_true (t : Bool) : want (some (.bool t)) true = some t := by simp [want]
@[simp] theorem want_false (t : Bool) : want (some (.bool t)) false = some (!t) := by simp [want]
@[simp] theorem want_tup (t : Bool) : want (some (.tup [])) t = some false := rfl
@[simp] theorem boxf1_some : boxf1 h (some a) = boxfH h a := rfl
@[simp] theorem boxfH_def : boxfH h v = if v.cells.all V.one = true then some (.rp v.cells, h) else none := rfl
@[simp] theorem box1_some : box1 h (some a) = boxH h a := rfl
@[simp] theorem stH_def (n : Nat) : stH h n a b = (storeV h n a b).bind fun h => some (.tup [], h) := rfl
@[simp] theorem slO_some (t : Bool) (k : SK) (lo hi mx : Option V) : slO t k (some a) (some lo) (some hi) (some mx) = slT t k a lo hi mx := rfl
@[simp] theorem bldO_some (z : List V) (ps : List (Nat × Nat × V)) : bldO z (some ps) = buildV z ps := rfl
@[simp] theorem mkifO_some (t : Nat) : mkifO t (some a) = some (.iface t a) := rfl
@[simp] theorem mkfnO_some (t : Nat) : mkfnO t (some l) = some (.fn t l) := rfl
@[simp] theorem lendO_some (bor : List (Nat × Bool)) : lendO h bor (some l) = (lend h bor 0 l).bind fun us => some (us, lents bor l) := rfl
@[simp] theorem oite {α : Type} {c : Prop} [Decidable c] (hc : c) (x : α) : (if c then some x else none) = some x := by rw [if_pos hc]
@[simp] theorem boxH_def : boxH h v = if v.cells.all V.one = true then some (.ptr h.length 0, h ++ [some v.cells]) else none := rfl
@[simp] theorem ldz1_s (sz : Nat) (ag : Bool) (v : V) : ldz1 sz ag h (some v) = (loadV h sz v).bind fun v => freezeA ag v h := rfl
@[simp] theorem frz1_s (ag : Bool) (v : V) : frz1 ag h (some v) = freezeA ag v h := rfl
@[simp] theorem rng1_s (s : List UInt8) : rng1 h true (some (.str s)) = some (.itr h.length, h ++ [some [.str s, .int .i64 0]]) := rfl
@[simp] theorem rng1_m (b : Nat) : rng1 h false (some (.mp b)) = (h.row b).bind fun kvs => if isKvs kvs then some (.itr h.length, h ++ [some [.mp b, .ptr kvs.length kvs.length, .tup []]]) else none := rfl
@[simp] theorem rng1_n : rng1 h false (some .mpn) = some (.itr h.length, h ++ [some [.mpn, .nilp]]) := rfl
@[simp] theorem nxt1_s (v : V) : nxt1 h true (some v) = nxtV h v := rfl
@[simp] theorem nxt1_m (v : V) : nxt1 h false (some v) = nxmV h v := rfl
@[simp] theorem look2_s (q : EqK) (z : V) (ok : Bool) (m k : V) : look2 h q z ok m k = lookV h q m k z ok := rfl
@[simp] theorem mdel1_s (q : EqK) (m k : V) : mdel1 h q (some m) (some k) = (mdelV h q m k).bind fun h => some (.tup [], h) := rfl
@[simp] theorem mset1_s (q : EqK) (m k x : V) : mset1 h q (some m) (some k) (some x) = (msetV h q m k x).bind fun h => some (.tup [], h) := rfl
@[simp] theorem clr1_s (s : Nat) (z : List V) (v : V) : clr1 h s z (some v) = clrV h s z v := rfl
@[simp] theorem lit1_s (v : V) : lit1 h (some v) = litV h v := rfl
@[simp] theorem bslH_def (s : Nat) (hp : Bool) (vs : List V) : bslH h s hp vs = if vs.all (fun v => v.cells.length == s && v.cells.all V.one) = true then
      (if hp then (if vs.isEmpty then some (.hn s, h) else some (.hs s h.length 0 vs.length, h ++ [some (flat vs)])) else some (.ps s vs, h)) else none := rfl
@[simp] theorem mksH_def (s bytes : Nat) (z : V) (hp : Bool) (l c : V) : mksH h s bytes z hp l c = (mkslV s bytes z l c).bind fun q => if hp then some (.hs s h.length 0 q.1, h ++ [some (flat (List.replicate q.1 z))]) else some (.ps s (List.replicate q.1 z), h) := rfl
end

/-! ### rules -/
section
variable {T : Table} (ks : List Kt) (ops : List AOpr) (K : Kp) (keep : List Nat) (e : Env) (h : Heap) (Q : Ex → Env → Heap → Prop)
@[simp] theorem Xc_skip : Xc T .skip ks e h Q = Xk T ks .n e h Q := Wc_skip e h _
@[simp] theorem Xc_exit (i : Nat) : Xc T (.exit i) ks e h Q = Xk T ks (.x i) e h Q := Wc_exit e h _ i
@[simp] theorem Xc_ret : Xc T .ret ks e h Q = Xk T ks .r e h Q := Wc_ret e h _
theorem Xo_step (o : AOpr) : Xo T (o :: ops) K ks e h Q = opt (wantedA o.guard e) fun w => br w (W1 T o.op e h fun v h' => Xo T ops (K.push e h) ks (e.put o.dst v) h' Q) (Xo T ops (K.push e h) ks (e.put o.dst (.tup [])) h Q) := rfl
theorem Xo_plain : ∀ (ops : List AOpr) (e : Env) (h : Heap), (Wo T ops e h fun e h => Xk T ks .n (e.keep keep) h Q) = Xo T ops (.k keep) ks e h Q
  | [], e, h => Wo_nil e h _
  | ⟨d, op, none⟩ :: r, e, h => by
    rw [Wo_step, Xo_step]
    simp only [wantedA, opt_some, br_true]
    congr 1; funext v h'
    exact Xo_plain r _ _
  | ⟨d, op, some (s, b)⟩ :: r, e, h => by
    rw [Wo_guard, Xo_step]
    congr 1; funext w
    rw [Wo_step, Xo_plain r (e.put d (.tup [])) h]
    show br w (W1 T op e h fun v h' => _) _ = br w (W1 T op e h fun v h' => _) _
    congr 2; funext v h'
    exact Xo_plain r _ _
@[simp] theorem Xc_reg : Xc T (.reg ops keep) ks e h Q = Xo T ops (.k keep) ks e h Q := (Wc_reg e h _ ops keep).trans (Xo_plain ks keep Q ops e h)
@[simp] theorem Xc_regd0 (own : Plan) : Xc T (.regd ops keep own []) ks e h Q = Xo T ops (.k keep) ks e h Q := (Wc_regd0 e h _ ops keep own).trans (Xo_plain ks keep Q ops e h)
@[simp] theorem Xc_seq (a b : ACode) : Xc T (.seq a b) ks e h Q = Xc T a (.seq b :: ks) e h Q := Wc_seq e h _ a b
@[simp] theorem Xc_scope (a : ACode) : Xc T (.scope a) ks e h Q = Xc T a ks e h Q := Wc_scope e h _ a
@[simp] theorem Xc_block (id : Nat) (a : ACode) : Xc T (.block id a) ks e h Q = Xc T a (.block id :: ks) e h Q := Wc_block e h _ id a
@[simp] theorem Xc_cond (c : A) (a b : ACode) : Xc T (.cond c a b) ks e h Q = Xb T (ob (c.ev e)) a b ks e h Q := by
  show Wc T (.cond c a b) e h _ = _
  rw [Wc_cond]; unfold Xb ob
  cases c.ev e with
  | none => simp only [opt_none, Option.bind_none]
  | some v => simp only [opt_some, Option.bind_some, Xc]
theorem Xc_loop (own : List (Nat × Nat)) (a : ACode) : Xc T (.loop keep own a) ks e h Q = Xc T a (.seq (.loop keep own a) :: ks) (e.keep keep) h Q := Wc_loop e h _ keep own a
@[simp] theorem Xk_nil (x : Ex) : Xk T [] x e h Q = Q x e h := rfl
@[simp] theorem Xk_seq_n (b : ACode) : Xk T (.seq b :: ks) .n e h Q = Xc T b ks e h Q := rfl
@[simp] theorem Xk_seq_x (b : ACode) (i : Nat) : Xk T (.seq b :: ks) (.x i) e h Q = Xk T ks (.x i) e h Q := rfl
@[simp] theorem Xk_seq_r (b : ACode) : Xk T (.seq b :: ks) .r e h Q = Xk T ks .r e h Q := rfl
@[simp] theorem Xk_block_n (i : Nat) : Xk T (.block i :: ks) .n e h Q = Xk T ks .n e h Q := rfl
@[simp] theorem Xk_block_r (i : Nat) : Xk T (.block i :: ks) .r e h Q = Xk T ks .r e h Q := rfl
@[simp] theorem Xk_block_x (i : Nat) : Xk T (.block i :: ks) (.x i) e h Q = Xk T ks .n e h Q := by show Xk T ks (Ex.unb i (.x i)) e h Q = _; rw [unb_x, if_pos rfl]
theorem Xk_block_y (i j : Nat) (hij : j ≠ i) : Xk T (.block i :: ks) (.x j) e h Q = Xk T ks (.x j) e h Q := by show Xk T ks (Ex.unb i (.x j)) e h Q = _; rw [unb_x, if_neg hij]
attribute [simp] Xk_block_y
@[simp] theorem Xb_true (a b : ACode) : Xb T (some true) a b ks e h Q = Xc T a ks e h Q := by unfold Xb; rw [opt_some, br_true]
@[simp] theorem Xb_false (a b : ACode) : Xb T (some false) a b ks e h Q = Xc T b ks e h Q := by unfold Xb; rw [opt_some, br_false]
theorem Xb_intro {t : Bool} {a b : ACode} {ks : List Kt} {e : Env} {h : Heap} {Q : Ex → Env → Heap → Prop} (h1 : t = true → Xc T a ks e h Q) (h2 : t = false → Xc T b ks e h Q) : Xb T (some t) a b ks e h Q := by
  unfold Xb; rw [opt_some]; exact ⟨h1, h2⟩
theorem Xb_dec {c : Prop} [Decidable c] {a b : ACode} {ks : List Kt} {e : Env} {h : Heap} {Q : Ex → Env → Heap → Prop} (h1 : c → Xc T a ks e h Q) (h2 : ¬ c → Xc T b ks e h Q) : Xb T (some (decide c)) a b ks e h Q :=
  Xb_intro (fun x => h1 (of_decide_eq_true x)) (fun x => h2 (of_decide_eq_false x))
theorem Xb_decn {c : Prop} [Decidable c] {a b : ACode} {ks : List Kt} {e : Env} {h : Heap} {Q : Ex → Env → Heap → Prop} (h1 : ¬ c → Xc T a ks e h Q) (h2 : c → Xc T b ks e h Q) : Xb T (some (!decide c)) a b ks e h Q :=
  Xb_intro (fun x => h1 (of_decide_eq_false (by simpa using x))) (fun x => h2 (of_decide_eq_true (by simpa using x)))
@[simp] theorem Xg_true (op : AOp) (d : Option Nat) : Xg T (some true) op d ops K ks e h Q = Xo T (⟨d, op, none⟩ :: ops) K ks e h Q := by unfold Xg; rw [opt_some, br_true]
@[simp] theorem Xg_false (op : AOp) (d : Nat) : Xg T (some false) op (some d) ops K ks e h Q = Xo T ops (K.push e h) ks ((d, .tup []) :: e) h Q := by unfold Xg; rw [opt_some, br_false]; rfl
@[simp] theorem Xg_false0 (op : AOp) : Xg T (some false) op none ops K ks e h Q = Xo T ops (K.push e h) ks e h Q := by unfold Xg; rw [opt_some, br_false]; rfl
theorem Xg_intro {t : Bool} {op : AOp} {d : Option Nat} {ops : List AOpr} {K : Kp} {ks : List Kt} {e : Env} {h : Heap} {Q : Ex → Env → Heap → Prop} (h1 : t = true → Xo T (⟨d, op, none⟩ :: ops) K ks e h Q) (h2 : t = false → Xo T ops (K.push e h) ks (e.put d (.tup [])) h Q) :
    Xg T (some t) op d ops K ks e h Q := by unfold Xg; rw [opt_some]; exact ⟨h1, h2⟩
theorem Xg_dec {c : Prop} [Decidable c] {op : AOp} {d : Option Nat} {ops : List AOpr} {K : Kp} {ks : List Kt} {e : Env} {h : Heap} {Q : Ex → Env → Heap → Prop} (h1 : c → Xo T (⟨d, op, none⟩ :: ops) K ks e h Q) (h2 : ¬ c → Xo T ops (K.push e h) ks (e.put d (.tup [])) h Q) :
    Xg T (some (decide c)) op d ops K ks e h Q := Xg_intro (fun x => h1 (of_decide_eq_true x)) (fun x => h2 (of_decide_eq_false x))
theorem Xg_decn {c : Prop} [Decidable c] {op : AOp} {d : Option Nat} {ops : List AOpr} {K : Kp} {ks : List Kt} {e : Env} {h : Heap} {Q : Ex → Env → Heap → Prop} (h1 : ¬ c → Xo T (⟨d, op, none⟩ :: ops) K ks e h Q) (h2 : c → Xo T ops (K.push e h) ks (e.put d (.tup [])) h Q) :
    Xg T (some (!decide c)) op d ops K ks e h Q := Xg_intro (fun x => h1 (of_decide_eq_false (by simpa using x))) (fun x => h2 (of_decide_eq_true (by simpa using x)))
@[simp] theorem Xr_some (v : V) (h' : Heap) (d : Nat) : Xr T (some (v, h')) (some d) ops K ks e Q = Xo T ops K ks ((d, v) :: e) h' Q := by unfold Xr; rw [opt_some]; rfl
@[simp] theorem Xr_none (v : V) (h' : Heap) : Xr T (some (v, h')) none ops K ks e Q = Xo T ops K ks e h' Q := by unfold Xr; rw [opt_some]; rfl
@[simp] theorem Xo_nil : Xo T [] (.k keep) ks e h Q = Xk T ks .n (e.keep keep) h Q := rfl
@[simp] theorem Xo_nilf (fl : List (Nat × Nat × Nat)) (os : List AOpr) (acc : List (Env × Heap)) : Xo T [] (.f keep fl os acc) ks e h Q = (flagsIn T os ((e, h) :: acc).reverse fl ∧ Xk T ks .n (e.keep keep) h Q) := rfl
@[simp] theorem push_k : (Kp.k keep).push e h = .k keep := rfl
@[simp] theorem push_f (fl : List (Nat × Nat × Nat)) (os : List AOpr) (acc : List (Env × Heap)) : (Kp.f keep fl os acc).push e h = .f keep fl os ((e, h) :: acc) := rfl
@[simp] theorem Xo_guard (op : AOp) (d : Option Nat) (s : Nat) (b : Bool) : Xo T (⟨d, op, some (s, b)⟩ :: ops) K ks e h Q = Xg T (want (e.get s) b) op d ops K ks e h Q := by
  rw [Xo_step]
  have : wantedA (some (s, b)) e = want (e.get s) b := by
    simp only [wantedA, want]
    rcases e.get s with _ | v
    · rfl
    · cases v with
      | tup vs => cases vs <;> rfl
      | _ => rfl
  show (opt (wantedA (some (s, b)) e) _) = _
  rw [this]
  unfold Xg
  congr 1; funext w
  rw [Xo_step]; simp only [wantedA, opt_some, br_true]

theorem Xo_n (op : AOp) (d : Option Nat) : Xo T (⟨d, op, none⟩ :: ops) K ks e h Q = W1 T op e h fun v h' => Xo T ops (K.push e h) ks (e.put d v) h' Q := by
  rw [Xo_step]; simp only [wantedA, opt_some, br_true]
theorem Xo_q {op : AOp} {d : Option Nat} (hq : ∀ C, evOp C op e h = evOp noC op e h) : Xo T (⟨d, op, none⟩ :: ops) K ks e h Q = Xr T (evOp noC op e h) d ops (K.push e h) ks e Q := by
  rw [Xo_n, W1_q hq]; rfl

@[simp] theorem Xo_mv (d : Option Nat) (x : A) (t : Bool) : Xo T (⟨d, .mv x t, none⟩ :: ops) K ks e h Q = Xr T (wr (x.ev e) h) d ops (K.push e h) ks e Q := by
  rw [Xo_q ks ops K e h Q fun C => rfl]
  congr 1
  all_goals rfl
@[simp] theorem Xo_pick (d : Option Nat) (c a b : A) : Xo T (⟨d, .pick c a b, none⟩ :: ops) K ks e h Q = Xr T (wr (pk (ob (c.ev e)) (a.ev e) (b.ev e)) h) d ops (K.push e h) ks e Q := by
  rw [Xo_q ks ops K e h Q fun C => rfl]
  congr 1
  simp only [evOp, wr, pk, ob, Option.bind_assoc]; congr 1; funext c; congr 1; funext t; cases t <;> rfl
@[simp] theorem Xo_alloc (d : Option Nat) (z : List V) : Xo T (⟨d, .alloc z, none⟩ :: ops) K ks e h Q = Xr T (some (.ptr h.length 0, h ++ [some z])) d ops (K.push e h) ks e Q := by
  rw [Xo_q ks ops K e h Q fun C => rfl]
  congr 1
  all_goals rfl
@[simp] theorem Xo_box (d : Option Nat) (x : A) : Xo T (⟨d, .box x, none⟩ :: ops) K ks e h Q = Xr T (box1 h (x.ev e)) d ops (K.push e h) ks e Q := by
  rw [Xo_q ks ops K e h Q fun C => rfl]
  congr 1
  try first | rfl | (simp only [evOp, wr, pk, ob, box1, bldO, aplh, ap2h, slO, mkifO, mkfnO, boxH, bslH, stH, mksH, Option.bind_assoc]; try rfl)
@[simp] theorem Xo_boxf (d : Option Nat) (x : A) : Xo T (⟨d, .boxf x, none⟩ :: ops) K ks e h Q = Xr T (boxf1 h (x.ev e)) d ops (K.push e h) ks e Q := by
  rw [Xo_q ks ops K e h Q fun C => rfl]
  congr 1
  all_goals rfl
@[simp] theorem Xo_build (d : Option Nat) (z : List V) (ps : List (Nat × Nat × A)) : Xo T (⟨d, .build z ps, none⟩ :: ops) K ks e h Q = Xr T (wr (bldO z (evParts e ps)) h) d ops (K.push e h) ks e Q := by
  rw [Xo_q ks ops K e h Q fun C => rfl]
  congr 1
  try first | rfl | (simp only [evOp, wr, pk, ob, box1, bldO, aplh, ap2h, slO, mkifO, mkfnO, boxH, bslH, stH, mksH, Option.bind_assoc]; try rfl)
@[simp] theorem Xo_bsl (d : Option Nat) (s : Nat) (xs : List A) (hp : Bool) : Xo T (⟨d, .bsl s xs hp, none⟩ :: ops) K ks e h Q = Xr T (aplh (bslH h s hp) (A.evs e xs)) d ops (K.push e h) ks e Q := by
  rw [Xo_q ks ops K e h Q fun C => rfl]
  congr 1
  try first | rfl | (simp only [evOp, wr, pk, ob, box1, bldO, aplh, ap2h, slO, mkifO, mkfnO, boxH, bslH, stH, mksH, Option.bind_assoc]; try rfl)
@[simp] theorem Xo_load (d : Option Nat) (sz : Nat) (a : A) : Xo T (⟨d, .load sz a, none⟩ :: ops) K ks e h Q = Xr T (ap1 (loadV h sz) (a.ev e) h) d ops (K.push e h) ks e Q := by
  rw [Xo_q ks ops K e h Q fun C => rfl]
  congr 1
  all_goals rfl
@[simp] theorem Xo_store (d : Option Nat) (n : Nat) (a x : A) : Xo T (⟨d, .store n a x, none⟩ :: ops) K ks e h Q = Xr T (ap2h (stH h n) (a.ev e) (x.ev e)) d ops (K.push e h) ks e Q := by
  rw [Xo_q ks ops K e h Q fun C => rfl]
  congr 1
  try first | rfl | (simp only [evOp, wr, pk, ob, box1, bldO, aplh, ap2h, slO, mkifO, mkfnO, boxH, bslH, stH, mksH, Option.bind_assoc]; try rfl)
@[simp] theorem Xo_nilck (d : Option Nat) (x : A) : Xo T (⟨d, .nilck x, none⟩ :: ops) K ks e h Q = Xr T (ap1 nilckV (x.ev e) h) d ops (K.push e h) ks e Q := by
  rw [Xo_q ks ops K e h Q fun C => rfl]
  congr 1
  all_goals rfl
@[simp] theorem Xo_bin (d : Option Nat) (op : BinOp) (q : EqK) (x y : A) : Xo T (⟨d, .bin op q x y, none⟩ :: ops) K ks e h Q = Xr T (ap2 (binV op q) (x.ev e) (y.ev e) h) d ops (K.push e h) ks e Q := by
  rw [Xo_q ks ops K e h Q fun C => rfl]
  congr 1
  all_goals rfl
@[simp] theorem Xo_un (d : Option Nat) (op : UnOp) (x : A) : Xo T (⟨d, .un op x, none⟩ :: ops) K ks e h Q = Xr T (ap1 (unV op) (x.ev e) h) d ops (K.push e h) ks e Q := by
  rw [Xo_q ks ops K e h Q fun C => rfl]
  congr 1
  all_goals rfl
@[simp] theorem Xo_conv (d : Option Nat) (k : CK) (x : A) : Xo T (⟨d, .conv k x, none⟩ :: ops) K ks e h Q = Xr T (ap1 (convV h k) (x.ev e) h) d ops (K.push e h) ks e Q := by
  rw [Xo_q ks ops K e h Q fun C => rfl]
  congr 1
  all_goals rfl
@[simp] theorem Xo_mkif (d : Option Nat) (t : Nat) (x : A) : Xo T (⟨d, .mkif t x, none⟩ :: ops) K ks e h Q = Xr T (wr (mkifO t (x.ev e)) h) d ops (K.push e h) ks e Q := by
  rw [Xo_q ks ops K e h Q fun C => rfl]
  congr 1
  try first | rfl | (simp only [evOp, wr, pk, ob, box1, bldO, aplh, ap2h, slO, mkifO, mkfnO, boxH, bslH, stH, mksH, Option.bind_assoc]; try rfl)
@[simp] theorem Xo_mkfn (d : Option Nat) (f : Nat) (cap : List A) : Xo T (⟨d, .mkfn f cap, none⟩ :: ops) K ks e h Q = Xr T (wr (mkfnO f (A.evs e cap)) h) d ops (K.push e h) ks e Q := by
  rw [Xo_q ks ops K e h Q fun C => rfl]
  congr 1
  try first | rfl | (simp only [evOp, wr, pk, ob, box1, bldO, aplh, ap2h, slO, mkifO, mkfnO, boxH, bslH, stH, mksH, Option.bind_assoc]; try rfl)
@[simp] theorem Xo_mksl (d : Option Nat) (s bytes : Nat) (z : V) (l c : A) (hp : Bool) : Xo T (⟨d, .mksl s bytes z l c hp, none⟩ :: ops) K ks e h Q = Xr T (ap2h (mksH h s bytes z hp) (l.ev e) (c.ev e)) d ops (K.push e h) ks e Q := by
  rw [Xo_q ks ops K e h Q fun C => rfl]
  congr 1
  try first | rfl | (simp only [evOp, wr, pk, ob, box1, bldO, aplh, ap2h, slO, mkifO, mkfnO, boxH, bslH, stH, mksH, Option.bind_assoc]; try rfl)
@[simp] theorem Xo_sl (d : Option Nat) (k : SK) (x : A) (lo hi mx : Option A) (t : Bool) : Xo T (⟨d, .sl k x lo hi mx t, none⟩ :: ops) K ks e h Q = Xr T (wr (slO t k (x.ev e) (evO e lo) (evO e hi) (evO e mx)) h) d ops (K.push e h) ks e Q := by
  rw [Xo_q ks ops K e h Q fun C => rfl]
  congr 1
  try first | rfl | (simp only [evOp, wr, pk, ob, box1, bldO, aplh, ap2h, slO, mkifO, mkfnO, boxH, bslH, stH, mksH, Option.bind_assoc]; try rfl)
@[simp] theorem Xo_fa (d : Option Nat) (off : Nat) (a : A) : Xo T (⟨d, .fa off a, none⟩ :: ops) K ks e h Q = Xr T (ap1 (faV off) (a.ev e) h) d ops (K.push e h) ks e Q := by
  rw [Xo_q ks ops K e h Q fun C => rfl]
  congr 1
  all_goals rfl
@[simp] theorem Xo_fld (d : Option Nat) (off sz : Nat) (x : A) : Xo T (⟨d, .fld off sz x, none⟩ :: ops) K ks e h Q = Xr T (ap1 (fldV off sz) (x.ev e) h) d ops (K.push e h) ks e Q := by
  rw [Xo_q ks ops K e h Q fun C => rfl]
  congr 1
  all_goals rfl
@[simp] theorem Xo_ia (d : Option Nat) (k : SK) (x i : A) : Xo T (⟨d, .ia k x i, none⟩ :: ops) K ks e h Q = Xr T (ap2 (iaV k) (x.ev e) (i.ev e) h) d ops (K.push e h) ks e Q := by
  rw [Xo_q ks ops K e h Q fun C => rfl]
  congr 1
  all_goals rfl
@[simp] theorem Xo_idx (d : Option Nat) (k : SK) (sz : Nat) (x i : A) : Xo T (⟨d, .idx k sz x i, none⟩ :: ops) K ks e h Q = Xr T (ap2 (idxV k sz) (x.ev e) (i.ev e) h) d ops (K.push e h) ks e Q := by
  rw [Xo_q ks ops K e h Q fun C => rfl]
  congr 1
  all_goals rfl
@[simp] theorem Xo_ta (d : Option Nat) (t : Nat) (z : V) (ok : Bool) (x : A) : Xo T (⟨d, .ta t z ok x, none⟩ :: ops) K ks e h Q = Xr T (ap1 (taV t z ok) (x.ev e) h) d ops (K.push e h) ks e Q := by
  rw [Xo_q ks ops K e h Q fun C => rfl]
  congr 1
  all_goals rfl
@[simp] theorem Xo_ext (d : Option Nat) (x : A) (i : Nat) : Xo T (⟨d, .ext x i, none⟩ :: ops) K ks e h Q = Xr T (wr ((x.ev e).bind fun x => extV x i) h) d ops (K.push e h) ks e Q := by
  rw [Xo_q ks ops K e h Q fun C => rfl]
  congr 1
  try first | rfl | (simp only [evOp, wr, pk, ob, box1, bldO, aplh, ap2h, slO, mkifO, mkfnO, boxH, bslH, stH, mksH, Option.bind_assoc]; try rfl)
@[simp] theorem Xo_len (d : Option Nat) (str : Bool) (x : A) : Xo T (⟨d, .len str x, none⟩ :: ops) K ks e h Q = Xr T (ap1 (lenV str) (x.ev e) h) d ops (K.push e h) ks e Q := by
  rw [Xo_q ks ops K e h Q fun C => rfl]
  congr 1
  all_goals rfl
@[simp] theorem Xo_app (d : Option Nat) (s bytes : Nat) (x y : A) : Xo T (⟨d, .app s bytes x y, none⟩ :: ops) K ks e h Q = Xr T (ap2 (appV h s bytes) (x.ev e) (y.ev e) h) d ops (K.push e h) ks e Q := by
  rw [Xo_q ks ops K e h Q fun C => rfl]
  congr 1
  all_goals rfl
@[simp] theorem Xo_apph (d : Option Nat) (s bytes : Nat) (x y : A) : Xo T (⟨d, .apph s bytes x y, none⟩ :: ops) K ks e h Q = Xr T (ap2h (appH h s bytes) (x.ev e) (y.ev e)) d ops (K.push e h) ks e Q := by
  rw [Xo_q ks ops K e h Q fun C => rfl]
  congr 1
  all_goals rfl
@[simp] theorem Xo_mx (d : Option Nat) (m : Bool) (xs : List A) : Xo T (⟨d, .mx m xs, none⟩ :: ops) K ks e h Q = Xr T (apl (mxV m) (A.evs e xs) h) d ops (K.push e h) ks e Q := by
  rw [Xo_q ks ops K e h Q fun C => rfl]
  congr 1
  all_goals rfl
@[simp] theorem Xo_ldz (d : Option Nat) (sz : Nat) (x : A) (ag : Bool) : Xo T (⟨d, .ldz sz x ag, none⟩ :: ops) K ks e h Q = Xr T (ldz1 sz ag h (x.ev e)) d ops (K.push e h) ks e Q := by
  rw [Xo_q ks ops K e h Q fun C => rfl]
  congr 1
  all_goals rfl
@[simp] theorem Xo_frz (d : Option Nat) (x : A) (ag : Bool) : Xo T (⟨d, .frz x ag, none⟩ :: ops) K ks e h Q = Xr T (frz1 ag h (x.ev e)) d ops (K.push e h) ks e Q := by
  rw [Xo_q ks ops K e h Q fun C => rfl]
  congr 1
  all_goals rfl
@[simp] theorem Xo_lit (d : Option Nat) (x : A) : Xo T (⟨d, .lit x, none⟩ :: ops) K ks e h Q = Xr T (lit1 h (x.ev e)) d ops (K.push e h) ks e Q := by
  rw [Xo_q ks ops K e h Q fun C => rfl]
  congr 1
  all_goals rfl
@[simp] theorem Xo_rng (d : Option Nat) (s : Bool) (x : A) : Xo T (⟨d, .rng s x, none⟩ :: ops) K ks e h Q = Xr T (rng1 h s (x.ev e)) d ops (K.push e h) ks e Q := by
  rw [Xo_q ks ops K e h Q fun C => rfl]
  congr 1
  all_goals rfl
@[simp] theorem Xo_nxt (d : Option Nat) (s : Bool) (x : A) : Xo T (⟨d, .nxt s x, none⟩ :: ops) K ks e h Q = Xr T (nxt1 h s (x.ev e)) d ops (K.push e h) ks e Q := by
  rw [Xo_q ks ops K e h Q fun C => rfl]
  congr 1
  all_goals rfl
@[simp] theorem Xo_mkm (d : Option Nat)  : Xo T (⟨d, .mkm , none⟩ :: ops) K ks e h Q = Xr T (some (.mp h.length, h ++ [some []])) d ops (K.push e h) ks e Q := by
  rw [Xo_q ks ops K e h Q fun C => rfl]
  congr 1
  all_goals rfl
@[simp] theorem Xo_look (d : Option Nat) (q : EqK) (m k : A) (z : V) (ok : Bool) : Xo T (⟨d, .look q m k z ok, none⟩ :: ops) K ks e h Q = Xr T (ap2 (look2 h q z ok) (m.ev e) (k.ev e) h) d ops (K.push e h) ks e Q := by
  rw [Xo_q ks ops K e h Q fun C => rfl]
  congr 1
  all_goals rfl
@[simp] theorem Xo_mset (d : Option Nat) (q : EqK) (m k x : A) : Xo T (⟨d, .mset q m k x, none⟩ :: ops) K ks e h Q = Xr T (mset1 h q (m.ev e) (k.ev e) (x.ev e)) d ops (K.push e h) ks e Q := by
  rw [Xo_q ks ops K e h Q fun C => rfl]
  congr 1
  all_goals rfl
@[simp] theorem Xo_ent (d : Option Nat) (x : A) : Xo T (⟨d, .ent x, none⟩ :: ops) K ks e h Q = Xr T (ap1 (entV h) (x.ev e) h) d ops (K.push e h) ks e Q := by
  rw [Xo_q ks ops K e h Q fun C => rfl]
  congr 1
  all_goals rfl
@[simp] theorem Xo_mlen (d : Option Nat) (x : A) : Xo T (⟨d, .mlen x, none⟩ :: ops) K ks e h Q = Xr T (ap1 (mlenV h) (x.ev e) h) d ops (K.push e h) ks e Q := by
  rw [Xo_q ks ops K e h Q fun C => rfl]
  congr 1
  all_goals rfl
@[simp] theorem Xo_mdel (d : Option Nat) (q : EqK) (m k : A) : Xo T (⟨d, .mdel q m k, none⟩ :: ops) K ks e h Q = Xr T (mdel1 h q (m.ev e) (k.ev e)) d ops (K.push e h) ks e Q := by
  rw [Xo_q ks ops K e h Q fun C => rfl]
  congr 1
  all_goals rfl
@[simp] theorem Xo_clr (d : Option Nat) (s : Nat) (z : List V) (x : A) : Xo T (⟨d, .clr s z x, none⟩ :: ops) K ks e h Q = Xr T (clr1 h s z (x.ev e)) d ops (K.push e h) ks e Q := by
  rw [Xo_q ks ops K e h Q fun C => rfl]
  congr 1
  all_goals rfl
@[simp] theorem Xo_copy (d : Option Nat) (s : Nat) (x y : A) : Xo T (⟨d, .copy s x y, none⟩ :: ops) K ks e h Q = Xr T (ap2h (copyV h s) (x.ev e) (y.ev e)) d ops (K.push e h) ks e Q := by
  rw [Xo_q ks ops K e h Q fun C => rfl]
  congr 1
  all_goals rfl

@[simp] theorem Xo_callh (d : Option Nat) (f : Nat) (args : List A) : Xo T (⟨d, .callh f args, none⟩ :: ops) K ks e h Q = Xf T f (A.evs e args) h d ops (K.push e h) ks e Q := by
  rw [Xo_n, W1_callh]; rfl
@[simp] theorem Xo_callp (d : Option Nat) (f : Nat) (args : List A) (bor : List (Nat × Bool)) : Xo T (⟨d, .callp f args bor, none⟩ :: ops) K ks e h Q = Xp T f (lendO h bor (A.evs e args)) h d ops (K.push e h) ks e Q := by
  rw [Xo_n, W1_callp]
  unfold Xp lendO
  simp only [opt_bind, opt_some]
@[simp] theorem Xo_callv (d : Option Nat) (x : A) (args : List A) : Xo T (⟨d, .callv x args, none⟩ :: ops) K ks e h Q = Xv T (x.ev e) (A.evs e args) h d ops (K.push e h) ks e Q := by
  rw [Xo_n, W1_callv]; rfl
@[simp] theorem Xv_fn (f : Nat) (cap vs : List V) (d : Option Nat) (hf : T.free f = true) : Xv T (some (.fn f cap)) (some vs) h d ops K ks e Q = Xf T f (some (vs ++ cap)) h d ops K ks e Q := by
  unfold Xv Xf; rw [opt_some, opt_some, opt_some, Callv_fn (hf := hf)]
theorem Xf_run {f : Nat} {vs : List V} {h h' : Heap} {v : V} (r : Run T f vs h v h') {ks : List Kt} {ops : List AOpr} {K : Kp} {e : Env} {Q : Ex → Env → Heap → Prop} {d : Nat} :
    Xf T f (some vs) h (some d) ops K ks e Q = Xo T ops K ks ((d, v) :: e) h' Q := by unfold Xf; rw [opt_some, r.call]; rfl
theorem Xf_run0 {f : Nat} {vs : List V} {h h' : Heap} {v : V} (r : Run T f vs h v h') {ks : List Kt} {ops : List AOpr} {K : Kp} {e : Env} {Q : Ex → Env → Heap → Prop} :
    Xf T f (some vs) h none ops K ks e Q = Xo T ops K ks e h' Q := by unfold Xf; rw [opt_some, r.call]; rfl
theorem Xp_run {f : Nat} {vs : List V} {h' : Heap} {v : V} {b : Bool} (r : Run T f vs [] v h') (h1 : V.hfs vs = true) (h2 : v.hf = true) (h3 : (!b || scalar v) = true) {ks : List Kt} {ops : List AOpr} {K : Kp} {e : Env} {h : Heap} {Q : Ex → Env → Heap → Prop} {d : Nat} :
    Xp T f (some (vs, b)) h (some d) ops K ks e Q = Xo T ops K ks ((d, v) :: e) h Q := by unfold Xp; rw [opt_some, r.callp h1 h2 h3]; rfl
theorem Xp_run0 {f : Nat} {vs : List V} {h' : Heap} {v : V} {b : Bool} (r : Run T f vs [] v h') (h1 : V.hfs vs = true) (h2 : v.hf = true) (h3 : (!b || scalar v) = true) {ks : List Kt} {ops : List AOpr} {K : Kp} {e : Env} {h : Heap} {Q : Ex → Env → Heap → Prop} :
    Xp T f (some (vs, b)) h none ops K ks e Q = Xo T ops K ks e h Q := by unfold Xp; rw [opt_some, r.callp h1 h2 h3]; rfl
end

/-- A slice is held against nil: it is not nil. -/
theorem Xc_nilc {T : Table} {ops : List AOpr} {x : A} {d : Nat} {neq : Bool} {keep : List Nat} {a b c : ACode} {ks : List Kt} {e : Env} {h : Heap} {Q : Ex → Env → Heap → Prop} {e1 : Env} {h1 : Heap} {v : V} (hr : ∀ C : Callee, runOps C ops e h = some (e1, h1)) (hx : x.ev e1 = some v) (hn : nilV v = some false)
    (hk : Xc T (if neq then a else b) (.seq c :: ks) (e1.keep keep) h1 Q) : Xc T (.nilc ops x d neq keep a b c) ks e h Q :=
  Wc_nil _ _ _ ops x d neq keep a b c ⟨0, hr _⟩ hx hn (by rw [Wc_seq]; exact hk)
/-- A slice is held against nil: both ways come to the same. -/
theorem Xc_may {T : Table} {ops : List AOpr} {x : A} {d : Nat} {neq : Bool} {keep : List Nat} {a b c : ACode} {ks : List Kt} {e : Env} {h : Heap} {Q : Ex → Env → Heap → Prop} {e1 : Env} {h1 : Heap} {v : V} (hr : ∀ C : Callee, runOps C ops e h = some (e1, h1)) (hx : x.ev e1 = some v) (hn : nilV v = some true)
    (y : Ex) (e' : Env) (h' : Heap) (ha : Xc T a [.seq c] (e1.keep keep) h1 fun x e h => x = y ∧ e = e' ∧ h = h') (hb : Xc T b [.seq c] (e1.keep keep) h1 fun x e h => x = y ∧ e = e' ∧ h = h') (hQ : Xk T ks y e' h' Q) : Xc T (.nilc ops x d neq keep a b c) ks e h Q :=
  Wc_may _ _ _ ops x d neq keep a b c ⟨0, hr _⟩ hx hn (by rw [Wc_seq]; exact ha) (by rw [Wc_seq]; exact hb) hQ
/-! ### readings that no order fixes -/
theorem runTr_full {C D : Callee} (hc : C.le D) : ∀ (ops : List AOpr) {e : Env} {h : Heap} {r : Env × Heap}, runOps C ops e h = some r → runTr D ops e h = runTr C ops e h
  | [], _, _, _, _ => rfl
  | o :: ops, e, h, r, hr => by
    simp only [runOps] at hr
    simp only [runTr]
    cases hw : wantedA o.guard e with
    | none => rfl
    | some w =>
      rw [hw] at hr; simp only [Option.bind_some] at hr
      cases w with
      | false => simp only; rw [runTr_full hc ops hr]
      | true =>
        simp only [if_true] at hr
        cases ho : evOp C o.op e h with
        | none => rw [ho] at hr; cases hr
        | some q => rw [ho] at hr; simp only; rw [evOp_mono hc ho]; simp only; rw [runTr_full hc ops hr]

theorem flagOk_le {C D : Callee} (hc : C.le D) {ops : List AOpr} {tr : List (Env × Heap)} {i lo hi : Nat} (hf : flagOk C ops tr i lo hi = true) : flagOk D ops tr i lo hi = true := by
  unfold flagOk at hf ⊢
  cases h1 : ops[i]? with
  | none => rw [h1] at hf; cases hf
  | some o =>
    cases h2 : tr[i]? with
    | none => rw [h1, h2] at hf; cases hf
    | some q =>
      obtain ⟨e1, h3⟩ := q
      rw [h1, h2] at hf
      simp only at hf ⊢
      cases hw : wantedA o.guard e1 with
      | none => rfl
      | some w =>
        cases w with
        | false => rfl
        | true =>
          rw [hw] at hf
          simp only at hf ⊢
          cases ho : evOp C o.op e1 h3 with
          | none => rw [ho] at hf; cases hf
          | some q =>
            obtain ⟨v, h4⟩ := q
            rw [ho] at hf; rw [evOp_mono hc ho]
            simp only [List.all_eq_true] at hf ⊢
            intro p hp
            have := hf p hp
            cases h5 : tr[p]? with
            | none => rw [h5] at this; cases this
            | some q =>
              obtain ⟨e5, h6⟩ := q
              rw [h5] at this
              simp only at this ⊢
              cases h7 : evOp C o.op e1 h6 with
              | none => rw [h7] at this; cases this
              | some q => rw [h7] at this; rw [evOp_mono hc h7]; exact this

attribute [simp] V.beq_self

@[simp] theorem eqv_some (u v : V) (h : Heap) : eqv (some (u, h)) v = (u = v) := by simp [eqv]
@[simp] theorem flag3_nil (T : Table) (op : AOp) (e : Env) (v : V) : flag3 T op e v [] = True := rfl
@[simp] theorem flag3_cons (T : Table) (op : AOp) (e : Env) (v : V) (h : Heap) (r : List Heap) : flag3 T op e v (h :: r) = (eqv (evOp (noK T) op e h) v ∧ flag3 T op e v r) := rfl
@[simp] theorem flag2_some (T : Table) (op : AOp) (e : Env) (v : V) (h : Heap) (hs : List Heap) : flag2 T op e (some (v, h)) hs = flag3 T op e v hs := by unfold flag2; rw [opt_some]
@[simp] theorem flag1_some (T : Table) (d : Option Nat) (op : AOp) (g : Option (Nat × Bool)) (e : Env) (h : Heap) (hs : List Heap) :
    flag1 T (some ⟨d, op, g⟩) (some (e, h)) hs = flagW (wantedA g e) (flag2 T op e (evOp (noK T) op e h) hs) := by unfold flag1; rw [opt_some, opt_some]
theorem flag3_mem {T : Table} {op : AOp} {e : Env} {v : V} : ∀ {hs : List Heap}, flag3 T op e v hs → ∀ h ∈ hs, ∃ h', evOp (noK T) op e h = some (v, h')
  | [], _, h, hh => nomatch hh
  | k :: r, hf, h, hh => by
    rcases List.mem_cons.1 hh with rfl | hh
    · have := hf.1
      unfold eqv at this
      cases hr : evOp (noK T) op e h with
      | none => rw [hr] at this; cases this
      | some q =>
        obtain ⟨u, h'⟩ := q
        rw [hr] at this
        simp at this
        subst this
        exact ⟨h', rfl⟩
    · exact flag3_mem hf.2 h hh
@[simp] theorem flagW_true (P : Prop) : flagW (some true) P = P := by simp [flagW]
@[simp] theorem flagW_false (P : Prop) : flagW (some false) P = True := by simp [flagW]
attribute [simp] opt_some opt_none

theorem flagP_ok {T : Table} {ops : List AOpr} {tr : List (Env × Heap)} {i lo hi : Nat} (hp : flagP T ops tr (i, lo, hi)) : flagOk (noK T) ops tr i lo hi = true := by
  obtain ⟨⟨o, h1, ⟨e, h⟩, h2, hw⟩, hlo, h4⟩ := hp
  simp only at h1 h2 hw hlo h4
  unfold flagOk
  rw [h1, h2]
  simp only
  cases hwa : wantedA o.guard e with
  | none => rfl
  | some w =>
    cases w with
    | false => rfl
    | true =>
      obtain ⟨⟨v, h'⟩, h3, h5⟩ := hw hwa
      simp only at h5
      simp only [h3, List.all_eq_true]
      intro p hp
      rw [List.mem_range'] at hp
      obtain ⟨j, hj, rfl⟩ := hp
      have hlt : lo + 1 * j < tr.length := by omega
      rw [List.getElem?_eq_getElem hlt]
      obtain ⟨h'', h6⟩ := flag3_mem h5 (tr[lo + 1 * j]).2 (by
        rw [List.mem_map]
        refine ⟨tr[lo + 1 * j], ?_, rfl⟩
        rw [List.mem_iff_getElem]
        refine ⟨j, by simp; omega, ?_⟩
        simp)
      simp only [h6]
      exact V.beq_self v

theorem Xo_flags {T : Table} {ks : List Kt} {Q : Ex → Env → Heap → Prop} {keep : List Nat} {fl : List (Nat × Nat × Nat)} {os : List AOpr} : ∀ (ops : List AOpr) (e : Env) (h : Heap) (acc : List (Env × Heap)), Xo T ops (.f keep fl os acc) ks e h Q →
    ∃ n e' h', runOps ⟨run T n, T.free⟩ ops e h = some (e', h') ∧ flagsIn T os (acc.reverse ++ runTr ⟨run T n, T.free⟩ ops e h) fl ∧ Xk T ks .n (e'.keep keep) h' Q
  | [], e, h, acc, hx => by
    obtain ⟨h1, h2⟩ := hx
    exact ⟨0, e, h, rfl, by simpa only [runTr, List.reverse_cons] using h1, h2⟩
  | o :: r, e, h, acc, hx => by
    rw [Xo_step] at hx
    obtain ⟨w, hw, hx⟩ := hx
    cases w with
    | false =>
      rw [br_false] at hx
      obtain ⟨n, e', h', h1, h2, h3⟩ := Xo_flags r _ _ _ hx
      refine ⟨n, e', h', by simp only [runOps, hw, Option.bind_some, Bool.false_eq_true, if_false]; exact h1, ?_, h3⟩
      simp only [runTr, hw]
      simpa only [List.reverse_cons, List.append_assoc, List.singleton_append] using h2
    | true =>
      rw [br_true] at hx
      obtain ⟨m, v, h1, hv, hx⟩ := hx
      obtain ⟨n, e', h', h2, h3, h4⟩ := Xo_flags r _ _ _ hx
      have ev1 := evOp_mono (callee_mono T (show m ≤ max m n by omega)) hv
      have ro := runOps_mono (callee_mono T (show n ≤ max m n by omega)) r h2
      have tr := runTr_full (callee_mono T (show n ≤ max m n by omega)) r h2
      refine ⟨max m n, e', h', by simp only [runOps, hw, Option.bind_some, if_true, ev1]; exact ro, ?_, h4⟩
      simp only [runTr, hw, ev1, tr]
      simpa only [List.reverse_cons, List.append_assoc, List.singleton_append] using h3

theorem Xc_regf {T : Table} {ks : List Kt} {Q : Ex → Env → Heap → Prop} {keep : List Nat} {own : Plan} {fl : List (Nat × Nat × Nat)} {ops : List AOpr} {e : Env} {h : Heap} (hx : Xo T ops (.f keep fl ops []) ks e h Q) :
    Xc T (.regd ops keep own fl) ks e h Q := by
  obtain ⟨n, e', h', h1, h2, h3⟩ := Xo_flags ops e h [] hx
  have hf : flagsOk ⟨run T n, T.free⟩ ops e h fl = true := by
    unfold flagsOk
    cases fl with
    | nil => rfl
    | cons f fl =>
      simp only [List.all_eq_true]
      intro x hx
      exact flagOk_le (C := noK T) (D := ⟨run T n, T.free⟩) ⟨fun _ _ _ _ h => (by cases h), rfl⟩ (flagP_ok (h2 x hx))
  show Wc T (.regd ops keep own fl) e h _
  rw [Wc_regd e h _ ops keep own fl ⟨n, hf⟩]
  exact ⟨n, e', h', h1, h3⟩


/-- The end of a function: it hands this out. -/
def Ret (res : List RV) (frz : List (Nat × Bool)) (v : V) (h' : Heap) (x : Ex) (e : Env) (h : Heap) : Prop := x.fin (opt (resVs e h res) fun us => opt (freezes frz 0 us h) fun r => pack r.1 = v ∧ r.2 = h')
def epiV (res : List RV) (frz : List (Nat × Bool)) (e : Env) (h : Heap) : Option (V × Heap) := (resVs e h res).bind fun us => (freezes frz 0 us h).bind fun r => some (pack r.1, r.2)
theorem epiV_iff (res : List RV) (frz : List (Nat × Bool)) (v : V) (h' : Heap) (e : Env) (h : Heap) : (opt (resVs e h res) fun us => opt (freezes frz 0 us h) fun r => pack r.1 = v ∧ r.2 = h') = (epiV res frz e h = some (v, h')) := by
  unfold epiV
  cases resVs e h res with
  | none => simp only [opt_none, Option.bind_none, reduceCtorEq]
  | some us =>
    rw [opt_some, Option.bind_some]
    cases freezes frz 0 us h with
    | none => simp only [opt_none, Option.bind_none, reduceCtorEq]
    | some r => rw [opt_some, Option.bind_some]; simp
@[simp] theorem Ret_n (res : List RV) (frz : List (Nat × Bool)) (v : V) (h' : Heap) (e : Env) (h : Heap) : Ret res frz v h' .n e h = (epiV res frz e h = some (v, h')) := epiV_iff res frz v h' e h
@[simp] theorem Ret_r (res : List RV) (frz : List (Nat × Bool)) (v : V) (h' : Heap) (e : Env) (h : Heap) : Ret res frz v h' .r e h = (epiV res frz e h = some (v, h')) := epiV_iff res frz v h' e h
@[simp] theorem epiV_nof (res : List RV) (e : Env) (h : Heap) : epiV res [] e h = (resVs e h res).bind fun us => some (pack us, h) := by
  unfold epiV
  congr 1; funext us; rw [freezes_none]; rfl

/-- A goal that two ways come to. -/
theorem lift {P R : Prop} (main : (True → R) → P) (rest : R) : P := main fun _ => rest

/-- One way on for all that meet C. -/
theorem share {α : Type} {P : Prop} (C : α → Prop) (R : α → Prop) (main : (∀ a, C a → R a) → P) (rest : ∀ a, C a → R a) : P := main rest

theorem share2 {α β : Type} {P : Prop} (C : α → β → Prop) (R : α → β → Prop) (main : (∀ a b, C a b → R a b) → P) (rest : ∀ a b, C a b → R a b) : P := main rest
theorem share3 {α β γ : Type} {P : Prop} (C : α → β → γ → Prop) (R : α → β → γ → Prop) (main : (∀ a b c, C a b c → R a b c) → P) (rest : ∀ a b c, C a b c → R a b c) : P := main rest

@[simp] theorem epiV_frz (res : List RV) (f : Nat × Bool) (frz : List (Nat × Bool)) (e : Env) (h : Heap) : epiV res (f :: frz) e h = (resVs e h res).bind fun us => (freezes (f :: frz) 0 us h).bind fun r => some (pack r.1, r.2) := rfl

theorem Run.start {T : Table} {f : Nat} {k : ACode} {n : Nat} {res : List RV} {p r : List Nat} {frz : List (Nat × Bool)} {vs : List V} {h h' : Heap} {v : V} (hf : T f = some ⟨k, n, res, p, r, frz⟩)
    (hw : Xc T k [] (args 0 vs) h (Ret res frz v h')) : Run T f vs h v h' := Run.code hf hw

/-- The end of a function of which only the result matters. -/
def RetE (res : List RV) (frz : List (Nat × Bool)) (v : V) (x : Ex) (e : Env) (h : Heap) : Prop := x.fin (∃ h', epiV res frz e h = some (v, h'))
@[simp] theorem RetE_n (res : List RV) (frz : List (Nat × Bool)) (v : V) (e : Env) (h : Heap) : RetE res frz v .n e h = ∃ h', epiV res frz e h = some (v, h') := rfl
@[simp] theorem RetE_r (res : List RV) (frz : List (Nat × Bool)) (v : V) (e : Env) (h : Heap) : RetE res frz v .r e h = ∃ h', epiV res frz e h = some (v, h') := rfl
theorem Run.startE {T : Table} {f : Nat} {k : ACode} {n : Nat} {res : List RV} {p r : List Nat} {frz : List (Nat × Bool)} {vs : List V} {h : Heap} {v : V} (hf : T f = some ⟨k, n, res, p, r, frz⟩)
    (hw : Xc T k [] (args 0 vs) h (RetE res frz v)) : ∃ h', Run T f vs h v h' := by
  obtain ⟨m, x, e, h1, hr, hk⟩ := hw
  cases x with
  | x i => exact hk.elim
  | n =>
    obtain ⟨h', hk⟩ := hk
    exact ⟨h', Run.start hf ⟨m, .n, e, h1, hr, by show Xk T [] Ex.n e h1 (Ret res frz v h'); rw [Xk_nil, Ret_n]; exact hk⟩⟩
  | r =>
    obtain ⟨h', hk⟩ := hk
    exact ⟨h', Run.start hf ⟨m, .r, e, h1, hr, by show Xk T [] Ex.r e h1 (Ret res frz v h'); rw [Xk_nil, Ret_r]; exact hk⟩⟩

/-- The end of a function of which only a property of the result matters. -/
def RetP (res : List RV) (frz : List (Nat × Bool)) (P : V → Heap → Prop) (x : Ex) (e : Env) (h : Heap) : Prop := x.fin (opt (epiV res frz e h) fun r => P r.1 r.2)
def epiP (r : Option (V × Heap)) (P : V → Heap → Prop) : Prop := opt r fun r => P r.1 r.2
@[simp] theorem epiP_some (v : V) (h : Heap) (P : V → Heap → Prop) : epiP (some (v, h)) P = P v h := by unfold epiP; rw [opt_some]
@[simp] theorem RetP_n (res : List RV) (frz : List (Nat × Bool)) (P : V → Heap → Prop) (e : Env) (h : Heap) : RetP res frz P .n e h = epiP (epiV res frz e h) P := rfl
@[simp] theorem RetP_r (res : List RV) (frz : List (Nat × Bool)) (P : V → Heap → Prop) (e : Env) (h : Heap) : RetP res frz P .r e h = epiP (epiV res frz e h) P := rfl
theorem Run.startP {T : Table} {f : Nat} {k : ACode} {n : Nat} {res : List RV} {p r : List Nat} {frz : List (Nat × Bool)} {vs : List V} {h : Heap} {P : V → Heap → Prop} (hf : T f = some ⟨k, n, res, p, r, frz⟩)
    (hw : Xc T k [] (args 0 vs) h (RetP res frz P)) : ∃ v h', P v h' ∧ Run T f vs h v h' := by
  obtain ⟨m, x, e, h1, hr, hk⟩ := hw
  cases x with
  | x i => exact hk.elim
  | n =>
    obtain ⟨⟨v, h'⟩, hk, hp⟩ := hk
    exact ⟨v, h', hp, Run.start hf ⟨m, .n, e, h1, hr, by show Xk T [] Ex.n e h1 (Ret res frz v h'); rw [Xk_nil, Ret_n]; exact hk⟩⟩
  | r =>
    obtain ⟨⟨v, h'⟩, hk, hp⟩ := hk
    exact ⟨v, h', hp, Run.start hf ⟨m, .r, e, h1, hr, by show Xk T [] Ex.r e h1 (Ret res frz v h'); rw [Xk_nil, Ret_r]; exact hk⟩⟩

end Ev

/-! Ew, part M: rules for walks over maps. -/
namespace Ev
open Go

theorem hMeet_at : ∀ (a b : Heap) (i : Nat) (r : Option (List V)), a[i]? = some r → b[i]? = some r → (hMeet a b)[i]? = some r
  | [], _, _, _, h, _ => by simp at h
  | _ :: _, [], _, _, _, h => by simp at h
  | x :: a, y :: b, i, r, h, k => by
    cases i with
    | zero =>
      simp at h k
      subst h; subst k
      cases y <;> simp [hMeet, V.beqs_self]
    | succ i =>
      have : (hMeet (x :: a) (y :: b))[i + 1]? = (hMeet a b)[i]? := by cases x <;> cases y <;> simp [hMeet]
      rw [this]
      exact hMeet_at a b i r (by simpa using h) (by simpa using k)
theorem hMeet_app : ∀ (a x y : Heap), hMeet (a ++ x) (a ++ y) = a ++ hMeet x y
  | [], _, _ => rfl
  | none :: a, x, y => by simp [hMeet, hMeet_app a x y]
  | some r :: a, x, y => by simp [hMeet, hMeet_app a x y, V.beqs_self]
def Meets (S : Heap → Prop) : Prop := ∀ a b, S a → S b → S (hMeet a b)
theorem Meets.pre (a : Heap) : Meets fun h => ∃ J, h = a ++ J := fun x y ⟨j, hx⟩ ⟨k, hy⟩ => ⟨hMeet j k, by rw [hx, hy, hMeet_app]⟩
theorem Meets.at (i : Nat) (r : Option (List V)) : Meets fun h => h[i]? = some r := fun x y hx hy => hMeet_at x y i r hx hy
theorem Meets.and {S S' : Heap → Prop} (a : Meets S) (b : Meets S') : Meets fun h => S h ∧ S' h := fun x y hx hy => ⟨a x y hx.1 hy.1, b x y hx.2 hy.2⟩
theorem Meets.true : Meets fun _ => True := fun _ _ _ _ => trivial

section
variable (T : Table) (it : Nat) (keep : List Nat) (id : Nat) (body c : ACode)
/-- The walk, from here on. -/
def Mg (e : Env) (h : Heap) (y : Ex) (e' : Env) (S : Heap → Prop) : Prop := ∃ n h', mgo (fun e h => ((e.keep keep).get it).bind (picks h)) (fun e h => ev ⟨run T n, T.free⟩ n body (e.keep keep) h) (fun e h => ev ⟨run T n, T.free⟩ n c (e.keep keep) h) id n e h = some (y, e', h') ∧ S h'
/-- Behind one round. -/
def Mb (y : Ex) (e' : Env) (S : Heap → Prop) : Ex → Env → Heap → Prop
  | .n, e2, h2 => Mg T it keep id body c e2 h2 y e' S
  | .x i, e2, h2 => if i = id then Xc T c [] (e2.keep keep) h2 (fun x e h => x = y ∧ e = e' ∧ S h) else .x i = y ∧ e2 = e' ∧ S h2
  | .r, e2, h2 => .r = y ∧ e2 = e' ∧ S h2
def mbr (e : Env) (N m : Nat) (h1 : Heap) : Option (Ex × Env × Heap) := (ev ⟨run T N, T.free⟩ N body (e.keep keep) h1).bind fun (x, e2, h2) => match x with
  | .n => mgo (fun e h => ((e.keep keep).get it).bind (picks h)) (fun e h => ev ⟨run T N, T.free⟩ N body (e.keep keep) h) (fun e h => ev ⟨run T N, T.free⟩ N c (e.keep keep) h) id m e2 h2
  | .x i => if i = id then ev ⟨run T N, T.free⟩ N c (e2.keep keep) h2 else some (.x i, e2, h2)
  | .r => some (.r, e2, h2)
variable {T it keep id body c}
theorem mgo_up {n N m M : Nat} (h1 : n ≤ N) (h2 : m ≤ M) {e : Env} {h : Heap} {q : Ex × Env × Heap}
    (hq : mgo (fun e h => ((e.keep keep).get it).bind (picks h)) (fun e h => ev ⟨run T n, T.free⟩ n body (e.keep keep) h) (fun e h => ev ⟨run T n, T.free⟩ n c (e.keep keep) h) id m e h = some q) :
    mgo (fun e h => ((e.keep keep).get it).bind (picks h)) (fun e h => ev ⟨run T N, T.free⟩ N body (e.keep keep) h) (fun e h => ev ⟨run T N, T.free⟩ N c (e.keep keep) h) id M e h = some q :=
  mgo_mono (fun e h q hq => ev_mono (callee_mono T h1) h1 _ hq) (fun e h q hq => ev_mono (callee_mono T h1) h1 _ hq) m M h2 e h q hq
theorem mbr_up {n N m M : Nat} (h1 : n ≤ N) (h2 : m ≤ M) {e : Env} {h : Heap} {q : Ex × Env × Heap} (hq : mbr T it keep id body c e n m h = some q) : mbr T it keep id body c e N M h = some q := by
  unfold mbr at hq ⊢
  rw [Option.bind_eq_some_iff] at hq
  obtain ⟨⟨x, e2, g⟩, ha, hb⟩ := hq
  rw [ev_mono (callee_mono T h1) h1 _ ha]
  simp only [Option.bind_some] at hb ⊢
  cases x with
  | n => exact mgo_up h1 h2 hb
  | x i =>
    simp only at hb ⊢
    split at hb
    · rename_i e; rw [if_pos e]; exact ev_mono (callee_mono T h1) h1 _ hb
    · rename_i e; rw [if_neg e]; exact hb
  | r => exact hb
theorem mbr_ok {e : Env} {h1 : Heap} {y : Ex} {e' : Env} {S : Heap → Prop} (hb : Xc T body [] (e.keep keep) h1 (Mb T it keep id body c y e' S)) : ∃ n h', mbr T it keep id body c e n n h1 = some (y, e', h') ∧ S h' := by
  obtain ⟨n1, x, e2, h2, hv, hm⟩ := hb
  have hm : Mb T it keep id body c y e' S x e2 h2 := hm
  cases x with
  | n =>
    obtain ⟨n2, h', hg, hs⟩ := hm
    refine ⟨max n1 n2, h', ?_, hs⟩
    unfold mbr
    rw [ev_mono (callee_mono T (show n1 ≤ max n1 n2 by omega)) (show n1 ≤ max n1 n2 by omega) _ hv]
    exact mgo_up (by omega) (by omega) hg
  | x i =>
    simp only [Mb] at hm
    split at hm
    · rename_i hi
      obtain ⟨n2, x2, e3, h3, hv2, hx2, he3, hs⟩ := hm
      subst hx2; subst he3
      refine ⟨max n1 n2, h3, ?_, hs⟩
      unfold mbr
      rw [ev_mono (callee_mono T (show n1 ≤ max n1 n2 by omega)) (show n1 ≤ max n1 n2 by omega) _ hv]
      simp only [Option.bind_some, if_pos hi]
      exact ev_mono (callee_mono T (show n2 ≤ max n1 n2 by omega)) (show n2 ≤ max n1 n2 by omega) _ hv2
    · rename_i hi
      obtain ⟨rfl, rfl, hs⟩ := hm
      refine ⟨n1, h2, ?_, hs⟩
      unfold mbr
      rw [hv]
      simp only [Option.bind_some, if_neg hi]
  | r =>
    obtain ⟨rfl, rfl, hs⟩ := hm
    refine ⟨n1, h2, ?_, hs⟩
    unfold mbr
    rw [hv]
    rfl
theorem joinAll_S {S : Heap → Prop} (hS : Meets S) {y : Ex} {e' : Env} {f : Heap → Option (Ex × Env × Heap)} : ∀ (hs : List Heap), hs ≠ [] → (∀ h1, h1 ∈ hs → ∃ h', f h1 = some (y, e', h') ∧ S h') → ∃ h', joinAll (hs.map f) = some (y, e', h') ∧ S h'
  | [], h0, _ => absurd rfl h0
  | [a], _, hb => hb a (by simp)
  | a :: b :: l, _, hb => by
    obtain ⟨h1, k1, s1⟩ := hb a (by simp)
    obtain ⟨h2, k2, s2⟩ := joinAll_S hS (b :: l) (by simp) (fun c hc => hb c (by simp [hc]))
    refine ⟨hMeet h1 h2, ?_, hS _ _ s1 s2⟩
    show joinR (f a) (joinAll ((b :: l).map f)) = _
    rw [k1, k2]
    simp [joinR, Ex.beq_self, envEq_self]
/-- Nothing is left. -/
theorem Mg_over {e : Env} {h : Heap} {y : Ex} {e' : Env} {S : Heap → Prop} (hw : ((e.keep keep).get it).bind (picks h) = some []) (hc : Xc T c [] (e.keep keep) h fun x e h => x = y ∧ e = e' ∧ S h) : Mg T it keep id body c e h y e' S := by
  obtain ⟨n, x, e2, h2, hv, hx, he, hs⟩ := hc
  subst hx; subst he
  refine ⟨n + 1, h2, ?_, hs⟩
  simp only [mgo, hw, Option.bind_some, List.isEmpty_nil, if_true]
  exact ev_mono (callee_mono T (show n ≤ n + 1 by omega)) (show n ≤ n + 1 by omega) _ hv
/-- Whatever is told next. -/
theorem Mg_step {e : Env} {h : Heap} {y : Ex} {e' : Env} {S : Heap → Prop} (hS : Meets S) {hs : List Heap} (hw : ((e.keep keep).get it).bind (picks h) = some hs) (hne : hs ≠ [])
    (hb : ∀ h1, h1 ∈ hs → Xc T body [] (e.keep keep) h1 (Mb T it keep id body c y e' S)) : Mg T it keep id body c e h y e' S := by
  have all : ∀ (l : List Heap), (∀ h1, h1 ∈ l → Xc T body [] (e.keep keep) h1 (Mb T it keep id body c y e' S)) → ∃ N, ∀ h1, h1 ∈ l → ∃ h', mbr T it keep id body c e N N h1 = some (y, e', h') ∧ S h' := by
    intro l
    induction l with
    | nil => intro _; exact ⟨0, fun _ h => by cases h⟩
    | cons a l ih =>
      intro hl
      obtain ⟨N, hN⟩ := ih fun h1 hm => hl h1 (List.mem_cons_of_mem _ hm)
      obtain ⟨n, h', ha, hs⟩ := mbr_ok (hl a List.mem_cons_self)
      refine ⟨max N n, fun h1 hm => ?_⟩
      rcases List.mem_cons.1 hm with rfl | hm
      · exact ⟨h', mbr_up (by omega) (by omega) ha, hs⟩
      · obtain ⟨h2, hb, hs2⟩ := hN h1 hm
        exact ⟨h2, mbr_up (by omega) (by omega) hb, hs2⟩
  obtain ⟨N, hN⟩ := all hs hb
  have hN1 : ∀ h1, h1 ∈ hs → ∃ h', mbr T it keep id body c e (N + 1) N h1 = some (y, e', h') ∧ S h' := fun h1 hm => by
    obtain ⟨h', a, b⟩ := hN h1 hm
    exact ⟨h', mbr_up (by omega) (by omega) a, b⟩
  obtain ⟨h', hj, hs'⟩ := joinAll_S hS hs hne hN1
  refine ⟨N + 1, h', ?_, hs'⟩
  have he : hs.isEmpty = false := by cases hs with
    | nil => exact absurd rfl hne
    | cons _ _ => rfl
  simp only [mgo, hw, Option.bind_some, he, Bool.false_eq_true, if_false]
  exact hj
/-- Behind one round, with what is told of the rounds to come. -/
def Wb (T : Table) (keep : List Nat) (id : Nat) (c : ACode) (y : Ex) (e' : Env) (S : Heap → Prop) (In : Env → Heap → Prop) : Ex → Env → Heap → Prop
  | .n, e2, h2 => In e2 h2
  | .x i, e2, h2 => if i = id then Xc T c [] (e2.keep keep) h2 (fun x e h => x = y ∧ e = e' ∧ S h) else .x i = y ∧ e2 = e' ∧ S h2
  | .r, e2, h2 => .r = y ∧ e2 = e' ∧ S h2
theorem nodup_lt : ∀ (N : Nat) (l : List Nat), l.Nodup → (∀ p, p ∈ l → p < N) → l.length ≤ N
  | 0, [], _, _ => Nat.le_refl _
  | 0, a :: _, _, h => absurd (h a (by simp)) (Nat.not_lt_zero _)
  | N + 1, l, hn, h => by
    have h1 := nodup_lt N (l.erase N) (hn.erase N) (fun p hp => by
      have hp := (hn.mem_erase_iff).1 hp
      have := h p hp.2
      have := hp.1
      omega)
    rw [List.length_erase] at h1
    split at h1 <;> omega
theorem Xc_nil_mono {c0 : ACode} {e : Env} {h : Heap} {Q R : Ex → Env → Heap → Prop} (hx : Xc T c0 [] e h Q) (hq : ∀ x e h, Q x e h → R x e h) : Xc T c0 [] e h R := by
  obtain ⟨n, x, e1, h1, hv, hk⟩ := hx
  exact ⟨n, x, e1, h1, hv, hq x e1 h1 hk⟩
/-- A walk, with what holds of each state: seen tells the stamps that were told. -/
theorem Mg_walk {y : Ex} {e' : Env} {S : Heap → Prop} (hS : Meets S) {wk m N : Nat} (I : List Nat → List V → Env → Heap → Prop)
    (hI : ∀ seen kvs e h, I seen kvs e h → (e.keep keep).get it = some (.itr wk) ∧ (∃ last, N ≤ last ∧ h.row wk = some [.mp m, .ptr N last, seenV seen]) ∧ h.row m = some kvs ∧ isKvs kvs = true ∧ kvs.length = N)
    (over : ∀ seen kvs e h, I seen kvs e h → seen.Nodup → (∀ p x, kvs[p]? = some (.tup x) → p ∈ seen) → Xc T c [] (e.keep keep) h fun x e h => x = y ∧ e = e' ∧ S h)
    (step : ∀ seen kvs e h p x, I seen kvs e h → seen.Nodup → (∀ q, q ∈ seen → q < N) → kvs[p]? = some (.tup x) → p ∉ seen → Xc T body [] (e.keep keep) (h.set wk (some [.mp m, .ptr N N, seenV (seen ++ [p])])) (Wb T keep id c y e' S fun e2 h2 => ∃ kvs', I (seen ++ [p]) kvs' e2 h2)) :
    ∀ (k : Nat) (seen : List Nat) (kvs : List V) (e : Env) (h : Heap), N - seen.length ≤ k → I seen kvs e h → seen.Nodup → (∀ p, p ∈ seen → p < N) → Mg T it keep id body c e h y e' S := by
  intro k
  induction k with
  | zero =>
    intro seen kvs e h hk hi hn hlt
    obtain ⟨h1, ⟨last, h2, h3⟩, h4, h5, h6⟩ := hI seen kvs e h hi
    have hall : ∀ p x, kvs[p]? = some (.tup x) → p ∈ seen := fun p x hp => by
      by_cases hm : p ∈ seen
      · exact hm
      · have hpl : p < N := by
          have := (List.getElem?_eq_some_iff.1 hp).1
          omega
        have := nodup_lt N (p :: seen) (List.nodup_cons.2 ⟨hm, hn⟩) (fun q hq => by
          rcases List.mem_cons.1 hq with rfl | hq
          · exact hpl
          · exact hlt q hq)
        simp at this
        omega
    refine Mg_over ?_ (over seen kvs e h hi hn hall)
    have hc : cands (seen.map fun j => V.ptr j 0) kvs 0 = [] := by
      refine List.eq_nil_iff_forall_not_mem.2 fun p hp => ?_
      obtain ⟨_, ⟨x, hx⟩, hs⟩ := (mem_cands kvs 0 p).1 hp
      rw [seenHas_iff] at hs
      have := hall p x (by simpa using hx)
      simp [this] at hs
    simp only [h1, Option.bind_some, picks, h3, seenV, h4, h5, h6, hc, List.map_nil]
    rw [if_pos (by simp [h2])]
  | succ k ih =>
    intro seen kvs e h hk hi hn hlt
    obtain ⟨h1, ⟨last, h2, h3⟩, h4, h5, h6⟩ := hI seen kvs e h hi
    have hp : ((e.keep keep).get it).bind (picks h) = some ((cands (seen.map fun j => V.ptr j 0) kvs 0).map fun p => h.set wk (some [.mp m, .ptr N N, seenV (seen ++ [p])])) := by
      simp only [h1, Option.bind_some, picks, h3, seenV, h4, h5, h6, List.map_append, List.map_cons, List.map_nil]
      rw [if_pos (by simp [h2])]
    by_cases hc : cands (seen.map fun j => V.ptr j 0) kvs 0 = []
    · rw [hc] at hp
      refine Mg_over hp (over seen kvs e h hi hn fun p x hx => ?_)
      by_cases hm : p ∈ seen
      · exact hm
      · have : p ∈ cands (seen.map fun j => V.ptr j 0) kvs 0 := (mem_cands kvs 0 p).2 ⟨Nat.zero_le _, ⟨x, by simpa using hx⟩, by rw [seenHas_iff]; simpa using hm⟩
        rw [hc] at this
        cases this
    · refine Mg_step hS hp (by simpa using hc) fun h1 hm => ?_
      obtain ⟨p, hpc, rfl⟩ := List.mem_map.1 hm
      obtain ⟨_, ⟨x, hx⟩, hs⟩ := (mem_cands kvs 0 p).1 hpc
      rw [seenHas_iff] at hs
      have hx : kvs[p]? = some (.tup x) := by simpa using hx
      have hps : p ∉ seen := by simpa using hs
      have hpl : p < N := by
        have := (List.getElem?_eq_some_iff.1 hx).1
        omega
      refine Xc_nil_mono (step seen kvs e h p x hi hn hlt hx hps) fun y2 e2 h2 hw => ?_
      cases y2 with
      | n =>
        obtain ⟨kvs', hi'⟩ := hw
        refine ih (seen ++ [p]) kvs' e2 h2 (by simp; omega) hi' ?_ fun q hq => ?_
        · rw [List.nodup_append]
          exact ⟨hn, by simp, fun a ha b hb => by simp at hb; subst hb; exact fun e => hps (e ▸ ha)⟩
        · rcases List.mem_append.1 hq with hq | hq
          · exact hlt q hq
          · simp at hq; subst hq; exact hpl
      | x i => exact hw
      | r => exact hw
/-- A WALK OVER A MAP: whatever order, one end. -/
theorem Xc_mloop {pre : ACode} {d1 d2 : Nat} {own : List (Nat × Nat)} {ks : List Kt} {e : Env} {h : Heap} {Q : Ex → Env → Heap → Prop} (y : Ex) (e' : Env) (S : Heap → Prop)
    (hp : Xc T pre [] e h fun x e1 h1 => x = .n ∧ Mg T it keep id body c e1 h1 y e' S) (hQ : ∀ h', S h' → Xk T ks y e' h' Q) : Xc T (.mloop pre it d1 d2 keep own id body c) ks e h Q := by
  obtain ⟨n1, x, e1, h1, hv, hx, n2, h', hg, hs⟩ := hp
  subst hx
  refine ⟨max n1 n2, y, e', h', ?_, hQ h' hs⟩
  simp only [ev]
  rw [ev_mono (callee_mono T (show n1 ≤ max n1 n2 by omega)) (show n1 ≤ max n1 n2 by omega) _ hv]
  exact mgo_up (by omega) (by omega) hg
end
end Ev
