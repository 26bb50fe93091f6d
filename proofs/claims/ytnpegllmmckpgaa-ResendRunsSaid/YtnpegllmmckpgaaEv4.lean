/- The evaluator of abstract code, Ev4: calls and regions are computed rightly. No condition of its own: each theorem states its own. -/
import Derived.Test.YtnpegllmmckpgaaEv3
set_option linter.all false
/-! Ev, part X: calls as steps. -/
namespace Ev
open Go

theorem rel_scalar {G G' : Gh} {u : Value} {x : V} (h : Rel G u x) (hs : scalar x = true) : Rel G' u x := by
  cases x <;> simp only [scalar] at hs <;> try (cases hs; done)
  · cases h; exact .bool _
  · cases h; exact .int _ _
  · cases h; exact .str _ _ (by assumption)
  · rename_i vs
    cases h with
    | tup us vs hl hk =>
      refine .tup us vs hl fun j a b => ?_
      have h1 := List.all_eq_true.1 hs vs[j] (List.getElem_mem b)
      have h2 := hk j a b
      generalize vs[j] = y at h1 h2
      generalize us[j] = z at h2 ⊢
      cases y <;> simp at h1 <;> cases h2
      · exact .bool _
      · exact .int _ _
      · exact .str _ _ (by assumption)

section
variable {P : Program} {G : Gh} {ρ : Rho} {h : Heap} {w : World}

theorem iso_le (G : Gh) (ρ : Rho) (w : World) (lent : Bool) : ∀ r o v, G.st r o = some v → (G.iso ρ w lent).st r o = some v := fun r o v hv => by
  simp [Gh.iso, hv]

theorem lend_rels (m : Mem G h ρ w) (bor : List (Nat × Bool)) : ∀ (vs : List V) (i : Nat) (us : List Value) (vs' : List V), Rels G us vs → lend h bor i vs = some vs' → V.hfs vs' = true → Rels (G.iso ρ w true) us vs'
  | [], i, us, vs', hr, hl, _ => by
    simp [lend] at hl
    subst hl
    have : us = [] := List.length_eq_zero_iff.1 (by rw [hr.1]; rfl)
    subst this
    exact .nil
  | v :: vs, i, [], vs', hr, _, _ => by have := hr.1; simp at this
  | v :: vs, i, u :: us, vs', hr, hl, hf => by
    simp only [lend, Option.bind_eq_some_iff] at hl
    obtain ⟨v', h1, vs2, h2, h3⟩ := hl
    cases h3
    simp [V.hfs] at hf
    refine .cons ?_ (lend_rels m bor vs (i + 1) us vs2 hr.tail h2 hf.2)
    have rv := hr.head
    have same : v' = v → Rel (G.iso ρ w true) u v' := fun e => by subst e; exact rel_hf (iso_le G ρ w true) rv hf.1
    split at h1
    · cases h1
      cases rv
      exact .ps0 _ _
    · rename_i ag s b off len _
      simp only [Option.bind_eq_some_iff] at h1
      obtain ⟨cs, h4, h5⟩ := h1
      split at h5
      case isFalse => cases h5
      rename_i hk
      cases h5
      have hcl := hsCells_length h4
      obtain ⟨e1, e2, e3⟩ := chunk_spec s ag len cs hk hcl
      obtain ⟨r, o, cap, us', hueq, hu, ha, hcap, hone⟩ := m.hs rv h4
      have hfs : V.hfs (flat (chunk s ag len cs)) = true := hfs_flat _ (by simpa [V.hf] using hf.1)
      rw [e1] at hfs
      cases rv with
      | hs s b off len cap2 r' lo hi hg hh hc2 =>
        injection hueq with q1 q2 q3
        injection q1 with q1
        injection q1 with q4 q5
        have q6 : lo = o := by omega
        subst q4 q6 q3
        have hrow : ∃ row, h.row b = some row ∧ off + len * s ≤ row.length := by
          unfold hsCells at h4
          simp only [Option.bind_eq_some_iff] at h4
          obtain ⟨row, q1, q2⟩ := h4
          split at q2
          · exact ⟨row, q1, by assumption⟩
          · cases q2
        obtain ⟨row, hrow, hle⟩ := hrow
        obtain ⟨r2, lo2, hi2, us2, q1, q2, q3, _⟩ := blkRow m hrow ⟨_, hg⟩
        rw [hg] at q1
        cases q1
        refine rel_ps_new (us := us') (fun j hj => ?_) e2 hc2 e3 (by rw [e1]; exact rels_hf (iso_le G ρ w true) hu hfs)
        have hj2 : j < len * s := by rw [hu.1, hcl] at hj; exact hj
        have hcell := ha j us'[j] (List.getElem?_eq_getElem hj)
        have h1 := hone _ (List.getElem_mem hj)
        simp only [Gh.iso]
        have hno : G.st _ (lo + off + j) = none := (m.own _ _ _ _ q2 (lo + off + j) (by omega) (by omega)).2.2
        rw [hno]
        simp only [if_true]
        rw [if_pos ⟨b, lo, hi, q2, by omega, by omega⟩, hcell]
        simp [h1, List.getD, List.getElem?_eq_getElem hj]
    · cases h1
      exact same rfl

theorem lend_id (bor : List (Nat × Bool)) : ∀ (vs : List V) (i : Nat) (vs' : List V), lend h bor i vs = some vs' → (∀ j ag, bor.lookup (i + j) = some ag → (∀ s b off len, vs[j]? ≠ some (.hs s b off len)) ∧ ∀ s, vs[j]? ≠ some (.hn s)) → vs' = vs
  | [], i, vs', hl, _ => by simp [lend] at hl; exact hl
  | v :: vs, i, vs', hl, hn => by
    simp only [lend, Option.bind_eq_some_iff] at hl
    obtain ⟨v', h1, vs2, h2, h3⟩ := hl
    cases h3
    rw [lend_id bor vs (i + 1) vs2 h2 (fun j ag hb => by
      have := hn (j + 1) ag (by rw [← hb]; congr 1; omega)
      simpa using this)]
    congr 1
    split at h1
    · rename_i ag s hb
      exact absurd rfl ((hn 0 ag (by simpa using hb)).2 s)
    · rename_i ag s b off len hb
      exact absurd rfl ((hn 0 ag (by simpa using hb)).1 s b off len)
    · cases h1; rfl

theorem lents_false {bor : List (Nat × Bool)} {vs : List V} (hl : lents bor vs = false) : ∀ j ag, bor.lookup (0 + j) = some ag → (∀ s b off len, vs[j]? ≠ some (.hs s b off len)) ∧ ∀ s, vs[j]? ≠ some (.hn s) := fun j ag hb => by
  unfold lents at hl
  rw [List.any_eq_false] at hl
  have hm : (j, ag) ∈ bor := by
    rw [Nat.zero_add] at hb
    clear hl
    induction bor with
    | nil => simp at hb
    | cons x r ih =>
      obtain ⟨k, b⟩ := x
      simp only [List.lookup_cons] at hb
      split at hb
      · rename_i hk
        cases hb
        simp at hk
        subst hk
        simp
      · exact List.mem_cons_of_mem _ (ih hb)
  exact ⟨fun s b off len e => hl _ hm (by simp [e]), fun s e => hl _ hm (by simp [e])⟩
end
end Ev

/-! Ev, part Y: a call is a step of the state. -/
namespace Ev
open Go

def chkCall (sig : Sig) (ao : AOp) (o : Op) : Bool :=
  match ao with
  | .callp f args bor => match o with
    | .call { callee := .value (.func g), args := args', argTypes := _ } => f == g && chkAs args args'.toList && (match sig f with | some (ps, _) => ps.all fun p => (bor.lookup p).isNone | none => false)
    | _ => false
  | .callh f args => match o with
    | .call { callee := .value (.func g), args := args', argTypes := _ } => f == g && chkAs args args'.toList && (sig f).isSome
    | _ => false
  | .callv x args => match o with
    | .call { callee := .value y, args := args', argTypes := _ } => chkA x y && chkAs args args'.toList
    | _ => false
  | _ => false

section
variable {P : Program} {T : Table} {C : Callee} {sig : Sig} {G : Gh} {ρ : Rho} {h : Heap} {w : World}
variable {e : Env} {O O' : Own} {a : Act} {o : Oper} {v : V} {h' : Heap}

/-- What a step leaves, where a call may be made. -/
def StepsTo (P : Program) (G : Gh) (ρ : Rho) (e : Env) (O' : Own) (a : Act) (w : World) (o : Oper) (v : V) (h' : Heap) : Prop :=
  ∀ (next : Act → World → Prop) (Q : Exit → Act → World → Prop), (∀ u w' G' ρ', St G' ρ' (e.put o.dst v) h' O' (a.put o.dst u).tmps w' → Fr G ρ w G' ρ' w' → next (a.put o.dst u) w') → o.wp P a w next Q

theorem StepsTo.of_stepped (hs : Stepped P G ρ e O' a w o v h') : StepsTo P G ρ e O' a w o v h' := by
  intro next Q hn
  obtain ⟨nx, u, w', G', ρ', hrun, hnx, st, f⟩ := hs
  unfold Oper.wp
  rw [hrun]
  rcases hnx with rfl | ⟨rfl, rfl⟩
  · exact hn _ _ _ _ st f
  · exact hn _ _ _ _ st f

theorem run_call {f : Nat} {cap : Array Value} {y : Operand} {args : Array Operand} {ats : Array Nat} (ho : o.op = .call { callee := .value y, args, argTypes := ats }) (hy : a.eval y = .func (.func f) #[] cap) (hf : funcOk P f = true) :
    (execOp a.eval o).run P w = .ok (.enter f (args.map a.eval ++ cap)) w := by
  simp only [execOp, ho, resolve, hy, Deferred.ofValue, pure_bind, invoke]
  rw [callFunc_run hf]
  simp

/-- The owners that the callee is handed are as told. -/
theorem pass_own (st : St G ρ e h O a.tmps w) {blks : Bool} {args : List A} {ys : List Operand} (hch : chkAs args ys = true) {vs : List V} (hvs : A.evs e args = some vs) {ps : List Nat} {d : Option Nat} {O2 : Own} (hg : giveUp O d args ps = some O2) {vs' : List V}
    (hsame : ∀ (p : Nat) (x : V), vs[p]? = some x → (∃ s xs, x = V.ps s xs) → vs'[p]? = some x) (hno : ∀ (p s : Nat), p ∈ ps → args[p]? = some (.t s) → ∃ x, vs'[p]? = vs[p]? ∧ vs[p]? = some x) :
    ∀ p, p ∈ ps → ∃ u x, (ys.map a.eval)[p]? = some u ∧ vs'[p]? = some x ∧ OwnVal u x ((ρ.pass blks args ps) (.key p 0)) := by
  have get : ∀ (args : List A) (ys : List Operand) (vs : List V), chkAs args ys = true → A.evs e args = some vs → ∀ (p : Nat) (x : A), args[p]? = some x → ∃ (y : Operand) (v : V), ys[p]? = some y ∧ vs[p]? = some v ∧ chkA x y = true ∧ x.ev e = some v := by
    intro args
    induction args with
    | nil => intro ys vs _ _ p x hp; simp at hp
    | cons b args ih =>
      intro ys vs hc hv p x hp
      cases ys with
      | nil => simp [chkAs] at hc
      | cons y ys =>
        simp [chkAs] at hc
        simp only [A.evs, Option.bind_eq_some_iff] at hv
        obtain ⟨v1, h1, vs1, h2, h3⟩ := hv
        cases h3
        cases p with
        | zero => simp at hp; subst hp; exact ⟨y, v1, by simp, by simp, hc.1, h1⟩
        | succ p =>
          obtain ⟨y', v', k1, k2, k3⟩ := ih ys vs1 hc.2 h2 p x (by simpa using hp)
          exact ⟨y', v', by simpa using k1, by simpa using k2, k3⟩
  obtain ⟨_, i2, _⟩ := giveUp_spec ps O O2 hg
  intro p hp
  rcases i2 p hp with ⟨s, e1, e2, _⟩ | ⟨x, e1, e2⟩
  · obtain ⟨y, v1, k1, k2, k3, k4⟩ := get args ys vs hch hvs p _ e1
    obtain ⟨x, q1, q2⟩ := hno p s hp e1
    refine ⟨a.eval y, v1, by simp [k1], by rw [q1, k2], ?_⟩
    have := base_own st k3 rfl k4 e2
    simp only [Rho.pass]
    rw [if_pos (by simp [hp]), e1]
    exact this
  · obtain ⟨y, v1, k1, k2, k3, k4⟩ := get args ys vs hch hvs p _ e1
    obtain ⟨⟨s1, hs1⟩, hu⟩ := nil_own (a := a) k3 e2 k4
    refine ⟨a.eval y, v1, by simp [k1], hsame p v1 k2 ⟨s1, [], hs1⟩, ?_⟩
    have hnone : (ρ.pass blks args ps) (.key p 0) = none := by
      simp only [Rho.pass]
      rw [if_pos (by simp [hp]), e1]
      cases x with
      | t s => simp [nilSl] at e2
      | c z => rfl
      | g z => rfl
    rw [hu, hs1, hnone]
    exact rfl

theorem pass_only (ρ : Rho) (blks : Bool) (args : List A) (ps : List Nat) : ∀ s c, (ρ.pass blks args ps) (.key s c) ≠ none → c = 0 ∧ s ∈ ps := fun s c hk => by
  simp only [Rho.pass] at hk
  split at hk
  · assumption
  · exact absurd rfl hk

/-- The owners behind a call. -/
def Rho.after (ρ ρc' : Rho) (blks : Bool) (d : Option Nat) (O2 : Own) (rs : List Nat) : Rho
  | .blk b => if blks then ρc' (.blk b) else ρ (.blk b)
  | .key s c => if d = some s then (if c ∈ rs then ρc' (.key 0 c) else none) else if (s, c) ∈ O2 then ρ (.key s c) else none

theorem after_st (st : St G ρ e h O a.tmps w) (hd : ∀ s, o.dst = some s → s < a.tmps.size) {ρc' : Rho} {blks : Bool} {O2 : Own} {rs : List Nat} (hsub : ∀ k, k ∈ O2 → k ∈ O) {G' : Gh} {w' : World} {u : Value} (hle : G.le G') (hr : Rel G' u v)
    (m : Mem G' h' (ρ.after ρc' blks o.dst O2 rs) w') (hown : ∀ c, c ∈ rs → ∃ u' x, compR u c = some u' ∧ compV v c = some x ∧ OwnVal u' x (ρc' (.key 0 c))) :
    St G' (ρ.after ρc' blks o.dst O2 rs) (e.put o.dst v) h' (gain (dropSlot O2 o.dst) o.dst rs) (a.put o.dst u).tmps w' := by
  rw [put_tmps]
  refine st.put hd hle hr m _ (fun s c hk => ?_) (fun s c hk => ?_)
  · rcases mem_gain.1 hk with hk | ⟨hk, hc⟩
    · have hin := dropSlot_sub _ _ _ hk
      have hne : o.dst ≠ some s := fun e => by
        rw [e] at hk
        exact dropSlot_ne hk rfl
      refine .inl ⟨hne, hsub _ hin, ?_⟩
      simp [Rho.after, hne, hin]
    · refine .inr ⟨hk, ?_⟩
      obtain ⟨u', x, k1, k2, k3⟩ := hown c hc
      exact ⟨u', x, k1, k2, by simpa [Rho.after, hk, hc] using k3⟩
  · simp only [Rho.after]
    split
    · rename_i e
      split
      · rename_i hc; exact absurd (mem_gain.2 (.inr ⟨e, hc⟩)) hk
      · rfl
    · rename_i e
      split
      · rename_i hin
        exfalso
        apply hk
        refine mem_gain.2 (.inl ?_)
        cases hdst : o.dst with
        | none => exact hin
        | some d => exact List.mem_filter.2 ⟨hin, by simp; exact fun k => e (by rw [hdst, k])⟩
      · rfl

theorem tok_call {f : Nat} {args : List A} {d : Option Nat} (ht : ((sig f).bind fun (ps, rs) => (giveUp O d args ps).bind fun O2 => some (gain (dropSlot O2 d) d rs)) = some O') : ∃ ps rs O2, sig f = some (ps, rs) ∧ giveUp O d args ps = some O2 ∧ O' = gain (dropSlot O2 d) d rs := by
  obtain ⟨⟨ps, rs⟩, h1, h2⟩ := pair_bind ht
  obtain ⟨O2, h3, h4⟩ := pair_bind h2
  cases h4
  exact ⟨ps, rs, O2, h1, h3, rfl⟩

theorem step_callh (hC : CallsOk P T C) (hT : ∀ f af, T f = some af → funcOk P f = true) (hS : ∀ f ps rs, sig f = some (ps, rs) → ∃ af, T f = some af ∧ af.ownP = ps ∧ af.ownR = rs)
    {f : Nat} {args : List A} (st : St G ρ e h O a.tmps w) (hc : chkCall sig (.callh f args) o.op = true) (hd : ∀ s, o.dst = some s → s < a.tmps.size) (ht : tokOp sig (.callh f args) o.dst O = some O') (hv : evOp C (.callh f args) e h = some (v, h')) :
    StepsTo P G ρ e O' a w o v h' := by
  simp only [evOp] at hv
  obtain ⟨vs, h1, h2⟩ := pair_bind hv
  simp only [tokOp] at ht
  obtain ⟨ps, rs, O2, t1, t2, rfl⟩ := tok_call ht
  obtain ⟨af, a1, a2, a3⟩ := hS f ps rs t1
  obtain ⟨af', b1, b2⟩ := hC.2 f vs h v h' h2
  rw [a1] at b1
  cases b1
  have hch : ∃ args' ats, o.op = .call { callee := .value (.func f), args := args', argTypes := ats } ∧ chkAs args args'.toList = true := by
    cases ho : o.op <;> simp only [chkCall, ho] at hc <;> try (cases hc; done)
    rename_i c
    obtain ⟨callee, args', ats⟩ := c
    cases callee <;> try (cases hc; done)
    rename_i y
    cases y <;> try (cases hc; done)
    simp only [Bool.and_eq_true, beq_iff_eq] at hc
    obtain ⟨⟨rfl, c2⟩, _⟩ := hc
    exact ⟨args', ats, rfl, c2⟩
  obtain ⟨args', ats, ho, c2⟩ := hch
  obtain ⟨i1, i2, i3⟩ := giveUp_spec ps O O2 t2
  have hrun := run_call (P := P) (a := a) (w := w) (cap := #[]) ho rfl (hT f af a1)
  have hus : args'.map a.eval ++ #[] = (args'.toList.map a.eval).toArray := by apply Array.ext'; simp
  intro next Q hn
  unfold Oper.wp
  rw [hrun, hus]
  have hcall := b2 G (ρ.pass true args ps) w (args'.toList.map a.eval) (As_rel st.env args args'.toList c2 vs h1) (st.mem.pass args ps i3) st.env.gl
    (by rw [a2]; exact pass_own st c2 h1 t2 (fun p x hx _ => hx) (fun p s hp hs => by
      have hlen : ∀ (args : List A) (vs : List V), A.evs e args = some vs → ∀ (p : Nat) (x : A), args[p]? = some x → ∃ v, vs[p]? = some v := by
        intro args
        induction args with
        | nil => intro vs _ p x hp; simp at hp
        | cons b args ih =>
          intro vs hv p x hp
          simp only [A.evs, Option.bind_eq_some_iff] at hv
          obtain ⟨v1, _, vs1, q2, q3⟩ := hv
          cases q3
          cases p with
          | zero => exact ⟨v1, rfl⟩
          | succ p => obtain ⟨v', k⟩ := ih vs1 q2 p x (by simpa using hp); exact ⟨v', by simpa using k⟩
      obtain ⟨x, hx⟩ := hlen args vs h1 p _ hs
      exact ⟨x, rfl, hx⟩))
    (by rw [a2]; exact pass_only ρ true args ps)
  refine Calls.mono hcall ?_
  rintro en w' ⟨u, G', ρc', rfl, hr, m', f', hown, hnone⟩
  rw [a3] at hown hnone
  show next (a.put o.dst u) w'
  have hfr := call_frame st.mem (passPi args) (pass_pi ρ true args ps) f' m' (ρ.after ρc' true o.dst O2 rs) (fun | .blk b => .blk b | .key _ c => .key 0 c)
    (fun x R hx => by
      cases x with
      | blk b => exact .inr (by simpa [Rho.after] using hx)
      | key s c =>
        simp only [Rho.after] at hx
        split at hx
        · split at hx
          · exact .inr hx
          · cases hx
        · split at hx
          · rename_i hin
            refine .inl ⟨hx, fun y hy => ?_, by simp⟩
            cases y with
            | blk b => simp [passPi]
            | key p c' =>
              obtain ⟨rfl, hp⟩ := pass_only ρ true args ps p c' hy
              rcases i2 p hp with ⟨s', e1, _, _, e4⟩ | ⟨x, e1, e2⟩
              · simp only [passPi, e1]
                intro k
                cases k
                exact e4 hin
              · simp only [Rho.pass] at hy
                rw [if_pos (by simp [hp]), e1] at hy
                cases x with
                | t s => simp [nilSl] at e2
                | c z => exact absurd rfl hy
                | g z => exact absurd rfl hy
          · cases hx)
    (fun x y hx hy cx cy hxy => by
      have key : ∀ s c, (ρ.after ρc' true o.dst O2 rs) (.key s c) ≠ none → ¬ (ρ (.key s c) = (ρ.after ρc' true o.dst O2 rs) (.key s c) ∧ (∀ z, (ρ.pass true args ps) z ≠ none → passPi args z ≠ .key s c) ∧ ∀ b, Ow.key s c ≠ .blk b) → o.dst = some s := by
        intro s c hk hk2
        refine Classical.byContradiction fun hne => hk2 ?_
        simp only [Rho.after] at hk ⊢
        rw [if_neg hne] at hk ⊢
        split at hk
        · rename_i hin
          rw [if_pos hin]
          refine ⟨rfl, fun z hz => ?_, by simp⟩
          cases z with
          | blk b => simp [passPi]
          | key p c' =>
            obtain ⟨rfl, hp⟩ := pass_only ρ true args ps p c' hz
            rcases i2 p hp with ⟨s', e1, _, _, e4⟩ | ⟨x, e1, e2⟩
            · simp only [passPi, e1]
              intro k
              cases k
              exact e4 hin
            · simp only [Rho.pass] at hz
              rw [if_pos (by simp [hp]), e1] at hz
              cases x with
              | t s => simp [nilSl] at e2
              | c z => exact absurd rfl hz
              | g z => exact absurd rfl hz
        · exact absurd rfl hk
      cases x with
      | blk b =>
        cases y with
        | blk b' => simpa using hxy
        | key s c => simp at hxy
      | key s c =>
        cases y with
        | blk b' => simp at hxy
        | key s' c' =>
          have e1 := key s c hx cx
          have e2 := key s' c' hy cy
          simp at hxy
          rw [e1] at e2
          cases e2
          rw [hxy])
    (fun b => by simp [Rho.after])
  exact hn u w' G' _ (after_st st hd i1 f'.le hr hfr.1 hown) hfr.2
end
end Ev

/-! Ev, part Z: calls that see nothing of the abstract heap; calls of function values; each operation. -/
namespace Ev
open Go
section
variable {P : Program} {T : Table} {C : Callee} {sig : Sig} {G : Gh} {ρ : Rho} {h : Heap} {w : World}
variable {e : Env} {O O' : Own} {a : Act} {o : Oper} {v : V} {h' : Heap}

theorem evs_get {e : Env} : ∀ (args : List A) (vs : List V), A.evs e args = some vs → ∀ (p : Nat) (x : A), args[p]? = some x → ∃ v, vs[p]? = some v ∧ x.ev e = some v := by
  intro args
  induction args with
  | nil => intro vs _ p x hp; simp at hp
  | cons b args ih =>
    intro vs hv p x hp
    simp only [A.evs, Option.bind_eq_some_iff] at hv
    obtain ⟨v1, q1, vs1, q2, q3⟩ := hv
    cases q3
    cases p with
    | zero => simp at hp; subst hp; exact ⟨v1, rfl, q1⟩
    | succ p => obtain ⟨v', k⟩ := ih vs1 q2 p x (by simpa using hp); exact ⟨v', by simpa using k⟩

theorem lend_get (bor : List (Nat × Bool)) : ∀ (vs : List V) (i : Nat) (vs' : List V), lend h bor i vs = some vs' → ∀ (p : Nat), bor.lookup (i + p) = none → vs'[p]? = vs[p]?
  | [], i, vs', hl, p, _ => by simp [lend] at hl; rw [hl]
  | v :: vs, i, vs', hl, p, hn => by
    simp only [lend, Option.bind_eq_some_iff] at hl
    obtain ⟨v', h1, vs2, h2, h3⟩ := hl
    cases h3
    cases p with
    | zero =>
      rw [Nat.add_zero] at hn
      rw [hn] at h1
      cases h1; rfl
    | succ p => simpa using lend_get bor vs (i + 1) vs2 h2 p (by rw [← hn]; congr 1; omega)

theorem own_not_hs {u : Value} {s b off len : Nat} {r : Option Reg} (ho : OwnVal u (.hs s b off len) r) : r = none := by
  cases u <;> first | exact ho.elim | (rename_i a _ _; cases a <;> exact ho)

theorem own_some {u : Value} {x : V} {R : Reg} (ho : OwnVal u x (some R)) : ∃ s xs, x = .ps s xs := by
  cases x with
  | ps s xs => exact ⟨s, xs, rfl⟩
  | hs s b off len => have := own_not_hs ho; cases this
  | hn s => cases u <;> first | exact ho.elim | (rename_i a _ _; cases a <;> cases ho)
  | hc _ _ _ _ _ => cases u <;> first | exact ho.elim | (rename_i a _ _; cases a <;> cases ho)
  | _ => cases u <;> first | exact ho.elim | (rename_i a _ _; cases a <;> exact ho.elim)

/-- The whole rest of a call's step, for keys: which of the owners behind the call are the callee's. -/
theorem after_key {blks : Bool} {args : List A} {ps : List Nat} {O2 : Own} {d : Option Nat}
    (i2 : ∀ p, p ∈ ps → (∃ s, args[p]? = some (.t s) ∧ (s, 0) ∈ O ∧ d ≠ some s ∧ (s, 0) ∉ O2) ∨ ∃ x, args[p]? = some x ∧ nilSl x = true) (s c : Nat) (hin : (s, c) ∈ O2) :
    ∀ z, (ρ.pass blks args ps) z ≠ none → passPi args z ≠ .key s c := fun z hz => by
  cases z with
  | blk b => simp [passPi]
  | key p c' =>
    obtain ⟨rfl, hp⟩ := pass_only ρ blks args ps p c' hz
    rcases i2 p hp with ⟨s', e1, _, _, e4⟩ | ⟨x, e1, e2⟩
    · simp only [passPi, e1]
      intro k
      cases k
      exact e4 hin
    · simp only [Rho.pass] at hz
      rw [if_pos (by simp [hp]), e1] at hz
      cases x with
      | t s => simp [nilSl] at e2
      | c z => exact absurd rfl hz
      | g z => exact absurd rfl hz

theorem pass_nblk (ρ : Rho) (args : List A) (ps : List Nat) : ∀ y, (ρ.pass false args ps) y ≠ none → ∀ b, passPi args y ≠ .blk b := fun y hy b => by
  cases y with
  | blk c => simp [Rho.pass] at hy
  | key p c => simp only [passPi]; split <;> simp

theorem step_callp (hC : CallsOk P T C) (hT : ∀ f af, T f = some af → funcOk P f = true) (hS : ∀ f ps rs, sig f = some (ps, rs) → ∃ af, T f = some af ∧ af.ownP = ps ∧ af.ownR = rs)
    {f : Nat} {args : List A} {bor : List (Nat × Bool)} (st : St G ρ e h O a.tmps w) (hc : chkCall sig (.callp f args bor) o.op = true) (hd : ∀ s, o.dst = some s → s < a.tmps.size) (ht : tokOp sig (.callp f args bor) o.dst O = some O') (hv : evOp C (.callp f args bor) e h = some (v, h')) :
    StepsTo P G ρ e O' a w o v h' := by
  simp only [evOp] at hv
  obtain ⟨vs, h1, h2⟩ := pair_bind hv
  obtain ⟨vs', h3, h4⟩ := pair_bind h2
  obtain ⟨v', h5, h6⟩ := pair_bind h4
  cases h6
  unfold callP at h5
  split at h5
  case isFalse => cases h5
  rename_i hhf
  obtain ⟨⟨v2, hc2⟩, h7, h8⟩ := pair_bind h5
  simp only at h8
  split at h8
  case isFalse => cases h8
  rename_i hres
  cases h8
  simp only [Bool.and_eq_true, Bool.or_eq_true, Bool.not_eq_true'] at hres
  obtain ⟨hvhf, hsc⟩ := hres
  simp only [tokOp] at ht
  obtain ⟨ps, rs, O2, t1, t2, rfl⟩ := tok_call ht
  obtain ⟨af, a1, a2, a3⟩ := hS f ps rs t1
  obtain ⟨af', b1, b2⟩ := hC.2 f vs' [] v hc2 h7
  rw [a1] at b1
  cases b1
  have hch : ∃ args' ats, o.op = .call { callee := .value (.func f), args := args', argTypes := ats } ∧ chkAs args args'.toList = true ∧ ∀ p, p ∈ ps → bor.lookup p = none := by
    cases ho : o.op <;> simp only [chkCall, ho] at hc <;> try (cases hc; done)
    rename_i c
    obtain ⟨callee, args', ats⟩ := c
    cases callee <;> try (cases hc; done)
    rename_i y
    cases y <;> try (cases hc; done)
    simp only [Bool.and_eq_true, beq_iff_eq] at hc
    obtain ⟨⟨rfl, c2⟩, c3⟩ := hc
    rw [t1] at c3
    refine ⟨args', ats, rfl, c2, fun p hp => ?_⟩
    have := List.all_eq_true.1 c3 p hp
    simpa using this
  obtain ⟨args', ats, ho, c2, hbor⟩ := hch
  obtain ⟨i1, i2, i3⟩ := giveUp_spec ps O O2 t2
  have hrun := run_call (P := P) (a := a) (w := w) (cap := #[]) ho rfl (hT f af a1)
  have hus : args'.map a.eval ++ #[] = (args'.toList.map a.eval).toArray := by apply Array.ext'; simp
  have hrels := As_rel st.env args args'.toList c2 vs h1
  have hlent : Rels (G.iso ρ w (lents bor vs)) (args'.toList.map a.eval) vs' := by
    cases hl : lents bor vs with
    | true => exact lend_rels st.mem bor vs 0 _ vs' hrels h3 hhf
    | false =>
      have e1 := lend_id bor vs 0 vs' h3 (lents_false hl)
      subst e1
      exact rels_hf (iso_le G ρ w false) hrels hhf
  intro next Q hn
  unfold Oper.wp
  rw [hrun, hus]
  have hcall := b2 (G.iso ρ w (lents bor vs)) (ρ.pass false args ps) w (args'.toList.map a.eval) hlent (st.mem.iso args ps i3 _) (st.env.gl.hf (iso_le G ρ w _))
    (by
      rw [a2]
      intro p hp
      obtain ⟨u, x, k1, k2, k3⟩ := pass_own st (blks := false) c2 h1 t2 (vs' := vs) (fun p x hx _ => hx) (fun p s hp hs => by
        obtain ⟨x, hx, _⟩ := evs_get args vs h1 p _ hs
        exact ⟨x, rfl, hx⟩) p hp
      exact ⟨u, x, k1, by rw [lend_get bor vs 0 vs' h3 p (by rw [Nat.zero_add]; exact hbor p hp)]; exact k2, k3⟩)
    (by rw [a2]; exact pass_only ρ false args ps)
  refine Calls.mono hcall ?_
  rintro en w' ⟨u, G', ρc', rfl, hr, m', f', hown, hnone⟩
  rw [a3] at hown hnone
  show next (a.put o.dst u) w'
  -- what is known behind the call
  have G2 : ∃ G2 : Gh, G2.reg = G.reg ∧ G2.ob = G.ob ∧ (∀ r o v, G.st r o = some v → G2.st r o = some v) ∧
      (∀ r o v, G2.st r o = some v → G'.st r o = some v ∧ (G.st r o ≠ none ∨ ∀ x lo hi, (∀ y, (ρ.pass false args ps) y ≠ none → passPi args y ≠ x) → ρ x = some (r, lo, hi) → lo ≤ o → o < hi → False)) ∧
      Rel G2 u v ∧ (∀ c, c ∈ rs → ∀ r lo hi, ρc' (.key 0 c) = some (r, lo, hi) → ∀ o, lo ≤ o → o < hi → G2.st r o = none) ∧
      (∀ x r lo hi, ρ x = some (r, lo, hi) → (∀ y, (ρ.pass false args ps) y ≠ none → passPi args y ≠ x) → ∀ o, lo ≤ o → o < hi → G2.st r o = none) := by
    cases hl : lents bor vs with
    | true =>
      rw [hl] at f' hsc hlent
      have hs : scalar v = true := hsc.resolve_left (by simp)
      refine ⟨G, rfl, rfl, fun _ _ _ k => k, fun r o v hv => ⟨f'.le.s r o v (iso_le G ρ w true r o v hv), .inl (by rw [hv]; simp)⟩, rel_scalar hr hs, fun c hcr r lo hi hk o ha hb => ?_, fun x r lo hi hx _ o ha hb => (st.mem.own x r lo hi hx o ha hb).2.2⟩
      obtain ⟨u', x, k1, k2, k3⟩ := hown c hcr
      exfalso
      have : ∀ s xs, x ≠ .ps s xs := fun s xs e => by
        subst e
        cases c with
        | zero => simp [compV] at k2; subst k2; simp [scalar] at hs
        | succ c =>
          cases v <;> simp [compV] at k2
          simp only [scalar] at hs
          have := List.all_eq_true.1 hs _ (List.mem_of_getElem? k2)
          simp at this
      obtain ⟨s, xs, rfl⟩ := own_some (R := (r, lo, hi)) (by rw [← hk]; exact k3)
      exact this _ _ rfl
    | false =>
      rw [hl] at f' hlent
      have hst0 : ∀ r o, (G.iso ρ w false).st r o = G.st r o := fun r o => by
        simp only [Gh.iso]
        cases G.st r o <;> simp
      have hkept : ∀ x r lo hi, ρ x = some (r, lo, hi) → (∀ y, (ρ.pass false args ps) y ≠ none → passPi args y ≠ x) → ∀ o, lo ≤ o → o < hi → G'.st r o = none := fun x r lo hi hx hno o ha hb =>
        (frame_addr st.mem (passPi args) (pass_pi ρ false args ps) f' hx hno (fun o ha hb => by rw [hst0]; exact (st.mem.own x r lo hi hx o ha hb).2.2) ha hb).2.2.1
      refine ⟨⟨G'.st, G.reg, G.ob⟩, rfl, rfl, fun r o v hv => f'.le.s r o v (by rw [hst0]; exact hv), fun r o v hv => ⟨hv, .inr fun x lo hi hno hx ha hb => ?_⟩, rel_hf (G := G') (G' := ⟨G'.st, G.reg, G.ob⟩) (fun _ _ _ k => k) hr hvhf, fun c hcr r lo hi hk o ha hb => (m'.own _ r lo hi hk o ha hb).2.2, hkept⟩
      have := hkept x r lo hi hx hno o ha hb
      rw [this] at hv
      cases hv
  obtain ⟨G2, g1, g1o, g2, g3, g4, g5, g6⟩ := G2
  have hfr := iso_frame st.mem (passPi args) (pass_pi ρ false args ps) (pass_nblk ρ args ps) (iso_le G ρ w (lents bor vs))
    (fun r o k => by
      simp only [Gh.iso] at k
      split at k
      · rename_i v hv; exact .inl (by rw [hv]; simp)
      · split at k
        · split at k
          · rename_i hx; exact .inr hx
          · exact absurd rfl k
        · exact absurd rfl k) f' m' G2 g1 g1o (fun _ => rfl) g2 g3 (ρ.after ρc' false o.dst O2 rs) (fun | .blk b => .blk b | .key _ c => .key 0 c)
    (fun x R hx => by
      cases x with
      | blk b =>
        refine .inl ⟨by simpa [Rho.after] using hx, fun y hy => pass_nblk ρ args ps y hy b⟩
      | key s c =>
        simp only [Rho.after] at hx
        split at hx
        · split at hx
          · rename_i hcr
            exact .inr ⟨by simp, ⟨0, c, rfl⟩, hx, fun r lo hi e => g5 c hcr r lo hi (by rw [hx, e])⟩
          · cases hx
        · split at hx
          · rename_i hin; exact .inl ⟨hx, after_key i2 s c hin⟩
          · cases hx)
    (fun x y hx hy cx cy hxy => by
      have key : ∀ s c, (ρ.after ρc' false o.dst O2 rs) (.key s c) ≠ none → ¬ (ρ (.key s c) = (ρ.after ρc' false o.dst O2 rs) (.key s c) ∧ (∀ z, (ρ.pass false args ps) z ≠ none → passPi args z ≠ .key s c)) → o.dst = some s := by
        intro s c hk hk2
        refine Classical.byContradiction fun hne => hk2 ?_
        simp only [Rho.after] at hk ⊢
        rw [if_neg hne] at hk ⊢
        split at hk
        · rename_i hin
          rw [if_pos hin]
          exact ⟨rfl, after_key i2 s c hin⟩
        · exact absurd rfl hk
      cases x with
      | blk b =>
        exfalso
        exact cx ⟨by simp [Rho.after], fun z hz => pass_nblk ρ args ps z hz b⟩
      | key s c =>
        cases y with
        | blk b' => simp at hxy
        | key s' c' =>
          have e1 := key s c hx cx
          have e2 := key s' c' hy cy
          simp at hxy
          rw [e1] at e2
          cases e2
          rw [hxy])
    (fun b => by simp [Rho.after]) g6
  exact hn u w' _ _ (after_st st hd i1 hfr.2.le g4 hfr.1 hown) hfr.2

theorem step_callv (hC : CallsOk P T C) (hT : ∀ f af, T f = some af → funcOk P f = true)
    {x : A} {args : List A} (st : St G ρ e h O a.tmps w) (hc : chkCall sig (.callv x args) o.op = true) (hd : ∀ s, o.dst = some s → s < a.tmps.size) (ht : tokOp sig (.callv x args) o.dst O = some O') (hv : evOp C (.callv x args) e h = some (v, h')) :
    StepsTo P G ρ e O' a w o v h' := by
  simp only [evOp] at hv
  obtain ⟨x', h0, h2⟩ := pair_bind hv
  obtain ⟨vs, h1, h3⟩ := pair_bind h2
  have hO : O' = dropSlot O o.dst := not_call ht rfl
  subst hO
  cases x' <;> try (cases h3; done)
  rename_i f cap
  simp only at h3
  split at h3
  case isFalse => cases h3
  rename_i hfree
  obtain ⟨af, a1, a2⟩ := hC.1 f hfree
  obtain ⟨af', b1, b2⟩ := hC.2 f _ h v h' h3
  rw [a1] at b1
  cases b1
  have hch : ∃ y args' ats, o.op = .call { callee := .value y, args := args', argTypes := ats } ∧ chkA x y = true ∧ chkAs args args'.toList = true := by
    cases ho : o.op <;> simp only [chkCall, ho] at hc <;> try (cases hc; done)
    rename_i c
    obtain ⟨callee, args', ats⟩ := c
    cases callee <;> try (cases hc; done)
    rename_i y
    simp only [Bool.and_eq_true] at hc
    exact ⟨y, args', ats, rfl, hc.1, hc.2⟩
  obtain ⟨y, args', ats, ho, c1, c2⟩ := hch
  have rx := A_rel st.env c1 h0
  generalize hy : a.eval y = uy at rx
  cases rx with
  | fn f cs cap hl hk =>
    have hrun := run_call (P := P) (a := a) (w := w) (cap := cs) ho hy (hT f af a1)
    have hus : args'.map a.eval ++ cs = (args'.toList.map a.eval ++ cs.toList).toArray := by apply Array.ext'; simp
    intro next Q hn
    unfold Oper.wp
    rw [hrun, hus]
    have hcall := b2 G (ρ.pass true args []) w (args'.toList.map a.eval ++ cs.toList) ((As_rel st.env args args'.toList c2 vs h1).append (Rels.of_agg hl hk)) (st.mem.pass args [] (by simp)) st.env.gl
      (by rw [a2]; simp) (by rw [a2]; exact pass_only ρ true args [])
    refine Calls.mono hcall ?_
    rintro en w' ⟨u, G', ρc', rfl, hr, m', f', hown, hnone⟩
    show next (a.put o.dst u) w'
    have hkeyn : ∀ s c z, (ρ.pass true args []) z ≠ none → passPi args z ≠ .key s c := fun s c z hz => by
      cases z with
      | blk b => simp [passPi]
      | key p c' => obtain ⟨_, hp⟩ := pass_only ρ true args [] p c' hz; simp at hp
    have hfr := call_frame st.mem (passPi args) (pass_pi ρ true args []) f' m' (ρ.after ρc' true o.dst O []) (fun | .blk b => .blk b | .key _ c => .key 0 c)
      (fun x R hx => by
        cases x with
        | blk b => exact .inr (by simpa [Rho.after] using hx)
        | key s c =>
          simp only [Rho.after] at hx
          split at hx
          · simp at hx
          · split at hx
            · exact .inl ⟨hx, hkeyn s c, by simp⟩
            · cases hx)
      (fun x y hx hy cx cy hxy => by
        have key : ∀ s c, (ρ.after ρc' true o.dst O []) (.key s c) ≠ none → ¬ (ρ (.key s c) = (ρ.after ρc' true o.dst O []) (.key s c) ∧ (∀ z, (ρ.pass true args []) z ≠ none → passPi args z ≠ .key s c) ∧ ∀ b, Ow.key s c ≠ .blk b) → o.dst = some s := by
          intro s c hk hk2
          refine Classical.byContradiction fun hne => hk2 ?_
          simp only [Rho.after] at hk ⊢
          rw [if_neg hne] at hk ⊢
          split at hk
          · rename_i hin
            rw [if_pos hin]
            exact ⟨rfl, hkeyn s c, by simp⟩
          · exact absurd rfl hk
        cases x with
        | blk b =>
          cases y with
          | blk b' => simpa using hxy
          | key s c => simp at hxy
        | key s c =>
          cases y with
          | blk b' => simp at hxy
          | key s' c' =>
            have e1 := key s c hx cx
            have e2 := key s' c' hy cy
            simp at hxy
            rw [e1] at e2
            cases e2
            rw [hxy])
      (fun b => by simp [Rho.after])
    have hst := after_st (O2 := O) (rs := []) st hd (fun _ k => k) f'.le hr hfr.1 (by simp)
    have hg : gain (dropSlot O o.dst) o.dst [] = dropSlot O o.dst := by cases o.dst <;> simp [gain]
    rw [hg] at hst
    exact hn u w' G' _ hst hfr.2

def chkAny (P : Program) (sig : Sig) (ao : AOp) (o : Op) : Bool := chkOp P ao o || chkCall sig ao o

/-- EVERY OPERATION IS A STEP OF THE STATE. -/
theorem step_any (hC : CallsOk P T C) (hT : ∀ f af, T f = some af → funcOk P f = true) (hS : ∀ f ps rs, sig f = some (ps, rs) → ∃ af, T f = some af ∧ af.ownP = ps ∧ af.ownR = rs)
    {ao : AOp} (st : St G ρ e h O a.tmps w) (hc : chkAny P sig ao o.op = true) (hd : ∀ s, o.dst = some s → s < a.tmps.size) (ht : tokOp sig ao o.dst O = some O') (hv : evOp C ao e h = some (v, h')) :
    StepsTo P G ρ e O' a w o v h' := by
  simp only [chkAny, Bool.or_eq_true] at hc
  rcases hc with hc | hc
  · exact .of_stepped (step_op C sig st hc hd ht hv)
  · cases ao <;> try (simp only [chkCall] at hc; cases hc; done)
    · exact step_callp hC hT hS st hc hd ht hv
    · exact step_callh hC hT hS st hc hd ht hv
    · exact step_callv hC hT st hc hd ht hv
end
end Ev

/-! Ew, part A: a region in the order of its text. -/
namespace Ev
open Go

def chkGuard (os : List Oper) (g : Option (Nat × Bool)) (g' : Option (Nat × Bool)) : Bool :=
  match g, g' with
  | none, none => true
  | some (s, b), some (j, b') => b == b' && (match os[j]? with | some o => o.dst == some s | none => false)
  | _, _ => false

def chkDst (n : Nat) (d : Option Nat) : Bool :=
  match d with
  | none => true
  | some d => decide (d < n)

/-- One operation of a region. -/
def chkOper (P : Program) (sig : Sig) (n : Nat) (os : List Oper) (ar : AOpr) (o : Oper) : Bool :=
  ar.dst == o.dst && chkDst n o.dst && chkGuard os ar.guard o.guard && chkAny P sig ar.op o.op

def chkOpers (P : Program) (sig : Sig) (n : Nat) (os : List Oper) : List AOpr → List Oper → Bool
  | [], [] => true
  | ar :: ars, o :: r => chkOper P sig n os ar o && chkOpers P sig n os ars r
  | _, _ => false

/-- The owners behind an operation that may be left out. -/
def tokOpr (sig : Sig) (ar : AOpr) (O : Own) : Option Own :=
  (tokOp sig ar.op ar.dst O).map fun O' => match ar.guard with
    | none => O'
    | some _ => O'.filter fun k => (dropSlot O ar.dst).contains k
def tokOprs (sig : Sig) : List AOpr → Own → Option Own
  | [], O => some O
  | ar :: r, O => (tokOpr sig ar O).bind fun O' => tokOprs sig r O'

/-- A frame's state: no deferred calls, so many slots. -/
structure FSt (n : Nat) (G : Gh) (ρ : Rho) (e : Env) (h : Heap) (O : Own) (a : Act) (w : World) : Prop where
  st : St G ρ e h O a.tmps w
  size : n ≤ a.tmps.size
  defers : a.defers = []

section
variable {P : Program} {T : Table} {C : Callee} {sig : Sig} {G : Gh} {ρ : Rho} {h : Heap} {w : World}
variable {e : Env} {O O' : Own} {a : Act} {o : Oper} {v : V} {h' : Heap} {n : Nat}

theorem put_size (a : Act) (d : Option Nat) (u : Value) : (a.put d u).tmps.size = a.tmps.size := by
  cases d <;> simp [Act.put]
theorem put_defers' (a : Act) (d : Option Nat) (u : Value) : (a.put d u).defers = a.defers := by
  cases d <;> rfl

theorem dst_lt (hs : n ≤ a.tmps.size) {d : Option Nat} (hc : chkDst n d = true) : ∀ s, d = some s → s < a.tmps.size := fun s hd => by
  subst hd
  simp [chkDst] at hc
  omega

/-- What the guard says. -/
theorem wanted_eq (he : EnvRel G a.tmps e) {ops : Array Oper} {g : Option (Nat × Bool)} (hc : chkGuard ops.toList g o.guard = true) {b : Bool} (hw : wantedA g e = some b) : Region.wanted o (yielded ops a.tmps) = b := by
  unfold Region.wanted
  cases g with
  | none =>
    cases hg : o.guard with
    | none => simp at hw; simp [hw]
    | some g' => simp [chkGuard, hg] at hc
  | some g =>
    obtain ⟨s, b0⟩ := g
    cases hg : o.guard with
    | none => simp [chkGuard, hg] at hc
    | some g' =>
      obtain ⟨j, b1⟩ := g'
      simp only [chkGuard, hg, Bool.and_eq_true, beq_iff_eq] at hc
      obtain ⟨rfl, hc⟩ := hc
      simp only
      have hj : (ops[j]?).bind (·.dst) = some s := by
        rw [← Array.getElem?_toList]
        cases ho : ops.toList[j]? with
        | none => rw [ho] at hc; cases hc
        | some oj => rw [ho] at hc; simpa using hc
      simp only [wantedA] at hw
      cases hv : e.get s with
      | none => rw [hv] at hw; cases hw
      | some x =>
        rw [hv] at hw
        have hr := he s x hv
        have key : ∀ q, a.tmps.getD s undef = q → q ≠ undef → a.tmps[s]? = some q := fun q hq hne => by
          rw [Array.getD_eq_getD_getElem?] at hq
          cases hs : a.tmps[s]? with
          | none => rw [hs] at hq; exact absurd hq.symm hne
          | some y => rw [hs] at hq; simpa using hq
        cases x <;> try (simp at hw; done)
        case bool x =>
          simp at hw
          cases hw
          have hb := rel_bool hr
          have := key _ hb (by simp [undef])
          simp [yielded, hj, this]
        case tup vs =>
          cases vs with
          | cons y ys => simp at hw
          | nil =>
            simp at hw
            cases hw
            generalize hq : a.tmps.getD s undef = q at hr
            cases hr with
            | tup us vs hl hk =>
              have : us = #[] := Array.eq_empty_of_size_eq_zero (by simpa using hl)
              subst this
              have hy : ∀ y, a.tmps[s]? = some y → y = .tuple #[] := fun y hy => by
                rw [Array.getD_eq_getD_getElem?, hy] at hq
                simpa using hq
              simp only [yielded, hj, Option.bind_some]
              cases hs : a.tmps[s]? with
              | none => rfl
              | some y => rw [hy y hs]; rfl

theorem skip_st (st : St G ρ e h O a.tmps w) (hd : ∀ s, o.dst = some s → s < a.tmps.size) :
    St G (ρ.only (dropSlot O o.dst)) (e.put o.dst (.tup [])) h (dropSlot O o.dst) (a.put o.dst undef).tmps w ∧ Fr G ρ w G (ρ.only (dropSlot O o.dst)) w := by
  obtain ⟨st1, f1⟩ := st.less (dropSlot O o.dst) (dropSlot_sub O o.dst)
  refine ⟨?_, f1⟩
  rw [put_tmps]
  refine st1.put hd (.refl G) (.tup #[] [] rfl (by simp)) st1.mem _ (fun s c hk => .inl ⟨fun e => ?_, hk, rfl⟩) (fun s c hk => st1.non s c hk)
  rw [e] at hk
  exact dropSlot_ne hk rfl

/-- A region's operations, one behind the other. -/
theorem ops_sound_then (hC : CallsOk P T C) (hT : ∀ f af, T f = some af → funcOk P f = true) (hS : ∀ f ps rs, sig f = some (ps, rs) → ∃ af, T f = some af ∧ af.ownP = ps ∧ af.ownR = rs) {ops : Array Oper} {Q : Exit → Act → World → Prop} (tl : List Oper) (rest : List Nat) :
    ∀ (ars : List AOpr) (i : Nat) (G : Gh) (ρ : Rho) (e : Env) (h : Heap) (O O' : Own) (a : Act) (w : World) (e' : Env) (h' : Heap), FSt n G ρ e h O a w → ∀ l, ops.toList.drop i = l ++ tl → chkOpers P sig n ops.toList ars l = true → tokOprs sig ars O = some O' →
      runOps C ars e h = some (e', h') → (∀ G' ρ' a' w', FSt n G' ρ' e' h' O' a' w' → Fr G ρ w G' ρ' w' → wpOps P ops Q rest a' w') → wpOps P ops Q (List.range' i ars.length ++ rest) a w := by
  intro ars
  induction ars with
  | nil =>
    intro i G ρ e h O O' a w e' h' st l hl hc ht hv hQ
    simp at hv
    obtain ⟨rfl, rfl⟩ := hv
    simp [tokOprs] at ht
    subst ht
    exact hQ G ρ a w st (.refl _ _ _)
  | cons ar ars ih =>
    intro i G ρ e h O O' a w e' h' st l hd hc ht hv hQ
    cases l with
    | nil => simp [chkOpers] at hc
    | cons o r =>
      simp only [chkOpers, Bool.and_eq_true] at hc
      obtain ⟨hc1, hc2⟩ := hc
      have hlt : i < ops.size := by
        have := congrArg List.length hd
        simp at this
        omega
      have hoi : ops[i]? = some o := by
        have : (ops.toList.drop i)[0]? = some o := by rw [hd]; rfl
        rw [List.getElem?_drop] at this
        simpa using this
      have hr : ops.toList.drop (i + 1) = r ++ tl := by
        have := congrArg List.tail hd
        simpa using this
      rw [List.length_cons, List.range'_succ, List.cons_append]
      simp only [chkOper, Bool.and_eq_true, beq_iff_eq] at hc1
      obtain ⟨⟨⟨q1, q2⟩, q3⟩, q4⟩ := hc1
      simp only [tokOprs, Option.bind_eq_some_iff] at ht
      obtain ⟨O1, t1, t2⟩ := ht
      simp only [runOps, Option.bind_eq_some_iff] at hv
      obtain ⟨b, hb, hv⟩ := hv
      have hw := wanted_eq (o := o) st.st.env q3 hb
      have hdl := dst_lt st.size q2
      simp only [tokOpr, Option.map_eq_some_iff] at t1
      obtain ⟨O2, t3, t4⟩ := t1
      simp only [wpOps, hoi, hw]
      cases b with
      | true =>
        simp only [if_true] at hv ⊢
        obtain ⟨⟨v, h1⟩, hv1, hv2⟩ := pair_bind hv
        simp only at hv2
        rw [q1] at t3
        refine .inl (step_any hC hT hS st.st q4 hdl t3 hv1 _ _ fun u w' G' ρ' st' f' => ?_)
        have hsub : ∀ k, k ∈ O1 → k ∈ O2 := fun k hk => by
          rw [← t4] at hk
          split at hk
          · exact hk
          · exact (List.mem_filter.1 hk).1
        obtain ⟨st2, f2⟩ := st'.less O1 hsub
        rw [← q1] at st2
        refine ih (i + 1) G' _ _ h1 O1 O' (a.put ar.dst u) w' e' h' ⟨st2, by rw [put_size]; exact st.size, by rw [put_defers']; exact st.defers⟩ r hr hc2 t2 hv2 (fun G3 ρ3 a3 w3 st3 f3 => hQ G3 ρ3 a3 w3 st3 ((f'.trans f2).trans f3)) |> fun z => ?_
        rw [q1] at z
        exact z
      | false =>
        simp only [Bool.false_eq_true, if_false] at hv ⊢
        obtain ⟨st1, f1⟩ := skip_st (o := o) st.st hdl
        have hg : ar.guard ≠ none := fun e => by rw [e] at hb; simp at hb
        have hsub : ∀ k, k ∈ O1 → k ∈ dropSlot O o.dst := fun k hk => by
          rw [← t4] at hk
          split at hk
          · rename_i e; exact absurd e hg
          · have := (List.mem_filter.1 hk).2
            rw [← q1]
            simpa using this
        obtain ⟨st2, f2⟩ := st1.less O1 hsub
        rw [← q1] at st2 f1 f2
        refine ih (i + 1) G _ _ h O1 O' (a.put ar.dst undef) w e' h' ⟨st2, by rw [put_size]; exact st.size, by rw [put_defers']; exact st.defers⟩ r hr hc2 t2 hv (fun G3 ρ3 a3 w3 st3 f3 => hQ G3 ρ3 a3 w3 st3 ((f1.trans f2).trans f3)) |> fun z => ?_
        rw [q1] at z
        exact z

theorem chkOpers_length {os : List Oper} : ∀ (ars : List AOpr) (l : List Oper), chkOpers P sig n os ars l = true → ars.length = l.length
  | [], [], _ => rfl
  | [], _ :: _, h => by simp [chkOpers] at h
  | _ :: _, [], h => by simp [chkOpers] at h
  | ar :: ars, o :: l, h => by
    simp only [chkOpers, Bool.and_eq_true] at h
    simp [chkOpers_length ars l h.2]
/-- A region's operations. -/
theorem ops_sound (hC : CallsOk P T C) (hT : ∀ f af, T f = some af → funcOk P f = true) (hS : ∀ f ps rs, sig f = some (ps, rs) → ∃ af, T f = some af ∧ af.ownP = ps ∧ af.ownR = rs) {ops : Array Oper} {Q : Exit → Act → World → Prop}
    (ars : List AOpr) (G : Gh) (ρ : Rho) (e : Env) (h : Heap) (O O' : Own) (a : Act) (w : World) (e' : Env) (h' : Heap) (st : FSt n G ρ e h O a w) (hc : chkOpers P sig n ops.toList ars ops.toList = true) (ht : tokOprs sig ars O = some O')
    (hv : runOps C ars e h = some (e', h')) (hQ : ∀ G' ρ' a' w', FSt n G' ρ' e' h' O' a' w' → Fr G ρ w G' ρ' w' → Q .normal a' w') : wpOps P ops Q (List.range ops.size) a w := by
  have := ops_sound_then (Q := Q) hC hT hS (ops := ops) [] [] ars 0 G ρ e h O O' a w e' h' st ops.toList (by simp) hc ht hv hQ
  rw [chkOpers_length _ _ hc, List.append_nil] at this
  rw [List.range_eq_range']
  simpa using this

theorem keep_get : ∀ (l : List Nat) (e : Env) (i : Nat) (v : V), (e.keep l).get i = some v → e.get i = some v ∧ i ∈ l
  | [], e, i, v, h => by simp at h
  | j :: l, e, i, v, h => by
    simp only [Env.keep] at h
    split at h
    · rename_i u hu
      simp only [Env.get] at h
      split at h
      · rename_i hji
        subst hji
        cases h
        exact ⟨hu, by simp⟩
      · obtain ⟨k1, k2⟩ := keep_get l e i v h
        exact ⟨k1, by simp [k2]⟩
    · obtain ⟨k1, k2⟩ := keep_get l e i v h
      exact ⟨k1, by simp [k2]⟩
theorem get_keep : ∀ (l : List Nat) (e : Env) (i : Nat) (v : V), e.get i = some v → i ∈ l → (e.keep l).get i = some v
  | [], e, i, v, _, hi => by simp at hi
  | j :: l, e, i, v, h, hi => by
    simp only [Env.keep]
    by_cases hji : j = i
    · subst hji
      rw [h]
      simp
    · have hi2 : i ∈ l := by
        rcases List.mem_cons.1 hi with e1 | e1
        · exact absurd e1.symm hji
        · exact e1
      split
      · simp only [Env.get]
        rw [if_neg hji]
        exact get_keep l e i v h hi2
      · exact get_keep l e i v h hi2

def keepOwn (l : List Nat) (O : Own) : Own := O.filter fun k => l.contains k.1

/-- Slots that nobody reads again are forgotten. -/
theorem keep_st (st : St G ρ e h O a.tmps w) (l : List Nat) : St G (ρ.only (keepOwn l O)) (e.keep l) h (keepOwn l O) a.tmps w ∧ Fr G ρ w G (ρ.only (keepOwn l O)) w := by
  obtain ⟨st1, f1⟩ := st.less (keepOwn l O) (fun k hk => (List.mem_filter.1 hk).1)
  refine ⟨⟨⟨fun i v hv => st1.env i v (keep_get l e i v hv).1, st1.env.gl⟩, st1.mem, fun s c hk => ?_, st1.non⟩, f1⟩
  obtain ⟨u, v, x, h1, h2, h3, h4⟩ := st1.own s c hk
  have : s ∈ l := by simpa using (List.mem_filter.1 hk).2
  exact ⟨u, v, x, h1, get_keep l e s v h2 this, h3, h4⟩
end
end Ev
