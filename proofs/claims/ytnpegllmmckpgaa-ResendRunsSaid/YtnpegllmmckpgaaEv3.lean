/- The evaluator of abstract code, Ev3: who owns the spare cells of slices; steps. No condition of its own: each theorem states its own. -/
import Derived.Test.YtnpegllmmckpgaaEv2
set_option linter.all false
/-! Ev, part Q: who owns which slice's spare cells: the static rule, and the state of a frame. -/
namespace Ev
open Go

abbrev Own := List (Nat × Nat)
abbrev Sig := Nat → Option (List Nat × List Nat)

def dropSlot (O : Own) : Option Nat → Own
  | none => O
  | some d => O.filter fun k => k.1 != d
def nilSl : A → Bool
  | .c (.ps _ []) => true
  | _ => false
def sameA : A → A → Bool
  | .t i, .t j => i == j
  | .c (.int _ m), .c (.int _ n) => m == n
  | _, _ => false
/-- Slices that are handed over: each a slot that owns, or nil. -/
def giveUp (O : Own) (d : Option Nat) (args : List A) : List Nat → Option Own
  | [] => some O
  | p :: r => match args[p]? with
    | some (.t s) => if O.contains (s, 0) ∧ d ≠ some s then giveUp (O.filter fun k => k != (s, 0)) d args r else none
    | some x => if nilSl x then giveUp O d args r else none
    | none => none

def gain (O : Own) (d : Option Nat) (cs : List Nat) : Own :=
  match d with
  | none => O
  | some d => O ++ cs.map fun c => (d, c)

def gain1 (O : Own) (d : Option Nat) : Option Own :=
  match d with
  | none => none
  | some d => some (O ++ [(d, 0)])

def tokOp (sig : Sig) (op : AOp) (d : Option Nat) (O : Own) : Option Own :=
  let O1 := dropSlot O d
  match op with
  | .mv (.t s) true => if d = some s then none else
      (match d with
      | some d => some ((O1.filter fun k => k.1 != s) ++ (O1.filter fun k => k.1 == s).map fun k => (d, k.2))
      | none => some (O1.filter fun k => k.1 != s))
  | .mv x _ => if nilSl x then gain1 O1 d else some O1
  | .bsl .. | .mksl .. | .sl _ _ _ _ _ true => gain1 O1 d
  | .app _ _ x _ => (match x with
    | .t s => if O.contains (s, 0) ∧ d ≠ some s then gain1 (O1.filter fun k => k != (s, 0)) d else none
    | x => if nilSl x then gain1 O1 d else none)
  | .ext (.t s) i => if O.contains (s, i + 1) ∧ d ≠ some s then gain1 (O1.filter fun k => k != (s, i + 1)) d else some O1
  | .callp f args _ | .callh f args => (sig f).bind fun (ps, rs) => (giveUp O d args ps).bind fun O2 => some (gain (dropSlot O2 d) d rs)
  | _ => some O1

def compV : V → Nat → Option V
  | v, 0 => some v
  | .tup vs, i + 1 => vs[i]?
  | _, _ => none
def compR : Value → Nat → Option Value
  | v, 0 => some v
  | .tuple vs, i + 1 => vs[i]?
  | _, _ => none

def OwnAt (ρ : Rho) (e : Env) (tm : Array Value) (s c : Nat) : Prop :=
  ∃ u v x, compR (tm.getD s undef) c = some u ∧ e.get s = some v ∧ compV v c = some x ∧ OwnVal u x (ρ (.key s c))

structure St (G : Gh) (ρ : Rho) (e : Env) (h : Heap) (O : Own) (tm : Array Value) (w : World) : Prop where
  env : EnvRel G tm e
  mem : Mem G h ρ w
  own : ∀ s c, (s, c) ∈ O → OwnAt ρ e tm s c
  non : ∀ s c, (s, c) ∉ O → ρ (.key s c) = none

/-- Fewer owners. -/
def Rho.only (ρ : Rho) (O : Own) : Rho
  | .blk b => ρ (.blk b)
  | .key s c => if O.contains (s, c) then ρ (.key s c) else none

theorem only_sub (ρ : Rho) (O : Own) : Rho.sub (ρ.only O) ρ := fun x => by
  cases x with
  | blk b => exact .inr rfl
  | key s c =>
    simp only [Rho.only]
    split
    · exact .inr rfl
    · exact .inl rfl

section
variable {G : Gh} {ρ : Rho} {e : Env} {h : Heap} {O : Own} {tm : Array Value} {w : World}

theorem St.less (st : St G ρ e h O tm w) (O' : Own) (hs : ∀ k, k ∈ O' → k ∈ O) : St G (ρ.only O') e h O' tm w ∧ Fr G ρ w G (ρ.only O') w := by
  refine ⟨⟨st.env, st.mem.drop (only_sub ρ O') (fun b cs _ => rfl), fun s c hk => ?_, fun s c hk => ?_⟩, Fr.drop (only_sub ρ O')⟩
  · obtain ⟨u, v, x, h1, h2, h3, h4⟩ := st.own s c (hs _ hk)
    refine ⟨u, v, x, h1, h2, h3, ?_⟩
    have : (ρ.only O') (.key s c) = ρ (.key s c) := by simp [Rho.only, hk]
    rw [this]; exact h4
  · simp [Rho.only, hk]

theorem dropSlot_sub (O : Own) (d : Option Nat) : ∀ k, k ∈ dropSlot O d → k ∈ O := fun k hk => by
  cases d with
  | none => exact hk
  | some d => exact (List.mem_filter.1 hk).1

theorem dropSlot_ne {O : Own} {d : Nat} {s c : Nat} (hk : (s, c) ∈ dropSlot O (some d)) : s ≠ d := by
  have := (List.mem_filter.1 hk).2
  simpa using this

theorem getD_set (tm : Array Value) (d s : Nat) (u : Value) (hd : d < tm.size) : (tm.setIfInBounds d u).getD s undef = if s = d then u else tm.getD s undef := by
  simp only [Array.getD_eq_getD_getElem?, Array.getElem?_setIfInBounds]
  by_cases e : d = s
  · subst e; simp [hd]
  · have e' : ¬ s = d := fun k => e k.symm
    simp [e, e']

theorem EnvRel.put {G : Gh} {tm : Array Value} {e : Env} (he : EnvRel G tm e) {d : Nat} {u : Value} {v : V} (hr : Rel G u v) (hd : d < tm.size) : EnvRel G (tm.setIfInBounds d u) (e.put (some d) v) := ⟨fun i x hx => by
  rw [getD_set _ _ _ _ hd]
  simp only [Env.put, Env.get] at hx
  by_cases e2 : d = i
  · subst e2
    simp at hx
    subst hx
    simpa using hr
  · rw [if_neg e2] at hx
    rw [if_neg (fun k => e2 k.symm)]
    exact he i x hx, he.gl⟩

def putTm (tm : Array Value) (d : Option Nat) (u : Value) : Array Value :=
  match d with
  | some s => tm.setIfInBounds s u
  | none => tm

/-- The state behind an operation: its result lies in its slot. -/
theorem St.put (st : St G ρ e h O tm w) {G' : Gh} {ρ' : Rho} {h' : Heap} {w' : World} {d : Option Nat} (hd : ∀ s, d = some s → s < tm.size) {u : Value} {v : V} (hle : G.le G') (hr : Rel G' u v) (m : Mem G' h' ρ' w') (O' : Own)
    (hO : ∀ s c, (s, c) ∈ O' → (d ≠ some s ∧ (s, c) ∈ O ∧ ρ' (.key s c) = ρ (.key s c)) ∨ (d = some s ∧ ∃ u' x, compR u c = some u' ∧ compV v c = some x ∧ OwnVal u' x (ρ' (.key s c))))
    (hn : ∀ s c, (s, c) ∉ O' → ρ' (.key s c) = none) : St G' ρ' (e.put d v) h' O' (putTm tm d u) w' := by
  refine ⟨?_, m, fun s c hk => ?_, hn⟩
  · cases d with
    | none => exact st.env.mono hle
    | some d => exact (st.env.mono hle).put hr (hd d rfl)
  · rcases hO s c hk with ⟨h1, h2, h3⟩ | ⟨h1, u', x, h2, h3, h4⟩
    · obtain ⟨u1, v1, x1, k1, k2, k3, k4⟩ := st.own s c h2
      refine ⟨u1, v1, x1, ?_, ?_, k3, by rw [h3]; exact k4⟩
      · cases d with
        | none => exact k1
        | some d =>
          simp only [putTm]
          rw [getD_set _ _ _ _ (hd d rfl), if_neg (fun e => h1 (by rw [e]))]
          exact k1
      · cases d with
        | none => exact k2
        | some d =>
          simp only [Env.put, Env.get]
          rw [if_neg (fun e => h1 (by rw [e]))]
          exact k2
    · subst h1
      refine ⟨u', v, x, ?_, by simp, h3, h4⟩
      simp only [putTm]
      rw [getD_set _ _ _ _ (hd s rfl), if_pos rfl]
      exact h2
end
end Ev

/-! Ev, part R: one operation that calls nothing. -/
namespace Ev
open Go

/-- Bytes to bytes, of one type. -/
def chkLit (P : Program) (d : Nat) : Bool :=
  match P.underlying d with
  | some (.slice el) => (match P.underlying el with | some (.int .u8) => true | _ => false)
  | _ => false
def chkM (P : Program) (ao : AOp) (o : Op) : Bool :=
  match ao with
  | .alloc z => match o with | .alloc t => zeroCellsIs P t z && z.all V.one | _ => false
  | .box x => match o with | .box _ y => chkA x y | _ => false
  | .boxf x => match o with | .box _ y => chkA x y | _ => false
  | .bsl s xs _ => match o with | .buildSlice t len ps => chkBsl P s xs t len ps.toList | _ => false
  | .store n a x => match o with | .store t b y => chkA a b && chkA x y && sizeIs P t n | _ => false
  | .conv .sb x => match o with | .convert s d y => chkA x y && chkSb P s d | _ => false
  | .mksl s b z l c _ => match o with | .makeSlice t l' c' => chkA l l' && chkA c c' && chkMk P s b z t | _ => false
  | .app s b x y => match o with
    | .call { callee := .builtin .append, args, argTypes } => chkAs [x, y] args.toList && chkApp P s b argTypes
    | _ => false
  | .apph s b x y => match o with
    | .call { callee := .builtin .append, args, argTypes } => chkAs [x, y] args.toList && chkApp P s b argTypes
    | _ => false
  | .ldz sz a _ => match o with | .load t b => chkA a b && ldOk P t sz | _ => false
  | .frz x _ => match o with | .move y => chkA x y | .assign y => chkA x y | _ => false
  | .rng s x => match o with | .range t y => chkA x y && (if s then chkRng P t else chkRngM P t) | _ => false
  | .nxt s x => match o with | .next y t => chkA x y && s == t | _ => false
  | .mkm => match o with | .makeMap _ none => true | _ => false
  | .look q m k z ok => match o with
    | .lookup t m' k' ok' => chkA m m' && chkA k k' && ok == ok' && (match chkMap P q t with | some et => zeroIs P et z | none => false)
    | _ => false
  | .mset q m k x => match o with
    | .mapUpdate t m' k' x' => chkA m m' && chkA k k' && chkA x x' && (chkMap P q t).isSome
    | .insert t m' k' x' => chkA m m' && chkA k k' && chkA x x' && (chkMap P q t).isSome
    | _ => false
  | .ent x => match o with | .entry y => chkA x y | _ => false
  | .mlen x => match o with
    | .call { callee := .builtin .len, args, argTypes } => chkAs [x] args.toList && chkMlen P argTypes
    | _ => false
  | .mdel q m k => match o with
    | .call { callee := .builtin .delete, args, argTypes } => chkAs [m, k] args.toList && (match argTypes.toList with | [t, _] => (chkMap P q t).isSome | _ => false)
    | _ => false
  | .lit x => match o with | .convert s d y => chkA x y && s == d && chkLit P d | _ => false
  | .capv x => match o with
    | .call { callee := .builtin .cap, args, argTypes } => chkAs [x] args.toList && chkCap P argTypes
    | _ => false
  | .ovl s x y => match o with
    | .call { callee := .value (.func g), args, .. } => chkAs [x, y] args.toList && chkOvl P s g
    | _ => false
  | .appz s b z x k => match o with
    | .call { callee := .builtin .append, args, argTypes } => chkAs [x, k] args.toList && chkAppz P s b z argTypes
    | _ => false
  | .copy s x y => match o with
    | .call { callee := .builtin .copy, args, argTypes } => chkAs [x, y] args.toList && chkCopy P s argTypes
    | _ => false
  | .bad => true
  | .clr s z x => match o with
    | .call { callee := .builtin .clear, args, argTypes } => chkAs [x] args.toList && chkClr P s z argTypes
    | _ => false
  | _ => false

section
variable {P : Program} {G : Gh} {ρ : Rho} {h : Heap} {w : World}

/-- A stretch of no cells can be any slot's. -/
theorem Mem.setEmpty (m : Mem G h ρ w) (d c r p : Nat) (hk : ρ (.key d c) = none) : Mem G h (ρ.set (.key d c) (some (r, p, p))) w ∧ Fr G ρ w G (ρ.set (.key d c) (some (r, p, p))) w := by
  have hρ : ∀ y r' l j o, (ρ.set (.key d c) (some (r, p, p))) y = some (r', l, j) → l ≤ o → o < j → ρ y = some (r', l, j) := fun y r' l j o hy a b => by
    simp only [Rho.set] at hy
    split at hy
    · cases hy; omega
    · exact hy
  refine ⟨⟨m.st, fun b bs hb hob => ?_, m.lt, fun y r' l j hy o a b => m.own y r' l j (hρ y r' l j o hy a b) o a b, fun y z r' l1 j1 l2 j2 hne hy hz o a1 a2 a3 a4 => m.dis y z r' l1 j1 l2 j2 hne (hρ _ _ _ _ o hy a1 a2) (hρ _ _ _ _ o hz a3 a4) o a1 a2 a3 a4, fun b hb => ?_, m.obs⟩, ⟨.refl G, Nat.le_refl _, rfl, rfl, rfl, fun _ _ _ _ => ⟨rfl, rfl⟩, fun _ _ _ _ => rfl, ?_, fun _ _ k => .inl k, fun _ _ k => .inl k⟩⟩
  · obtain ⟨r', lo, hi, k1, k2, k3⟩ := m.blk b bs hb hob
    exact ⟨r', lo, hi, k1, by simpa [Rho.set] using k2, k3⟩
  · exact m.ob b (by simpa [Rho.set] using hb)
  · rintro r' o ⟨y, l, j, hy, a, b⟩
    exact .inl ⟨y, l, j, hρ y r' l j o hy a b, a, b⟩

/-- All that a slot owns goes over to another one. -/
def Rho.slot (ρ : Rho) (s d : Nat) : Rho
  | .blk b => ρ (.blk b)
  | .key t c => if t = d then ρ (.key s c) else if t = s then none else ρ (.key t c)
theorem Mem.moveSlot (m : Mem G h ρ w) (s d : Nat) (hne : s ≠ d) (hd : ∀ c, ρ (.key d c) = none) : Mem G h (ρ.slot s d) w ∧ Fr G ρ w G (ρ.slot s d) w := by
  have hρ : ∀ y, (ρ.slot s d) y = none ∨ ∃ z, (ρ.slot s d) y = ρ z ∧ (y = z ∨ ∃ c, y = .key d c ∧ z = .key s c) := fun y => by
    cases y with
    | blk b => exact .inr ⟨.blk b, rfl, .inl rfl⟩
    | key t c =>
      simp only [Rho.slot]
      split
      · rename_i e; subst e; exact .inr ⟨.key s c, rfl, .inr ⟨c, rfl, rfl⟩⟩
      · split
        · exact .inl rfl
        · exact .inr ⟨.key t c, rfl, .inl rfl⟩
  have inj : ∀ y z y' z', (ρ.slot s d) y = ρ y' → (ρ.slot s d) z = ρ z' → (y = y' ∨ ∃ c, y = .key d c ∧ y' = .key s c) → (z = z' ∨ ∃ c, z = .key d c ∧ z' = .key s c) → (ρ.slot s d) y ≠ none → (ρ.slot s d) z ≠ none → y ≠ z → y' ≠ z' := by
    intro y z y' z' h1 h2 h3 h4 n1 n2 hne2 he
    rcases h3 with rfl | ⟨c, rfl, rfl⟩
    · rcases h4 with rfl | ⟨c', rfl, rfl⟩
      · exact hne2 he
      · subst he
        apply n1
        simp only [Rho.slot]
        simp [hne]
    · rcases h4 with rfl | ⟨c', rfl, rfl⟩
      · subst he
        apply n2
        simp only [Rho.slot]
        simp [hne]
      · simp at he
        exact hne2 (by rw [he])
  refine ⟨⟨m.st, fun b bs hb hob => m.blk b bs hb hob, m.lt, fun y r l j hy => ?_, fun y z r l1 j1 l2 j2 hyz hy hz => ?_, fun b hb => m.ob b hb, m.obs⟩, ⟨.refl G, Nat.le_refl _, rfl, rfl, rfl, fun _ _ _ _ => ⟨rfl, rfl⟩, fun _ _ _ _ => rfl, ?_, fun _ _ k => .inl k, fun _ _ k => .inl k⟩⟩
  · rcases hρ y with k | ⟨z, k, _⟩
    · rw [k] at hy; cases hy
    · exact m.own z r l j (k ▸ hy)
  · rcases hρ y with k | ⟨y', k, k2⟩
    · rw [k] at hy; cases hy
    · rcases hρ z with q | ⟨z', q, q2⟩
      · rw [q] at hz; cases hz
      · exact m.dis y' z' r l1 j1 l2 j2 (inj y z y' z' k q k2 q2 (by rw [hy]; simp) (by rw [hz]; simp) hyz) (k ▸ hy) (q ▸ hz)
  · rintro r o ⟨y, l, j, hy, a, b⟩
    rcases hρ y with k | ⟨z, k, _⟩
    · rw [k] at hy; cases hy
    · exact .inl ⟨z, l, j, k ▸ hy, a, b⟩

/-- What a step leaves. -/
def Stepped (P : Program) (G : Gh) (ρ : Rho) (e : Env) (O' : Own) (a : Act) (w : World) (o : Oper) (v : V) (h' : Heap) : Prop :=
  ∃ nx u w' G' ρ', (execOp a.eval o).run P w = .ok nx w' ∧ (nx = .value u ∨ (nx = .skip ∧ u = undef)) ∧ St G' ρ' (e.put o.dst v) h' O' (a.put o.dst u).tmps w' ∧ Fr G ρ w G' ρ' w'

theorem put_tmps (a : Act) (d : Option Nat) (u : Value) : (a.put d u).tmps = putTm a.tmps d u := by
  cases d <;> rfl

theorem mem_gain {O : Own} {d : Option Nat} {cs : List Nat} {s c : Nat} : (s, c) ∈ gain O d cs ↔ (s, c) ∈ O ∨ (d = some s ∧ c ∈ cs) := by
  cases d with
  | none => simp [gain]
  | some d =>
    simp only [gain, List.mem_append, List.mem_map, Prod.mk.injEq, Option.some.injEq]
    constructor
    · rintro (h | ⟨x, h1, h2, h3⟩)
      · exact .inl h
      · exact .inr ⟨h2, h3 ▸ h1⟩
    · rintro (h | ⟨h2, h⟩)
      · exact .inl h
      · exact .inr ⟨c, h, h2, rfl⟩

variable {e : Env} {O O' : Own} {a : Act} {o : Oper} {v : V} {h' : Heap}

/-- A result that owns nothing; all other slots own what they did. -/
theorem stepped_plain (st : St G ρ e h O a.tmps w) (hd : ∀ s, o.dst = some s → s < a.tmps.size) {nx : Next} {u : Value} {w' : World} {G' : Gh} {ρ' : Rho} (hrun : (execOp a.eval o).run P w = .ok nx w') (hnx : nx = .value u ∨ (nx = .skip ∧ u = undef))
    (hr : Rel G' u v) (m : Mem G' h' ρ' w') (f : Fr G (ρ.only (dropSlot O o.dst)) w G' ρ' w') (hkeys : ∀ s c, ρ' (.key s c) = (ρ.only (dropSlot O o.dst)) (.key s c)) : Stepped P G ρ e (dropSlot O o.dst) a w o v h' := by
  obtain ⟨st1, f1⟩ := st.less (dropSlot O o.dst) (dropSlot_sub O o.dst)
  refine ⟨nx, u, w', G', ρ', hrun, hnx, ?_, f1.trans f⟩
  rw [put_tmps]
  refine st1.put hd f.le hr m (dropSlot O o.dst) (fun s c hk => .inl ⟨fun e => ?_, hk, hkeys s c⟩) (fun s c hk => by rw [hkeys]; exact st1.non s c hk)
  rw [e] at hk
  exact dropSlot_ne hk rfl

/-- A result that owns its own spare cells. -/
theorem stepped_gain (st : St G ρ e h O a.tmps w) (hd : ∀ s, o.dst = some s → s < a.tmps.size) {u : Value} {w' : World} {G' : Gh} {ρ' : Rho} (hrun : (execOp a.eval o).run P w = .ok (.value u) w')
    (hr : Rel G' u v) (m : Mem G' h' ρ' w') (O2 : Own) (h2 : ∀ k, k ∈ O2 → k ∈ dropSlot O o.dst) (f : Fr G (ρ.only (dropSlot O o.dst)) w G' ρ' w') (hO' : gain1 O2 o.dst = some O')
    (hkeys : ∀ d s c, o.dst = some d → (s, c) ≠ (d, 0) → ρ' (.key s c) = (ρ.only O2) (.key s c)) (how : ∀ d, o.dst = some d → OwnVal u v (ρ' (.key d 0))) : Stepped P G ρ e O' a w o v h' := by
  obtain ⟨st1, f1⟩ := st.less (dropSlot O o.dst) (dropSlot_sub O o.dst)
  refine ⟨.value u, u, w', G', ρ', hrun, .inl rfl, ?_, f1.trans f⟩
  rw [put_tmps]
  unfold gain1 at hO'
  cases hdst : o.dst with
  | none => rw [hdst] at hO'; cases hO'
  | some d =>
    rw [hdst] at hO'
    cases hO'
    have hnot : ∀ s c, (s, c) ∈ O2 → s ≠ d := fun s c hk => by
      have := h2 _ hk
      rw [hdst] at this
      exact dropSlot_ne this
    rw [← hdst]
    refine st1.put hd f.le hr m _ (fun s c hk => ?_) (fun s c hk => ?_)
    · rcases List.mem_append.1 hk with hk | hk
      · refine .inl ⟨fun e => hnot s c hk (by rw [hdst] at e; exact (Option.some.inj e).symm), h2 _ hk, ?_⟩
        rw [hkeys d s c hdst (fun e => hnot s c hk (by cases e; rfl))]
        simp [Rho.only, hk, h2 _ hk]
      · simp at hk
        obtain ⟨rfl, rfl⟩ := hk
        exact .inr ⟨hdst, u, v, by cases u <;> rfl, by cases v <;> rfl, how _ hdst⟩
    · have hk2 : (s, c) ∉ O2 := fun k => hk (List.mem_append.2 (.inl k))
      have hk3 : (s, c) ≠ (d, 0) := fun k => hk (List.mem_append.2 (.inr (by simp [k])))
      rw [hkeys d s c hdst hk3]
      simp [Rho.only, hk2]

theorem only_drop_key {d : Nat} (hd : o.dst = some d) (ρ : Rho) (O : Own) (c : Nat) : (ρ.only (dropSlot O o.dst)) (.key d c) = none := by
  simp only [Rho.only]
  rw [if_neg]
  intro hk
  rw [hd] at hk
  exact dropSlot_ne (by simpa using hk) rfl
end
end Ev

/-! Ev, part S: each operation that calls nothing is a step of the state. -/
namespace Ev
open Go
section
variable {P : Program} {G : Gh} {ρ : Rho} {h : Heap} {w : World}
variable {e : Env} {O O' : Own} {a : Act} {o : Oper} {v : V} {h' : Heap}

theorem dstD (d : Option Nat) : ∃ D, ∀ s, d = some s → s = D := by
  cases d with
  | none => exact ⟨0, fun s h => by cases h⟩
  | some d => exact ⟨d, fun s h => by cases h; rfl⟩

theorem own_mem {ρ : Rho} {O : Own} {s c : Nat} (hk : (s, c) ∈ O) : (ρ.only O) (.key s c) = ρ (.key s c) := by simp [Rho.only, hk]

/-- What a slot that owns holds, in the state behind the fall of the result's slot. -/
theorem base_own (st : St G ρ e h O a.tmps w) {x : A} {y : Operand} (hc : chkA x y = true) {s : Nat} (hx : x = .t s) {vx : V} (hv : x.ev e = some vx) (hk : (s, 0) ∈ O) : OwnVal (a.eval y) vx (ρ (.key s 0)) := by
  subst hx
  obtain ⟨u, v, x, h1, h2, h3, h4⟩ := st.own s 0 hk
  cases y <;> simp [chkA] at hc
  subst hc
  simp only [A.ev] at hv
  rw [hv] at h2
  cases h2
  have e1 : u = a.eval (.tmp s) := by
    have : compR (a.tmps.getD s undef) 0 = some (a.tmps.getD s undef) := by cases a.tmps.getD s undef <;> rfl
    rw [this] at h1
    exact (Option.some.inj h1).symm
  have e2 : x = vx := by
    have : compV vx 0 = some vx := by cases vx <;> rfl
    rw [this] at h3
    exact (Option.some.inj h3).symm
  rw [← e1, ← e2]; exact h4

theorem nil_own {x : A} {y : Operand} (hc : chkA x y = true) (hn : nilSl x = true) {vx : V} (hv : x.ev e = some vx) : (∃ s, vx = .ps s []) ∧ a.eval y = .slice none 0 0 := by
  unfold nilSl at hn
  split at hn
  · rename_i s
    simp at hv
    subst hv
    refine ⟨⟨s, rfl⟩, ?_⟩
    cases y <;> simp [chkA] at hc
    rename_i u
    cases u <;> try (simp [cOk] at hc; done)
    rename_i ad n c
    cases ad with
    | some ad => simp [cOk] at hc
    | none =>
      cases n with
      | succ n => simp [cOk] at hc
      | zero =>
        cases c with
        | succ c => simp [cOk] at hc
        | zero => rfl
  · cases hn

theorem quiet_plain (C : Callee) (st : St G ρ e h O a.tmps w) {ao : AOp} (hc : chkQ P ao o.op = true) (hd : ∀ s, o.dst = some s → s < a.tmps.size) (hv : evOp C ao e h = some (v, h')) :
    Stepped P G ρ e (dropSlot O o.dst) a w o v h' := by
  obtain ⟨rfl, u, hrun, hr⟩ := quiet_sound st.mem C st.env hc hv
  obtain ⟨st1, _⟩ := st.less (dropSlot O o.dst) (dropSlot_sub O o.dst)
  exact stepped_plain st hd hrun (.inl rfl) hr st1.mem (.refl _ _ _) (fun _ _ => rfl)

theorem gain1_some {O : Own} {d : Option Nat} {O' : Own} (h : gain1 O d = some O') : ∃ s, d = some s := by
  cases d with
  | none => cases h
  | some s => exact ⟨s, rfl⟩

/-- The result is nil, or owns nothing: it is told to own. -/
theorem quiet_nil (C : Callee) (st : St G ρ e h O a.tmps w) {ao : AOp} (hc : chkQ P ao o.op = true) (hd : ∀ s, o.dst = some s → s < a.tmps.size) (hv : evOp C ao e h = some (v, h')) (hO' : gain1 (dropSlot O o.dst) o.dst = some O')
    (hn : ∀ u, (execOp a.eval o).run P w = .ok (.value u) w → Rel G u v → (∃ r p, OwnVal u v (some (r, p, p))) ∨ OwnVal u v none) :
    Stepped P G ρ e O' a w o v h' := by
  obtain ⟨rfl, u, hrun, hr⟩ := quiet_sound st.mem C st.env hc hv
  obtain ⟨st1, _⟩ := st.less (dropSlot O o.dst) (dropSlot_sub O o.dst)
  obtain ⟨d, hdst⟩ := gain1_some hO'
  have hk := only_drop_key hdst ρ O 0
  rcases hn u hrun hr with ⟨r, p, hown⟩ | hown
  · obtain ⟨m2, f2⟩ := st1.mem.setEmpty d 0 r p hk
    exact stepped_gain st hd hrun hr m2 (dropSlot O o.dst) (fun _ k => k) f2 hO' (fun d' s c hs hne => by
        rw [hdst] at hs
        cases hs
        simp only [Rho.set]
        rw [if_neg (by simpa using hne)]) (fun d' hs => by rw [hdst] at hs; cases hs; simpa [Rho.set] using hown)
  · exact stepped_gain st hd hrun hr st1.mem (dropSlot O o.dst) (fun _ k => k) (.refl _ _ _) hO' (fun _ s c _ _ => rfl) (fun d' hs => by
      rw [hdst] at hs
      cases hs
      rw [hk]; exact hown)

/-! #### the memory's operations -/
theorem mem_plain (st : St G ρ e h O a.tmps w) (hd : ∀ s, o.dst = some s → s < a.tmps.size)
    (key : ∀ ρ1, Mem G h ρ1 w → ∃ nx u w' G' ρ', (execOp a.eval o).run P w = .ok nx w' ∧ (nx = .value u ∨ (nx = .skip ∧ u = undef)) ∧ Rel G' u v ∧ Mem G' h' ρ' w' ∧ Fr G ρ1 w G' ρ' w' ∧ ∀ s c, ρ' (.key s c) = ρ1 (.key s c)) :
    Stepped P G ρ e (dropSlot O o.dst) a w o v h' := by
  obtain ⟨st1, _⟩ := st.less (dropSlot O o.dst) (dropSlot_sub O o.dst)
  obtain ⟨nx, u, w', G', ρ', h1, h2, h3, h4, h5, h6⟩ := key _ st1.mem
  exact stepped_plain st hd h1 h2 h3 h4 h5 h6

/-- A new plain slice. -/
theorem mem_gain_new (st : St G ρ e h O a.tmps w) (hd : ∀ s, o.dst = some s → s < a.tmps.size) (hO' : gain1 (dropSlot O o.dst) o.dst = some O')
    (key : ∀ ρ1 d, Mem G h ρ1 w → ρ1 (.key d 0) = none → ∃ u w' G' ρ', (execOp a.eval o).run P w = .ok (.value u) w' ∧ Rel G' u v ∧ Mem G' h' ρ' w' ∧ Fr G ρ1 w G' ρ' w' ∧ (∀ s c, (s, c) ≠ (d, 0) → ρ' (.key s c) = ρ1 (.key s c)) ∧ OwnVal u v (ρ' (.key d 0))) :
    Stepped P G ρ e O' a w o v h' := by
  obtain ⟨st1, f1⟩ := st.less (dropSlot O o.dst) (dropSlot_sub O o.dst)
  obtain ⟨d, hdst⟩ := gain1_some hO'
  obtain ⟨u, w', G', ρ', h1, h2, h3, h4, h5, h6⟩ := key _ d st1.mem (only_drop_key hdst ρ O 0)
  exact stepped_gain st hd h1 h2 h3 (dropSlot O o.dst) (fun _ k => k) h4 hO' (fun d' s c hs hne => by rw [hdst] at hs; cases hs; exact h5 s c hne) (fun d' hs => by rw [hdst] at hs; cases hs; exact h6)

/-- A base is used up: its result owns. -/
theorem mem_gain_from (st : St G ρ e h O a.tmps w) (hd : ∀ s, o.dst = some s → s < a.tmps.size) (s0 c0 : Nat) (hk : (s0, c0) ∈ O) (hs0 : o.dst ≠ some s0) (hO' : gain1 ((dropSlot O o.dst).filter fun k => k != (s0, c0)) o.dst = some O')
    (key : ∀ ρ1 d, Mem G h ρ1 w → ρ1 (.key d 0) = none → ρ1 (.key s0 c0) = ρ (.key s0 c0) → (d, 0) ≠ (s0, c0) → ∃ u w' G' ρ', (execOp a.eval o).run P w = .ok (.value u) w' ∧ Rel G' u v ∧ Mem G' h' ρ' w' ∧ Fr G ρ1 w G' ρ' w' ∧
      (∀ s c, (s, c) ≠ (d, 0) → (s, c) ≠ (s0, c0) → ρ' (.key s c) = ρ1 (.key s c)) ∧ ρ' (.key s0 c0) = none ∧ OwnVal u v (ρ' (.key d 0))) :
    Stepped P G ρ e O' a w o v h' := by
  obtain ⟨st1, f1⟩ := st.less (dropSlot O o.dst) (dropSlot_sub O o.dst)
  obtain ⟨d, hdst⟩ := gain1_some hO'
  have hk1 : (s0, c0) ∈ dropSlot O o.dst := by
    rw [hdst]
    refine List.mem_filter.2 ⟨hk, ?_⟩
    simp only [bne_iff_ne, ne_eq]
    exact fun e => hs0 (by rw [hdst, e])
  have hne : (d, 0) ≠ (s0, c0) := fun e => hs0 (by rw [hdst]; cases e; rfl)
  obtain ⟨u, w', G', ρ', h1, h2, h3, h4, h5, h6, h7⟩ := key _ d st1.mem (only_drop_key hdst ρ O 0) (own_mem hk1) hne
  refine stepped_gain st hd h1 h2 h3 _ (fun k hk => (List.mem_filter.1 hk).1) h4 hO' (fun d' s c hs hne2 => ?_) (fun d' hs => by rw [hdst] at hs; cases hs; exact h7)
  rw [hdst] at hs
  cases hs
  by_cases e : (s, c) = (s0, c0)
  · cases e
    rw [h6]
    simp only [Rho.only]
    rw [if_neg]
    simp
  · rw [h5 s c hne2 e]
    by_cases hin : (s, c) ∈ dropSlot O o.dst
    · have : (s, c) ∈ (dropSlot O o.dst).filter fun k => k != (s0, c0) := List.mem_filter.2 ⟨hin, by simpa using e⟩
      rw [own_mem hin, own_mem this]
    · have : (s, c) ∉ (dropSlot O o.dst).filter fun k => k != (s0, c0) := fun k => hin (List.mem_filter.1 k).1
      simp [Rho.only, hin, this]
end
end Ev

/-! Ev, part T: every operation that calls nothing is a step of the state. -/
namespace Ev
open Go
section
variable {P : Program} {G : Gh} {ρ : Rho} {h : Heap} {w : World}
variable {e : Env} {O O' : Own} {a : Act} {o : Oper} {v : V} {h' : Heap}

def AOp.plainTok : AOp → Bool
  | .sl _ _ _ _ _ tk => !tk
  | .mv .. | .bsl .. | .mksl .. | .conv .. | .app .. | .ext .. | .callp .. | .callh .. => false
  | _ => true
theorem not_call {sig : Sig} {ao : AOp} {d : Option Nat} {O O' : Own} (ht : tokOp sig ao d O = some O')
    (hn : ao.plainTok = true) : O' = dropSlot O d := by
  cases ao <;> simp only [AOp.plainTok] at hn <;> try (cases hn; done)
  case sl k x lo hi mx tk =>
    cases tk
    · simp only [tokOp] at ht; exact (Option.some.inj ht).symm
    · simp at hn
  all_goals (simp only [tokOp] at ht; exact (Option.some.inj ht).symm)

/-- A cut that takes no spare cells with it owns none of them. -/
theorem step_sl (C : Callee) (sig : Sig) {k : SK} {x : A} {lo hi mx : Option A} (st : St G ρ e h O a.tmps w) (hc : chkQ P (.sl k x lo hi mx true) o.op = true) (hd : ∀ s, o.dst = some s → s < a.tmps.size) (ht : tokOp sig (.sl k x lo hi mx true) o.dst O = some O') (hv : evOp C (.sl k x lo hi mx true) e h = some (v, h')) :
    Stepped P G ρ e O' a w o v h' := by
  refine quiet_nil C st hc hd hv (by simpa only [tokOp] using ht) fun u hrun hr => ?_
  simp only [evOp] at hv
  obtain ⟨x', h1, h2⟩ := pair_bind hv
  obtain ⟨lo', h3, h4⟩ := pair_bind h2
  obtain ⟨hi', h5, h6⟩ := pair_bind h4
  obtain ⟨mx', h7, h8⟩ := pair_bind h6
  obtain ⟨v', h9, h10⟩ := pair_bind h8
  cases h10
  cases ho : o.op <;> try (simp only [chkQ, ho] at hc; cases hc; done)
  rw [ho] at hc
  obtain ⟨q1, q2⟩ := slT_le h9
  obtain ⟨u2, hr2, _, hcap⟩ := sl_q st.mem st.env hc h1 h3 h5 h7 q1
  obtain ⟨ad, n, s, xs, e1, e2⟩ := hcap (q2 rfl).1 (q2 rfl).2
  have e3 : u = u2 := by
    simp only [execOp, ho] at hrun
    have := run_val hr2
    rw [this] at hrun
    cases hrun
    rfl
  subst e3
  subst e1 e2
  cases ad with
  | none => exact .inr rfl
  | some ad => exact .inl ⟨ad.block, ad.off + n * s, rfl⟩

/-- Moves: a copy, a transfer, nil. -/
theorem step_mv (C : Callee) (sig : Sig) {x : A} {tk : Bool} (st : St G ρ e h O a.tmps w) (hc : chkQ P (.mv x tk) o.op = true) (hd : ∀ s, o.dst = some s → s < a.tmps.size) (ht : tokOp sig (.mv x tk) o.dst O = some O') (hv : evOp C (.mv x tk) e h = some (v, h')) :
    Stepped P G ρ e O' a w o v h' := by
  have nil : nilSl x = true → gain1 (dropSlot O o.dst) o.dst = some O' → Stepped P G ρ e O' a w o v h' := fun hn hg => by
    refine quiet_nil C st hc hd hv hg fun u hrun hr => .inr ?_
    simp only [evOp] at hv
    obtain ⟨x', h1, h2⟩ := pair_bind hv
    cases h2
    have hcc : ∃ y, chkA x y = true ∧ (execOp a.eval o).run P w = .ok (.value (a.eval y)) w := by
      cases ho : o.op <;> simp only [chkQ, ho] at hc <;> try (cases hc; done)
      · exact ⟨_, hc, by simp [execOp, ho]⟩
      · exact ⟨_, hc, by simp [execOp, ho]⟩
    obtain ⟨y, hy, hrun2⟩ := hcc
    obtain ⟨⟨s, hs⟩, hu⟩ := nil_own (a := a) hy hn h1
    rw [hrun] at hrun2
    have : u = a.eval y := by injection hrun2 with e1; injection e1
    rw [this, hu, hs]
    exact rfl
  simp only [tokOp] at ht
  cases x with
  | g z =>
    cases tk <;> simp only [nilSl, Bool.false_eq_true, if_false] at ht
    all_goals (cases ht; exact quiet_plain C st hc hd hv)
  | c z =>
    cases tk <;> simp only at ht
    all_goals
      split at ht
      · rename_i hn; exact nil hn ht
      · cases ht; exact quiet_plain C st hc hd hv
  | t s =>
    cases tk with
    | false =>
      simp only [nilSl, Bool.false_eq_true, if_false] at ht
      cases ht
      exact quiet_plain C st hc hd hv
    | true =>
      simp only at ht
      split at ht
      · cases ht
      · rename_i hne
        obtain ⟨rfl, u, hrun, hr⟩ := quiet_sound st.mem C st.env hc hv
        obtain ⟨st1, f1⟩ := st.less (dropSlot O o.dst) (dropSlot_sub O o.dst)
        cases hdst : o.dst with
        | none =>
          rw [hdst] at ht
          simp only at ht
          cases ht
          obtain ⟨st2, f2⟩ := st.less ((dropSlot O none).filter fun k => k.1 != s) (fun k hk => (List.mem_filter.1 hk).1)
          refine ⟨.value u, u, w, G, _, hrun, .inl rfl, ?_, f2⟩
          rw [hdst]
          exact st2
        | some d =>
          rw [hdst] at ht hne
          simp only at ht
          cases ht
          have hsd : s ≠ d := fun e => hne (by rw [e])
          have hkd : ∀ c, (ρ.only (dropSlot O o.dst)) (.key d c) = none := fun c => only_drop_key hdst ρ O c
          obtain ⟨m2, f2⟩ := st1.mem.moveSlot s d hsd hkd
          refine ⟨.value u, u, w, G, _, hrun, .inl rfl, ?_, f1.trans f2⟩
          rw [put_tmps]
          have hval : (execOp a.eval o).run P w = .ok (.value (a.eval (.tmp s))) w ∧ e.get s = some v := by
            simp only [evOp] at hv
            obtain ⟨x', h1, h2⟩ := pair_bind hv
            cases h2
            refine ⟨?_, by simpa using h1⟩
            cases ho : o.op <;> simp only [chkQ, ho] at hc <;> try (cases hc; done)
            all_goals
              rename_i y
              cases y <;> simp [chkA] at hc
              subst hc
              simp [execOp, ho]
          have hu : u = a.tmps.getD s undef := by
            have := hval.1
            rw [hrun] at this
            injection this with e1; injection e1
          refine st1.put hd f2.le hr m2 _ (fun t c hk => ?_) (fun t c hk => ?_)
          · rcases List.mem_append.1 hk with hk | hk
            · obtain ⟨hk1, hk2⟩ := List.mem_filter.1 hk
              have hts : t ≠ s := by simpa using hk2
              have htd : t ≠ d := dropSlot_ne hk1
              refine .inl ⟨fun e => htd (by rw [hdst] at e; exact (Option.some.inj e).symm), by rw [hdst]; exact hk1, ?_⟩
              simp [Rho.slot, hts, htd]
            · obtain ⟨k, hk0, hk2⟩ := List.mem_map.1 hk
              cases hk2
              obtain ⟨hk1, hk3⟩ := List.mem_filter.1 hk0
              clear hk0
              obtain ⟨t2, c⟩ := k
              have : t2 = s := by simpa using hk3
              subst this
              refine .inr ⟨hdst, ?_⟩
              obtain ⟨u1, v1, x1, k1, k2, k3, k4⟩ := st1.own t2 c (by rw [hdst]; exact hk1)
              rw [hval.2] at k2
              cases k2
              refine ⟨u1, x1, by rw [hu]; exact k1, k3, ?_⟩
              simpa [Rho.slot] using k4
          · simp only [Rho.slot]
            split
            · rename_i e1
              subst e1
              cases hk0 : (ρ.only (dropSlot O o.dst)) (.key s c) with
              | none => rfl
              | some y =>
                exfalso
                have hin : (s, c) ∈ dropSlot O o.dst := by
                  refine Classical.byContradiction fun hno => ?_
                  rw [st1.non s c hno] at hk0
                  cases hk0
                apply hk
                refine List.mem_append.2 (.inr (List.mem_map.2 ⟨(s, c), List.mem_filter.2 ⟨by rw [← hdst]; exact hin, by simp⟩, rfl⟩))
            · split
              · rfl
              · rename_i e1 e2
                apply st1.non
                intro hin
                apply hk
                exact List.mem_append.2 (.inl (List.mem_filter.2 ⟨by rw [← hdst]; exact hin, by simpa using e2⟩))


/-- A component of a tuple. -/
theorem step_ext (C : Callee) (sig : Sig) {x : A} {i : Nat} (st : St G ρ e h O a.tmps w) (hc : chkQ P (.ext x i) o.op = true) (hd : ∀ s, o.dst = some s → s < a.tmps.size) (ht : tokOp sig (.ext x i) o.dst O = some O') (hv : evOp C (.ext x i) e h = some (v, h')) :
    Stepped P G ρ e O' a w o v h' := by
  simp only [tokOp] at ht
  cases x with
  | c z => cases ht; exact quiet_plain C st hc hd hv
  | g z => cases ht; exact quiet_plain C st hc hd hv
  | t s =>
    simp only at ht
    split at ht
    case isFalse => cases ht; exact quiet_plain C st hc hd hv
    rename_i hcond
    obtain ⟨hin, hne⟩ := hcond
    have hin : (s, i + 1) ∈ O := by simpa using hin
    obtain ⟨rfl, u, hrun, hr⟩ := quiet_sound st.mem C st.env hc hv
    obtain ⟨x', h1, h2⟩ := pair_bind (by simpa only [evOp] using hv : ((A.t s).ev e).bind _ = some _)
    obtain ⟨v', h3, h4⟩ := pair_bind h2
    cases h4
    refine mem_gain_from st hd s (i + 1) hin hne ht fun ρ1 d m hk1 hk2 hne2 => ?_
    obtain ⟨u1, v1, x1, k1, k2, k3, k4⟩ := st.own s (i + 1) hin
    simp only [A.ev] at h1
    rw [h1] at k2
    cases k2
    obtain ⟨m2, f2⟩ := m.move (s, i + 1) (d, 0) (.inl hk1)
    refine ⟨u, w, G, _, hrun, hr, m2, f2, fun t c n1 n2 => ?_, ?_, ?_⟩
    · simp only [Rho.set]
      rw [if_neg (by simpa using n1), if_neg (by simpa using n2)]
    · simp only [Rho.set]
      rw [if_neg (by simpa using fun (e : s = d) => fun e2 => hne2 (by rw [e, e2]))]
      simp
    · have e1 : u = u1 := by
        have rx : Rel G (a.tmps.getD s undef) x' := st.env s x' h1
        generalize hq : a.tmps.getD s undef = q at k1 rx
        cases x' <;> simp [extV] at h3
        cases rx with
        | tup us vs hl hk =>
          simp only [compR] at k1
          have : (execOp a.eval o).run P w = .ok (.value u1) w := by
            cases ho : o.op <;> simp only [chkQ, ho] at hc <;> try (cases hc; done)
            rename_i y j
            simp only [Bool.and_eq_true, beq_iff_eq] at hc
            obtain ⟨c1, rfl⟩ := hc
            cases y <;> simp [chkA] at c1
            subst c1
            have : a.eval (.tmp s) = .tuple us := hq
            simp only [execOp, ho]
            exact run_val (by simp [Instr.extract, this, k1])
          rw [hrun] at this
          injection this with e1; injection e1
      have e2 : v = x1 := by
        cases x' <;> simp [extV] at h3
        simp only [compV] at k3
        rw [h3] at k3
        exact Option.some.inj k3
      rw [e1, e2]
      simpa [Rho.set, hk2] using k4

end
end Ev

/-! Ev, part U: the memory's operations as steps; all that call nothing. -/
namespace Ev
open Go
section
variable {P : Program} {G : Gh} {ρ : Rho} {h : Heap} {w : World}
variable {e : Env} {O O' : Own} {a : Act} {o : Oper} {v : V} {h' : Heap}

theorem Fr.drewn {G' : Gh} {ρ' : Rho} {w' : World} {n : Nat} (f : Fr G ρ { w with drawn := n } G' ρ' w') : Fr G ρ w G' ρ' w' := (Fr.drew G ρ w n).trans f

theorem run_skip {s : Sem Unit} {w' : World} (hs : s.run P w = .ok () w') : (do s; pure Next.skip : Sem Next).run P w = .ok .skip w' := by
  simp [hs]

theorem run_val' {u : Value} {s : Sem Value} {w' : World} (hs : s.run P w = .ok u w') : (do pure (Next.value (← s)) : Sem Next).run P w = .ok (.value u) w' := by
  simp [hs]

theorem ownHs (u : Value) (s b off len : Nat) (hu : ∃ a n c, u = .slice a n c) : OwnVal u (.hs s b off len) none := by
  obtain ⟨a, n, c, rfl⟩ := hu
  cases a <;> exact rfl

theorem rho_eq' {ρ : Rho} {y : Ow} {z : Option Reg} : ρ.set y z y = z := by simp [Rho.set]
theorem rho_ne' {ρ : Rho} {y y' : Ow} {z : Option Reg} (h : y' ≠ y) : ρ.set y z y' = ρ y' := by simp only [Rho.set]; rw [if_neg h]
/-- A slot's cells are given up. -/
theorem Mem.dropKey (m : Mem G h ρ w) (d c : Nat) : Mem G h (ρ.set (.key d c) none) w ∧ Fr G ρ w G (ρ.set (.key d c) none) w := by
  have hs : Rho.sub (ρ.set (.key d c) none) ρ := fun y => by
    by_cases e : y = .key d c
    · subst e; exact .inl rho_eq'
    · exact .inr (rho_ne' e)
  exact ⟨m.drop hs fun b cs _ => rho_ne' (by simp), Fr.drop hs⟩
/-! #### lasting bytes -/
section
theorem chunk_spec (s : Nat) (ag : Bool) : ∀ (n : Nat) (cs : List V), chunkOk s ag cs = true → cs.length = n * s →
    flat (chunk s ag n cs) = cs ∧ (chunk s ag n cs).length = n ∧ ∀ x ∈ chunk s ag n cs, x.cells.length = s
  | 0, cs, _, hl => by
    have : cs = [] := List.length_eq_zero_iff.1 (by simpa using hl)
    subst this
    simp [chunk, flat]
  | n + 1, cs, hk, hl => by
    rw [Nat.succ_mul] at hl
    have hk2 : chunkOk s ag (cs.drop s) = true := by
      unfold chunkOk at hk ⊢
      simp only [Bool.or_eq_true, Bool.and_eq_true] at hk ⊢
      rcases hk with h | ⟨h1, h2⟩
      · exact .inl h
      · exact .inr ⟨h1, List.all_eq_true.2 fun x hx => List.all_eq_true.1 h2 x (List.mem_of_mem_drop hx)⟩
    obtain ⟨i1, i2, i3⟩ := chunk_spec s ag n (cs.drop s) hk2 (by simp; omega)
    cases ag with
    | true =>
      have hc : (V.agg (cs.take s)).cells.length = s := by simp [V.cells]; omega
      refine ⟨?_, by simp [chunk, i2], fun x hx => ?_⟩
      · have : flat (chunk s true (n + 1) cs) = cs.take s ++ flat (chunk s true n (cs.drop s)) := by simp [chunk, flat, V.cells]
        rw [this, i1, List.take_append_drop]
      · simp only [chunk, if_true, List.mem_cons] at hx
        rcases hx with rfl | hx
        · exact hc
        · exact i3 x hx
    | false =>
      simp [chunkOk] at hk
      obtain ⟨rfl, h2⟩ := hk
      cases cs with
      | nil => simp at hl
      | cons c cs =>
        have hc : c.cells = [c] := by
          have := h2 c (by simp)
          cases c <;> simp [V.one] at this <;> rfl
        refine ⟨?_, by simpa [chunk] using i2, fun x hx => ?_⟩
        · have : flat (chunk 1 false (n + 1) (c :: cs)) = c.cells ++ flat (chunk 1 false n ((c :: cs).drop 1)) := by simp [chunk, flat]
          rw [this, i1, hc]
          simp
        · simp only [chunk, Bool.false_eq_true, if_false, List.headD_cons, List.mem_cons] at hx
          rcases hx with rfl | hx
          · rw [hc]; rfl
          · exact i3 x hx

theorem hsCells_length {h : Heap} {s b off len : Nat} {cs : List V} (hb : hsCells h s b off len = some cs) : cs.length = len * s := by
  unfold hsCells at hb
  simp only [Option.bind_eq_some_iff] at hb
  obtain ⟨row, _, hb⟩ := hb
  split at hb
  · cases hb; simp; omega
  · cases hb

end
theorem freeze1_sound (m : Mem G h ρ w) {u : Value} {v v' : V} {h' : Heap} {ag : Bool} (hr : Rel G u v) (hv : freeze1 ag v h = some (v', h')) :
    ∃ G' ρ', Mem G' h' ρ' w ∧ Fr G ρ w G' ρ' w ∧ Rel G' u v' ∧ ∀ s c, ρ' (.key s c) = ρ (.key s c) := by
  unfold freeze1 at hv
  cases v <;> try (cases hv; done)
  case ps s xs => cases hv; exact ⟨G, ρ, m, .refl _ _ _, hr, fun _ _ => rfl⟩
  case hn s => cases hv; cases hr; exact ⟨G, ρ, m, .refl _ _ _, .ps0 s _, fun _ _ => rfl⟩
  case hs s b off len =>
    simp only [Option.bind_eq_some_iff] at hv
    obtain ⟨cs, h1, h2⟩ := hv
    split at h2
    case isFalse => cases h2
    rename_i hk
    cases h2
    have hcl := hsCells_length h1
    obtain ⟨e1, e2, e3⟩ := chunk_spec s ag len cs hk hcl
    obtain ⟨r, o, cap, us, hueq, hu, ha, hcap, hone⟩ := m.hs hr h1
    have hrow : ∃ row, h.row b = some row ∧ off + len * s ≤ row.length := by
      unfold hsCells at h1
      simp only [Option.bind_eq_some_iff] at h1
      obtain ⟨row, q1, q2⟩ := h1
      split at q2
      · exact ⟨row, q1, by assumption⟩
      · cases q2
    obtain ⟨row, hrow, hle⟩ := hrow
    obtain ⟨r2, lo2, hi2, us2, q1, q2, q3, _⟩ := blkRow m hrow (regOf_hs hr)
    cases hr with
    | hs s b off len cap2 r' lo hi hg hh hc2 =>
      injection hueq with p1 p2 p3
      injection p1 with p1
      injection p1 with p4 p5
      have p6 : lo = o := by omega
      subst p4 p6 p3
      rw [hg] at q1
      injection q1 with q1
      injection q1 with z1 z2
      injection z2 with z2 z3
      subst z1 z2 z3
      have hul : us.length = len * s := by rw [hu.1, hcl]
      obtain ⟨m2, f2⟩ := m.last q2 (lo + off) us ha hone (by omega) (by omega) (h.set b none) (by simp) (ρ.set (.blk b) none)
        (fun y r' lo' hi' hy => by
          simp only [Rho.set] at hy
          split at hy
          · cases hy
          · rename_i e; exact ⟨_, _, hy, Nat.le_refl _, Nat.le_refl _, fun c => absurd c e⟩)
        (fun b' cs' hb' => by
          by_cases e : b' = b
          · subst e
            rcases Nat.lt_or_ge b' h.length with k | k
            · rw [List.getElem?_set_self k] at hb'; cases hb'
            · rw [List.getElem?_eq_none (by simpa using k)] at hb'; cases hb'
          · rw [List.getElem?_set_ne (fun k => e k.symm)] at hb'
            exact ⟨hb', by simp [Rho.set, e], by simpa using e⟩)
      refine ⟨_, _, m2, f2, ?_, fun s c => by simp [Rho.set]⟩
      exact rel_ps_new (us := us) (fun j hj => addSt_st G _ (lo + off) us j hj) e2 hc2 e3 (by rw [e1]; exact hu.mono f2.le)


theorem freezeC_sound (ag : Bool) : ∀ (vs : List V) (us : List Value) (vs' : List V) (G : Gh) (ρ : Rho) (h h' : Heap), Rels G us vs → Mem G h ρ w → freezeC ag vs h = some (vs', h') →
    ∃ G' ρ', Mem G' h' ρ' w ∧ Fr G ρ w G' ρ' w ∧ Rels G' us vs' ∧ ∀ s c, ρ' (.key s c) = ρ (.key s c)
  | [], us, vs', G, ρ, h, h', hr, m, hv => by
    simp [freezeC] at hv
    obtain ⟨rfl, rfl⟩ := hv
    exact ⟨G, ρ, m, .refl _ _ _, hr, fun _ _ => rfl⟩
  | v :: vs, [], vs', G, ρ, h, h', hr, m, hv => by have := hr.1; simp at this
  | v :: vs, u :: us, vs', G, ρ, h, h', hr, m, hv => by
    simp only [freezeC] at hv
    obtain ⟨⟨v1, h1⟩, k1, k2⟩ := pair_bind hv
    obtain ⟨⟨vs2, h2⟩, k3, k4⟩ := pair_bind k2
    cases k4
    have first : ∃ G1 ρ1, Mem G1 h1 ρ1 w ∧ Fr G ρ w G1 ρ1 w ∧ Rel G1 u v1 ∧ ∀ s c, ρ1 (.key s c) = ρ (.key s c) := by
      cases v with
      | hs s b off len => exact freeze1_sound m hr.head k1
      | hn s => exact freeze1_sound (ag := ag) (v := .hn s) m hr.head k1
      | _ => cases k1; exact ⟨G, ρ, m, .refl _ _ _, hr.head, fun _ _ => rfl⟩
    obtain ⟨G1, ρ1, q1, q2, q3, q4⟩ := first
    obtain ⟨G', ρ', r1, r2, r3, r4⟩ := freezeC_sound ag vs us vs2 G1 ρ1 h1 _ (hr.tail.mono q2.le) q1 k3
    exact ⟨G', ρ', r1, q2.trans r2, .cons (q3.mono r2.le) r3, fun s c => (r4 s c).trans (q4 s c)⟩
theorem freezeA_sound (m : Mem G h ρ w) {u : Value} {v v' : V} {h' : Heap} {ag : Bool} (hr : Rel G u v) (hv : freezeA ag v h = some (v', h')) :
    ∃ G' ρ', Mem G' h' ρ' w ∧ Fr G ρ w G' ρ' w ∧ Rel G' u v' ∧ ∀ s c, ρ' (.key s c) = ρ (.key s c) := by
  cases v with
  | agg cs =>
    simp only [freezeA] at hv
    obtain ⟨⟨vs', h1⟩, k1, k2⟩ := pair_bind hv
    cases k2
    cases hr with
    | agg us _ hl k =>
      have hrs : Rels G us.toList cs := Rels.of_agg hl k
      obtain ⟨G', ρ', r1, r2, r3, r4⟩ := freezeC_sound ag cs us.toList vs' G ρ h h1 hrs m k1
      exact ⟨G', ρ', r1, r2, Rels.toAgg r3, r4⟩
  | _ => exact freeze1_sound (ag := ag) m hr hv
theorem lit_run (m : Mem G h ρ w) {s d : Nat} (hsd : s = d) (hc : chkLit P d = true) {ux : Value} {x v : V} {h' : Heap} (rx : Rel G ux x) (hv : litV h x = some (v, h')) :
    ∃ u w' G' ρ', (convert s d ux).run P w = .ok u w' ∧ Mem G' h' ρ' w' ∧ Fr G ρ w G' ρ' w' ∧ Rel G' u v ∧ ∀ s c, ρ' (.key s c) = ρ (.key s c) := by
  cases hv

theorem step_mem (C : Callee) (sig : Sig) {ao : AOp} (st : St G ρ e h O a.tmps w) (hc : chkM P ao o.op = true) (hd : ∀ s, o.dst = some s → s < a.tmps.size) (ht : tokOp sig ao o.dst O = some O') (hv : evOp C ao e h = some (v, h')) :
    Stepped P G ρ e O' a w o v h' := by
  cases ao with
  | alloc z =>
    have hO : O' = dropSlot O o.dst := not_call ht rfl
    subst hO
    simp only [evOp] at hv
    cases hv
    cases ho : o.op <;> simp only [chkM, ho] at hc <;> try (cases hc; done)
    rename_i el
    simp only [Bool.and_eq_true] at hc
    refine mem_plain st hd fun ρ1 m => ?_
    obtain ⟨zu, hzr, hzz⟩ := zeroCells_run (w := w) hc.1 G
    obtain ⟨G', ρ', w', r1, m1, f1, r2, k1⟩ := var_m (P := P) m el zu z hzz (one_of_rels hzz hc.2)
    exact ⟨_, _, w', G', ρ', by simp only [execOp, ho]; exact run_val' (by simp [Instr.alloc, hzr, r1]), .inl rfl, r2, m1, f1, k1⟩
  | box x =>
    have hO : O' = dropSlot O o.dst := not_call ht rfl
    subst hO
    simp only [evOp] at hv
    obtain ⟨x', h1, h2⟩ := pair_bind hv
    split at h2
    case isFalse => cases h2
    rename_i hone
    cases h2
    cases ho : o.op <;> simp only [chkM, ho] at hc <;> try (cases hc; done)
    rename_i el y
    have rx := A_rel st.env hc h1
    refine mem_plain st hd fun ρ1 m => ?_
    obtain ⟨G', ρ', w', r1, m1, f1, r2, k1⟩ := var_m (P := P) m el (a.eval y) x'.cells rx.cells (one_of_rels rx.cells hone)
    exact ⟨_, _, w', G', ρ', by simp only [execOp, ho]; exact run_val' (by simp [Instr.box, r1]), .inl rfl, r2, m1, f1, k1⟩
  | boxf x =>
    have hO : O' = dropSlot O o.dst := not_call ht rfl
    subst hO
    simp only [evOp] at hv
    obtain ⟨x', h1, h2⟩ := pair_bind hv
    split at h2
    case isFalse => cases h2
    rename_i hone
    cases h2
    cases ho : o.op <;> simp only [chkM, ho] at hc <;> try (cases hc; done)
    rename_i el y
    have rx := A_rel st.env hc h1
    refine mem_plain st hd fun ρ1 m => ?_
    obtain ⟨G', w', r1, m1, f1, r2⟩ := varf_m (P := P) m el (a.eval y) x'.cells rx.cells (one_of_rels rx.cells hone)
    exact ⟨_, _, w', G', ρ1, by simp only [execOp, ho]; exact run_val' (by simp [Instr.box, r1]), .inl rfl, r2, m1, f1, fun _ _ => rfl⟩
  | store n x y =>
    have hO : O' = dropSlot O o.dst := not_call ht rfl
    subst hO
    simp only [evOp] at hv
    obtain ⟨x', h1, h2⟩ := pair_bind hv
    obtain ⟨y', h3, h4⟩ := pair_bind h2
    obtain ⟨h5, h6, h7⟩ := pair_bind h4
    cases h7
    cases ho : o.op <;> simp only [chkM, ho] at hc <;> try (cases hc; done)
    simp only [Bool.and_eq_true] at hc
    refine mem_plain st hd fun ρ1 m => ?_
    obtain ⟨w', r1, m1, f1⟩ := store_m (P := P) m hc.2 (A_rel st.env hc.1.1 h1) (A_rel st.env hc.1.2 h3) h6
    exact ⟨.skip, undef, w', G, ρ1, by simp only [execOp, ho]; exact run_skip r1, .inr ⟨rfl, rfl⟩, .tup #[] [] rfl (by simp), m1, f1, fun _ _ => rfl⟩
  | bsl s xs hp =>
    simp only [tokOp] at ht
    simp only [evOp] at hv
    obtain ⟨vs, h1, h2⟩ := pair_bind hv
    split at h2
    case isFalse => cases h2
    rename_i hall
    have hs : ∀ v ∈ vs, v.cells.length = s := fun v hv => by
      have := List.all_eq_true.1 hall v hv
      simp only [Bool.and_eq_true, beq_iff_eq] at this
      exact this.1
    have hone : (flat vs).all V.one = true := List.all_eq_true.2 fun x hx => by
      obtain ⟨v, hv, hx⟩ := List.mem_flatMap.1 hx
      have := List.all_eq_true.1 hall v hv
      simp only [Bool.and_eq_true] at this
      exact List.all_eq_true.1 this.2 x hx
    cases ho : o.op <;> simp only [chkM, ho] at hc <;> try (cases hc; done)
    rename_i t len ps
    obtain ⟨el, cs, hrun, hl, hcs, hr⟩ := bsl_run (w := w) st.env hc h1 hs
    have hfl := flat_length s vs hs
    have htk : cs.toList.take (len * s) = cs.toList := List.take_of_length_le (by simp [hcs])
    refine mem_gain_new st hd ht fun ρ1 d m hk => ?_
    cases hp with
    | false =>
      simp at h2
      obtain ⟨rfl, rfl⟩ := h2
      obtain ⟨G', ρ', k1, k2, k3, k4, k5⟩ := make_ps m cs el 0 0 rfl s len len vs hl (Nat.le_refl _) hcs hs (by rw [htk]; exact hr) (by rw [htk]; exact one_of_rels hr hone) d 0 hk
      exact ⟨_, _, G', ρ', by simp only [execOp, ho]; exact run_val' hrun, k3, k1, k2, fun s c hne => k4 _ (by simpa using hne), k5⟩
    | true =>
      cases hve : vs.isEmpty with
      | true =>
        rw [hve] at h2
        simp at h2
        obtain ⟨rfl, rfl⟩ := h2
        have hvn : vs = [] := by simpa using hve
        have hl0 : len = 0 := by rw [← hl, hvn]; rfl
        obtain ⟨G', ρ', k1, k2, k3, k4, k5⟩ := make_ps m cs el 0 0 rfl s len len vs hl (Nat.le_refl _) hcs hs (by rw [htk]; exact hr) (by rw [htk]; exact one_of_rels hr hone) d 0 hk
        obtain ⟨m3, f3⟩ := k1.dropKey d 0
        refine ⟨_, _, G', _, by simp only [execOp, ho]; exact run_val' hrun, ?_, m3, k2.trans f3, fun s c hne => ?_, ?_⟩
        · rw [hl0]
          exact .hn s _
        · rw [rho_ne' (by simpa using hne)]
          exact k4 _ (by simpa using hne)
        · rw [rho_eq']
          rfl
      | false =>
        rw [hve] at h2
        simp at h2
        obtain ⟨rfl, rfl⟩ := h2
        have htk2 : cs.toList.take (flat vs).length = cs.toList := List.take_of_length_le (by simp [hcs, hfl, hl])
        obtain ⟨m2, f2⟩ := m.push_blk cs el (flat vs) (by rw [hfl, hcs, hl]; exact Nat.le_refl _) (by rw [htk2]; exact hr) (by rw [htk2]; exact one_of_rels hr hone)
        refine ⟨_, _, _, _, by simp only [execOp, ho]; exact run_val' hrun, ?_, m2, f2, fun s c _ => by simp [Rho.set], ?_⟩
        · have := Rel.hs (G := G.addReg h.length (w.heap.size, 0, cs.size)) s h.length 0 len len w.heap.size 0 cs.size (by simp [Gh.addReg]) (by rw [hcs]; omega) (Nat.le_refl _)
          rw [hl]
          simpa using this
        · have : (ρ1.set (.blk h.length) (some (w.heap.size, 0, cs.size))) (.key d 0) = none := by simpa [Rho.set] using hk
          rw [this]
          exact ownHs _ _ _ _ _ ⟨_, _, _, rfl⟩
  | conv k x =>
    cases k with
    | sb =>
      simp only [tokOp] at ht
      simp only [evOp] at hv
      obtain ⟨x', h1, h2⟩ := pair_bind hv
      obtain ⟨v', h3, h4⟩ := pair_bind h2
      cases h4
      cases ho : o.op <;> simp only [chkM, ho] at hc <;> try (cases hc; done)
      rename_i s d y
      simp only [Bool.and_eq_true] at hc
      have rx := A_rel st.env hc.1 h1
      generalize hy : a.eval y = uy at rx
      cases x' <;> simp [convV] at h3
      subst h3
      obtain ⟨sb, rfl, rfl⟩ := rel_str rx
      obtain ⟨cap, cs, el, q1, q2, q3, hrun⟩ := sb_run (w := w) hc.2 sb
      have hO : O' = dropSlot O o.dst := (Option.some.inj ht).symm
      subst hO
      refine mem_plain st hd fun ρ1 m => ?_
      have hr : Rels G (cs.toList.take (sb.size * 1)) (flat (sb.data.toList.map byteV)) := by
        rw [Nat.mul_one, q3]
        have : ∀ l : List UInt8, Rels G (l.map fun b => Value.int .u8 b.toNat) (flat (l.map byteV)) := fun l => by
          induction l with
          | nil => exact .nil
          | cons c l ih => exact Rels.cons (.int _ _) ih
        exact this _
      obtain ⟨G', k1, k2, k3⟩ := make_pl (m.drew (w.drawn + 1)) cs el cap (cap + 1) 1 sb.size cap (sb.data.toList.map byteV) (by simp) q1 (by simpa using q2)
        (fun x hx => by obtain ⟨c, _, rfl⟩ := List.mem_map.1 hx; rfl) hr (by
          rw [Nat.mul_one, q3]
          intro u hu
          obtain ⟨c, _, rfl⟩ := List.mem_map.1 hu
          rfl)
      exact ⟨_, _, _, G', ρ1, by simp only [execOp, ho, hy]; exact run_val' hrun, .inl rfl, k3, k1, k2.drewn, fun _ _ => rfl⟩
    | _ => simp [chkM] at hc
  | mksl s bytes z l c hp =>
    simp only [tokOp] at ht
    simp only [evOp] at hv
    obtain ⟨l', h1, h2⟩ := pair_bind hv
    obtain ⟨c', h3, h4⟩ := pair_bind h2
    obtain ⟨⟨ln, cn⟩, h5, h6⟩ := pair_bind h4
    cases ho : o.op <;> simp only [chkM, ho] at hc <;> try (cases hc; done)
    simp only [Bool.and_eq_true] at hc
    obtain ⟨⟨c1, c2⟩, c3⟩ := hc
    obtain ⟨cs, el, hrun, hcs, hle, hr, hone, hz⟩ := mksl_run (w := w) c3 (A_rel st.env c1 h1) (A_rel st.env c2 h3) h5
    have hzs : ∀ x ∈ List.replicate ln z, x.cells.length = s := fun x hx => by rw [List.eq_of_mem_replicate hx]; exact hz
    refine mem_gain_new st hd ht fun ρ1 d m hk => ?_
    cases hp with
    | false =>
      simp at h6
      obtain ⟨rfl, rfl⟩ := h6
      obtain ⟨G', ρ', k1, k2, k3, k4, k5⟩ := make_ps m cs el 0 0 rfl s ln cn (List.replicate ln z) (by simp) hle hcs hzs hr hone d 0 hk
      exact ⟨_, _, G', ρ', by simp only [execOp, ho]; exact run_val' hrun, k3, k1, k2, fun s c hne => k4 _ (by simpa using hne), k5⟩
    | true =>
      simp at h6
      obtain ⟨rfl, rfl⟩ := h6
      have hfl := flat_length s _ hzs
      simp only [List.length_replicate] at hfl
      obtain ⟨m2, f2⟩ := m.push_blk cs el (flat (List.replicate ln z)) (by rw [hfl, hcs]; exact Nat.mul_le_mul_right _ hle) (by rw [hfl]; exact hr) (by rw [hfl]; exact hone)
      refine ⟨_, _, _, _, by simp only [execOp, ho]; exact run_val' hrun, ?_, m2, f2, fun s c _ => by simp [Rho.set], ?_⟩
      · have := Rel.hs (G := G.addReg h.length (w.heap.size, 0, cs.size)) s h.length 0 ln cn w.heap.size 0 cs.size (by simp [Gh.addReg]) (by rw [hcs]; omega) hle
        simpa using this
      · have : (ρ1.set (.blk h.length) (some (w.heap.size, 0, cs.size))) (.key d 0) = none := by simpa [Rho.set] using hk
        rw [this]
        exact ownHs _ _ _ _ _ ⟨_, _, _, rfl⟩
  | copy s x y =>
    have hO : O' = dropSlot O o.dst := not_call ht rfl
    subst hO
    simp only [evOp] at hv
    obtain ⟨x', h1, h2⟩ := pair_bind hv
    obtain ⟨y', h3, h4⟩ := pair_bind h2
    cases ho : o.op <;> simp only [chkM, ho] at hc <;> try (cases hc; done)
    rename_i c
    obtain ⟨callee, args, ats⟩ := c
    cases callee with
    | builtin b =>
      cases b <;> simp only at hc <;> try (cases hc; done)
      simp only [Bool.and_eq_true] at hc
      obtain ⟨c1, c2⟩ := hc
      cases hal : args.toList with
      | nil => simp [hal, chkAs] at c1
      | cons ux r =>
        cases r with
        | nil => simp [hal, chkAs] at c1
        | cons uy r =>
          cases r with
          | cons z r => simp [hal, chkAs] at c1
          | nil =>
            simp [hal, chkAs] at c1
            have hargs : args = #[ux, uy] := by apply Array.ext'; simpa using hal
            subst hargs
            refine mem_plain st hd fun ρ1 m => ?_
            obtain ⟨u, w', r1, m1, f1, r2⟩ := copy_m (P := P) (ty := o.type) m c2 (A_rel st.env c1.1 h1) (A_rel st.env c1.2 h3) h4
            exact ⟨_, u, w', G, ρ1, by simp only [execOp, ho, resolve, pure_bind, invoke, builtin]; exact run_val' (by simpa using r1), .inl rfl, r2, m1, f1, fun _ _ => rfl⟩
    | _ => cases hc
  | bad => simp only [evOp] at hv; cases hv
  | clr s z x =>
    have hO : O' = dropSlot O o.dst := not_call ht rfl
    subst hO
    simp only [evOp] at hv
    obtain ⟨x', h1, h2⟩ := pair_bind hv
    cases ho : o.op <;> simp only [chkM, ho] at hc <;> try (cases hc; done)
    rename_i c
    obtain ⟨callee, args, ats⟩ := c
    cases callee with
    | builtin b =>
      cases b <;> simp only at hc <;> try (cases hc; done)
      simp only [Bool.and_eq_true] at hc
      obtain ⟨c1, c2⟩ := hc
      cases hal : args.toList with
      | nil => simp [hal, chkAs] at c1
      | cons ux r =>
        cases r with
        | cons z r => simp [hal, chkAs] at c1
        | nil =>
          simp [hal, chkAs] at c1
          have hargs : args = #[ux] := by apply Array.ext'; simpa using hal
          subst hargs
          refine mem_plain st hd fun ρ1 m => ?_
          obtain ⟨u, w', r1, m1, f1, r2⟩ := clr_m (P := P) (ty := o.type) m c2 (A_rel st.env c1 h1) h2
          exact ⟨_, u, w', G, ρ1, by simp only [execOp, ho, resolve, pure_bind, invoke, builtin]; exact run_val' (by simpa using r1), .inl rfl, r2, m1, f1, fun _ _ => rfl⟩
    | _ => cases hc
  | ldz sz x ag =>
    have hO : O' = dropSlot O o.dst := not_call ht rfl
    subst hO
    simp only [evOp] at hv
    obtain ⟨x', h1, h2⟩ := pair_bind hv
    obtain ⟨y', h3, h4⟩ := pair_bind h2
    cases ho : o.op <;> simp only [chkM, ho] at hc <;> try (cases hc; done)
    simp only [Bool.and_eq_true] at hc
    refine mem_plain st hd fun ρ1 m => ?_
    obtain ⟨u, hr, hrel⟩ := load_sound m hc.2 (A_rel st.env hc.1 h1) h3
    obtain ⟨G', ρ', m1, f1, r2, k1⟩ := freezeA_sound m hrel h4
    exact ⟨_, u, w, G', ρ', by simp only [execOp, ho]; exact run_val' hr, .inl rfl, r2, m1, f1, k1⟩
  | frz x ag =>
    have hO : O' = dropSlot O o.dst := not_call ht rfl
    subst hO
    simp only [evOp] at hv
    obtain ⟨x', h1, h2⟩ := pair_bind hv
    cases ho : o.op <;> simp only [chkM, ho] at hc <;> try (cases hc; done)
    all_goals
      refine mem_plain st hd fun ρ1 m => ?_
      obtain ⟨G', ρ', m1, f1, r2, k1⟩ := freezeA_sound m (A_rel st.env hc h1) h2
      exact ⟨_, _, w, G', ρ', by simp [execOp, ho], .inl rfl, r2, m1, f1, k1⟩
  | rng s x =>
    have hO : O' = dropSlot O o.dst := not_call ht rfl
    subst hO
    simp only [evOp] at hv
    obtain ⟨x', h1, h2⟩ := pair_bind hv
    cases ho : o.op <;> simp only [chkM, ho] at hc <;> try (cases hc; done)
    simp only [Bool.and_eq_true] at hc
    have rx := A_rel st.env hc.1 h1
    refine mem_plain st hd fun ρ1 m => ?_
    obtain ⟨u, w', G', r1, r2, m1, f1⟩ := rngS_run (P := P) m rx h2 hc.2
    exact ⟨_, u, w', G', ρ1, by simp only [execOp, ho]; exact run_val' r1, .inl rfl, r2, m1, f1, fun _ _ => rfl⟩
  | nxt s x =>
    have hO : O' = dropSlot O o.dst := not_call ht rfl
    subst hO
    simp only [evOp] at hv
    obtain ⟨x', h1, h2⟩ := pair_bind hv
    cases ho : o.op <;> simp only [chkM, ho] at hc <;> try (cases hc; done)
    rename_i y bs
    simp only [Bool.and_eq_true, beq_iff_eq] at hc
    obtain ⟨hc, rfl⟩ := hc
    refine mem_plain st hd fun ρ1 m => ?_
    obtain ⟨u, w', r1, r2, m1, f1⟩ := nxsV_run (P := P) m (A_rel st.env hc h1) h2 o.type
    exact ⟨_, u, w', G, ρ1, by simp only [execOp, ho]; exact run_val' r1, .inl rfl, r2, m1, f1, fun _ _ => rfl⟩
  | mkm =>
    have hO : O' = dropSlot O o.dst := not_call ht rfl
    subst hO
    simp only [evOp] at hv
    cases hv
    cases ho : o.op <;> simp only [chkM, ho] at hc <;> try (cases hc; done)
    rename_i t rs
    cases rs with
    | some _ => simp at hc
    | none =>
      refine mem_plain st hd fun ρ1 m => ?_
      obtain ⟨m1, f1⟩ := m.push_ob (.map #[] 0) rfl [] (.mp _ _ _ (.nil 0) rfl)
      exact ⟨_, _, _, _, ρ1, by simp only [execOp, ho]; exact run_val' (mkm_run (P := P) (w := w)), .inl rfl, .mp h.length w.heap.size (by simp [Gh.addOb]), m1, f1, fun _ _ => rfl⟩
  | look q x k z ok =>
    have hO : O' = dropSlot O o.dst := not_call ht rfl
    subst hO
    simp only [evOp] at hv
    obtain ⟨x', h1, h2⟩ := pair_bind hv
    obtain ⟨k', h3, h4⟩ := pair_bind h2
    obtain ⟨v', h5, h6⟩ := pair_bind h4
    cases h6
    cases ho : o.op <;> simp only [chkM, ho] at hc <;> try (cases hc; done)
    rename_i t m' k2 ok'
    simp only [Bool.and_eq_true, beq_iff_eq] at hc
    obtain ⟨⟨⟨c1, c2⟩, rfl⟩, c3⟩ := hc
    cases hcm : chkMap P q t with
    | none => simp [hcm] at c3
    | some et =>
      rw [hcm] at c3
      refine mem_plain st hd fun ρ1 m => ?_
      obtain ⟨u, r1, r2⟩ := look_run (P := P) m hcm c3 (A_rel st.env c1 h1) (A_rel st.env c2 h3) h5
      exact ⟨_, u, w, G, ρ1, by simp only [execOp, ho]; exact run_val' r1, .inl rfl, r2, m, .refl _ _ _, fun _ _ => rfl⟩
  | mset q x k y =>
    have hO : O' = dropSlot O o.dst := not_call ht rfl
    subst hO
    simp only [evOp] at hv
    obtain ⟨x', h1, h2⟩ := pair_bind hv
    obtain ⟨k', h3, h4⟩ := pair_bind h2
    obtain ⟨y', h5, h6⟩ := pair_bind h4
    obtain ⟨hh, h7, h8⟩ := pair_bind h6
    cases h8
    cases ho : o.op <;> simp only [chkM, ho] at hc <;> try (cases hc; done)
    all_goals
      simp only [Bool.and_eq_true] at hc
      obtain ⟨⟨⟨c1, c2⟩, c3⟩, c4⟩ := hc
      obtain ⟨et, hcm⟩ := Option.isSome_iff_exists.1 c4
      refine mem_plain st hd fun ρ1 m => ?_
      obtain ⟨w', r1, m1, f1⟩ := mset_run (P := P) m hcm (A_rel st.env c1 h1) (A_rel st.env c2 h3) (A_rel st.env c3 h5) h7
      exact ⟨.skip, undef, w', G, ρ1, by simp only [execOp, ho]; exact run_skip r1, .inr ⟨rfl, rfl⟩, .tup #[] [] rfl (by simp), m1, f1, fun _ _ => rfl⟩
  | ent x =>
    have hO : O' = dropSlot O o.dst := not_call ht rfl
    subst hO
    simp only [evOp] at hv
    obtain ⟨x', h1, h2⟩ := pair_bind hv
    obtain ⟨v', h3, h4⟩ := pair_bind h2
    cases h4
    cases ho : o.op <;> simp only [chkM, ho] at hc <;> try (cases hc; done)
    refine mem_plain st hd fun ρ1 m => ?_
    obtain ⟨u, r1, r2⟩ := ent_run (P := P) m (A_rel st.env hc h1) h3
    exact ⟨_, u, w, G, ρ1, by simp only [execOp, ho]; exact run_val' r1, .inl rfl, r2, m, .refl _ _ _, fun _ _ => rfl⟩
  | mlen x =>
    have hO : O' = dropSlot O o.dst := not_call ht rfl
    subst hO
    simp only [evOp] at hv
    obtain ⟨x', h1, h2⟩ := pair_bind hv
    obtain ⟨v', h3, h4⟩ := pair_bind h2
    cases h4
    cases ho : o.op <;> simp only [chkM, ho] at hc <;> try (cases hc; done)
    rename_i c
    obtain ⟨callee, args, ats⟩ := c
    cases callee with
    | builtin b =>
      cases b <;> simp only at hc <;> try (cases hc; done)
      simp only [Bool.and_eq_true] at hc
      obtain ⟨c1, c2⟩ := hc
      cases hal : args.toList with
      | nil => simp [hal, chkAs] at c1
      | cons ux r =>
        cases r with
        | cons z r => simp [hal, chkAs] at c1
        | nil =>
          simp [hal, chkAs] at c1
          have hargs : args = #[ux] := by apply Array.ext'; simpa using hal
          subst hargs
          refine mem_plain st hd fun ρ1 m => ?_
          obtain ⟨u, r1, r2⟩ := mlen_run (P := P) (ty := o.type) m c2 (A_rel st.env c1 h1) h3
          exact ⟨_, u, w, G, ρ1, by simp only [execOp, ho, resolve, pure_bind, invoke, builtin]; exact run_val' (by simpa using r1), .inl rfl, r2, m, .refl _ _ _, fun _ _ => rfl⟩
    | _ => cases hc
  | mdel q x k =>
    have hO : O' = dropSlot O o.dst := not_call ht rfl
    subst hO
    simp only [evOp] at hv
    obtain ⟨x', h1, h2⟩ := pair_bind hv
    obtain ⟨k', h3, h4⟩ := pair_bind h2
    obtain ⟨hh, h5, h6⟩ := pair_bind h4
    cases h6
    cases ho : o.op <;> simp only [chkM, ho] at hc <;> try (cases hc; done)
    rename_i c
    obtain ⟨callee, args, ats⟩ := c
    cases callee with
    | builtin b =>
      cases b <;> simp only at hc <;> try (cases hc; done)
      simp only [Bool.and_eq_true] at hc
      obtain ⟨c1, c2⟩ := hc
      cases hal : args.toList with
      | nil => simp [hal, chkAs] at c1
      | cons ux r =>
        cases r with
        | nil => simp [hal, chkAs] at c1
        | cons uk r =>
          cases r with
          | cons z r => simp [hal, chkAs] at c1
          | nil =>
            simp [hal, chkAs] at c1
            have hargs : args = #[ux, uk] := by apply Array.ext'; simpa using hal
            subst hargs
            cases hat : ats.toList with
            | nil => simp [hat] at c2
            | cons t r =>
              cases r with
              | nil => simp [hat] at c2
              | cons kt' r =>
                cases r with
                | cons z r => simp [hat] at c2
                | nil =>
                  have hats : ats = #[t, kt'] := by apply Array.ext'; simpa using hat
                  subst hats
                  simp only at c2
                  obtain ⟨et, hcm⟩ := Option.isSome_iff_exists.1 c2
                  refine mem_plain st hd fun ρ1 m => ?_
                  obtain ⟨w', r1, m1, f1⟩ := mdel_run (P := P) (ty := o.type) (kt' := kt') m hcm (A_rel st.env c1.1 h1) (A_rel st.env c1.2 h3) h5
                  exact ⟨_, .tuple #[], w', G, ρ1, by simp only [execOp, ho, resolve, pure_bind, invoke, builtin]; exact run_val' (by simpa using r1), .inl rfl, .tup #[] [] rfl (by simp), m1, f1, fun _ _ => rfl⟩
    | _ => cases hc
  | lit x =>
    have hO : O' = dropSlot O o.dst := not_call ht rfl
    subst hO
    simp only [evOp] at hv
    obtain ⟨x', h1, h2⟩ := pair_bind hv
    cases ho : o.op <;> simp only [chkM, ho] at hc <;> try (cases hc; done)
    rename_i s d y
    simp only [Bool.and_eq_true, beq_iff_eq] at hc
    refine mem_plain st hd fun ρ1 m => ?_
    obtain ⟨u, w', G', ρ', r1, m1, f1, r2, k1⟩ := lit_run (P := P) m hc.1.2 hc.2 (A_rel st.env hc.1.1 h1) h2
    exact ⟨_, u, w', G', ρ', by simp only [execOp, ho]; exact run_val' r1, .inl rfl, r2, m1, f1, k1⟩
  | app s bytes x y =>
    simp only [evOp] at hv
    obtain ⟨x', h1, h2⟩ := pair_bind hv
    obtain ⟨y', h3, h4⟩ := pair_bind h2
    cases ho : o.op <;> simp only [chkM, ho] at hc <;> try (cases hc; done)
    rename_i c
    obtain ⟨callee, args, ats⟩ := c
    cases callee with
    | builtin b =>
      cases b <;> simp only at hc <;> try (cases hc; done)
      simp only [Bool.and_eq_true] at hc
      obtain ⟨c1, c2⟩ := hc
      cases hal : args.toList with
      | nil => simp [hal, chkAs] at c1
      | cons ux r =>
        cases r with
        | nil => simp [hal, chkAs] at c1
        | cons uy r =>
          cases r with
          | cons z r => simp [hal, chkAs] at c1
          | nil =>
            simp [hal, chkAs] at c1
            have hargs : args = #[ux, uy] := by apply Array.ext'; simpa using hal
            subst hargs
            have rx := A_rel st.env c1.1 h1
            have ry := A_rel st.env c1.2 h3
            have fin : ∀ {u : Value} {w' : World}, (Builtin.append_ ats o.type #[a.eval ux, a.eval uy]).run P w = .ok u w' → (execOp a.eval o).run P w = .ok (.value u) w' := fun hrun => by
              simp only [execOp, ho, resolve, pure_bind, invoke, builtin]; exact run_val' (by simpa using hrun)
            -- by a slot that owns
            have slot : ∀ s0, x = .t s0 → (s0, 0) ∈ O → o.dst ≠ some s0 → gain1 ((dropSlot O o.dst).filter fun k => k != (s0, 0)) o.dst = some O' → Stepped P G ρ e O' a w o v h' := by
              intro s0 hx hin hne hg
              have hown := base_own st c1.1 hx h1 hin
              refine mem_gain_from st hd s0 0 hin hne hg fun ρ1 d m hk1 hk2 hne2 => ?_
              obtain ⟨v', h5, h6⟩ := pair_bind h4
              cases h6
              obtain ⟨u, w', G', ρ', k1, k2, k3, k4, k5, k6, k7⟩ := appP_sound (P := P) (ty := o.type) m c2 rx ry h5 (s0, 0) (by rw [hk2]; exact hown) (d, 0) (.inl hk1)
              exact ⟨u, w', G', ρ', fin k1, k4, k2, k3, fun s c n1 n2 => k6 _ (by simpa using n1) (by simpa using n2), k7 (fun e => hne2 e.symm), k5⟩
            have nil : nilSl x = true → gain1 (dropSlot O o.dst) o.dst = some O' → Stepped P G ρ e O' a w o v h' := by
              intro hn hg
              obtain ⟨⟨s1, hs1⟩, hu⟩ := nil_own (a := a) c1.1 hn h1
              refine mem_gain_new st hd hg fun ρ1 d m hk => ?_
              have hown : OwnVal (a.eval ux) x' (ρ1 (.key d 0)) := by rw [hu, hs1, hk]; exact rfl
              obtain ⟨v', h5, h6⟩ := pair_bind h4
              cases h6
              obtain ⟨u, w', G', ρ', k1, k2, k3, k4, k5, k6, k7⟩ := appP_sound (P := P) (ty := o.type) m c2 rx ry h5 (d, 0) hown (d, 0) (.inr rfl)
              exact ⟨u, w', G', ρ', fin k1, k4, k2, k3, fun s c n1 => k6 _ (by simpa using n1) (by simpa using n1), k5⟩
            simp only [tokOp] at ht
            cases x with
            | t s0 =>
              simp only at ht
              split at ht
              · rename_i hcond
                exact slot s0 rfl (by simpa using hcond.1) hcond.2 ht
              · cases ht
            | c z =>
              simp only at ht
              split at ht
              · rename_i hn; exact nil hn ht
              · cases ht
            | g z => simp [nilSl] at ht
    | _ => cases hc
  | apph s bytes x y =>
    have hO : O' = dropSlot O o.dst := not_call ht rfl
    subst hO
    simp only [evOp] at hv
    obtain ⟨x', h1, h2⟩ := pair_bind hv
    obtain ⟨y', h3, h4⟩ := pair_bind h2
    cases ho : o.op <;> simp only [chkM, ho] at hc <;> try (cases hc; done)
    rename_i c
    obtain ⟨callee, args, ats⟩ := c
    cases callee with
    | builtin b =>
      cases b <;> simp only at hc <;> try (cases hc; done)
      simp only [Bool.and_eq_true] at hc
      obtain ⟨c1, c2⟩ := hc
      cases hal : args.toList with
      | nil => simp [hal, chkAs] at c1
      | cons ux r =>
        cases r with
        | nil => simp [hal, chkAs] at c1
        | cons uy r =>
          cases r with
          | cons z r => simp [hal, chkAs] at c1
          | nil =>
            simp [hal, chkAs] at c1
            have hargs : args = #[ux, uy] := by apply Array.ext'; simpa using hal
            subst hargs
            refine mem_plain st hd fun ρ1 m => ?_
            obtain ⟨u, w', G', ρ', r1, m1, f1, r2, k1⟩ := appH_sound (P := P) (ty := o.type) m c2 (A_rel st.env c1.1 h1) (A_rel st.env c1.2 h3) h4
            exact ⟨_, u, w', G', ρ', by simp only [execOp, ho, resolve, pure_bind, invoke, builtin]; exact run_val' (by simpa using r1), .inl rfl, r2, m1, f1, k1⟩
    | _ => cases hc
  | appz s bytes z x y =>
    have hO : O' = dropSlot O o.dst := not_call ht rfl
    subst hO
    simp only [evOp] at hv
    obtain ⟨x', h1, h2⟩ := pair_bind hv
    obtain ⟨y', h3, h4⟩ := pair_bind h2
    cases ho : o.op <;> simp only [chkM, ho] at hc <;> try (cases hc; done)
    rename_i c
    obtain ⟨callee, args, ats⟩ := c
    cases callee with
    | builtin b =>
      cases b <;> simp only at hc <;> try (cases hc; done)
      simp only [Bool.and_eq_true] at hc
      obtain ⟨c1, c2⟩ := hc
      cases hal : args.toList with
      | nil => simp [hal, chkAs] at c1
      | cons ux r =>
        cases r with
        | nil => simp [hal, chkAs] at c1
        | cons uy r =>
          cases r with
          | cons zz r => simp [hal, chkAs] at c1
          | nil =>
            simp [hal, chkAs] at c1
            have hargs : args = #[ux, uy] := by apply Array.ext'; simpa using hal
            subst hargs
            refine mem_plain st hd fun ρ1 m => ?_
            obtain ⟨u, w', G', ρ', r1, m1, f1, r2, k1⟩ := appz_run (P := P) (ty := o.type) m c2 (A_rel st.env c1.1 h1) (A_rel st.env c1.2 h3) h4
            exact ⟨_, u, w', G', ρ', by simp only [execOp, ho, resolve, pure_bind, invoke, builtin]; exact run_val' (by simpa using r1), .inl rfl, r2, m1, f1, k1⟩
    | _ => cases hc
  | capv x =>
    have hO : O' = dropSlot O o.dst := not_call ht rfl
    subst hO
    simp only [evOp] at hv
    obtain ⟨x', h1, h2⟩ := pair_bind hv
    obtain ⟨v', h3, h4⟩ := pair_bind h2
    cases h4
    cases ho : o.op <;> simp only [chkM, ho] at hc <;> try (cases hc; done)
    rename_i c
    obtain ⟨callee, args, ats⟩ := c
    cases callee with
    | builtin b =>
      cases b <;> simp only at hc <;> try (cases hc; done)
      simp only [Bool.and_eq_true] at hc
      obtain ⟨c1, c2⟩ := hc
      cases hal : args.toList with
      | nil => simp [hal, chkAs] at c1
      | cons ux r =>
        cases r with
        | cons z r => simp [hal, chkAs] at c1
        | nil =>
          simp [hal, chkAs] at c1
          have hargs : args = #[ux] := by apply Array.ext'; simpa using hal
          subst hargs
          refine mem_plain st hd fun ρ1 m => ?_
          obtain ⟨u, r1, r2⟩ := cap_run (P := P) (w := w) (ty := o.type) c2 (A_rel st.env c1 h1) h3
          exact ⟨_, u, w, G, ρ1, by simp only [execOp, ho, resolve, pure_bind, invoke, builtin]; exact run_val' (by simpa using r1), .inl rfl, r2, m, .refl _ _ _, fun _ _ => rfl⟩
    | _ => cases hc
  | ovl s x y =>
    have hO : O' = dropSlot O o.dst := not_call ht rfl
    subst hO
    simp only [evOp] at hv
    obtain ⟨x', h1, h2⟩ := pair_bind hv
    obtain ⟨y', h3, h4⟩ := pair_bind h2
    obtain ⟨v', h5, h6⟩ := pair_bind h4
    cases h6
    cases ho : o.op <;> simp only [chkM, ho] at hc <;> try (cases hc; done)
    rename_i c
    obtain ⟨callee, args, ats⟩ := c
    cases callee with
    | value f =>
      cases f <;> simp only at hc <;> try (cases hc; done)
      rename_i g
      simp only [Bool.and_eq_true] at hc
      obtain ⟨c1, c2⟩ := hc
      cases hal : args.toList with
      | nil => simp [hal, chkAs] at c1
      | cons ux r =>
        cases r with
        | nil => simp [hal, chkAs] at c1
        | cons uy r =>
          cases r with
          | cons z r => simp [hal, chkAs] at c1
          | nil =>
            simp [hal, chkAs] at c1
            have hargs : args = #[ux, uy] := by apply Array.ext'; simpa using hal
            subst hargs
            refine mem_plain st hd fun ρ1 m => ?_
            obtain ⟨r1, rfl⟩ := ovl_run (P := P) m c2 (A_rel st.env c1.1 h1) (A_rel st.env c1.2 h3) h5
            exact ⟨_, .bool false, w, G, ρ1, by simp only [execOp, ho, resolve, Act.eval, Deferred.ofValue, pure_bind, invoke]; simpa using r1, .inl rfl, .bool _, m, .refl _ _ _, fun _ _ => rfl⟩
    | _ => cases hc
  | _ => simp [chkM] at hc

def chkOp (P : Program) (ao : AOp) (o : Op) : Bool := chkQ P ao o || chkM P ao o

/-- An operation that calls nothing is a step of the state. -/
theorem step_op (C : Callee) (sig : Sig) {ao : AOp} (st : St G ρ e h O a.tmps w) (hc : chkOp P ao o.op = true) (hd : ∀ s, o.dst = some s → s < a.tmps.size) (ht : tokOp sig ao o.dst O = some O') (hv : evOp C ao e h = some (v, h')) :
    Stepped P G ρ e O' a w o v h' := by
  simp only [chkOp, Bool.or_eq_true] at hc
  rcases hc with hc | hc
  · by_cases hn : ao.plainTok = true
    · rw [not_call ht hn]
      exact quiet_plain C st hc hd hv
    · cases ao <;> simp [AOp.plainTok] at hn <;> try (simp [chkQ] at hc; done)
      · exact step_mv C sig st hc hd ht hv
      · rename_i k x
        cases k with
        | sb =>
          cases ho : o.op <;> simp [chkQ, ho, chkConv] at hc
        | _ => simp only [tokOp] at ht; cases ht; exact quiet_plain C st hc hd hv
      · rename_i k x lo hi mx tk
        cases tk with
        | false => simp at hn
        | true => exact step_sl C sig st hc hd ht hv
      · exact step_ext C sig st hc hd ht hv
  · exact step_mem C sig st hc hd ht hv
end
end Ev

/-! Ev, part V: calls: what a called function may touch, and what stays. -/
namespace Ev
open Go

section
variable {P : Program} {G G' : Gh} {ρ ρc ρc' : Rho} {h h' : Heap} {w w' : World}

/-- What the caller keeps for itself is as it was. -/
theorem frame_addr (m : Mem G h ρ w) (π : Ow → Ow) (hπ : ∀ x R, ρc x = some R → ρ (π x) = some R) {G0 : Gh} (f : Fr G0 ρc w G' ρc' w') {x : Ow} {r lo hi : Nat} (hx : ρ x = some (r, lo, hi)) (hno : ∀ y, ρc y ≠ none → π y ≠ x) (hst : ∀ o, lo ≤ o → o < hi → G0.st r o = none)
    {o : Nat} (h1 : lo ≤ o) (h2 : o < hi) :
    ¬ Owned ρc r o ∧ (w'.cell? ⟨r, o, none⟩ = w.cell? ⟨r, o, none⟩ ∧ w'.fz ⟨r, o, none⟩ = w.fz ⟨r, o, none⟩) ∧ G'.st r o = none ∧ ¬ Owned ρc' r o := by
  have hlt := own_lt m hx h1 h2
  have hn : ¬ Owned ρc r o := by
    rintro ⟨y, l, j, hy, a, b⟩
    exact m.dis x (π y) r lo hi l j (fun e => hno y (by rw [hy]; simp) e.symm) hx (hπ y _ hy) o h1 h2 a b
  refine ⟨hn, f.cell r o hlt hn, ?_, fun k => (f.own r o k).elim hn (fun c => by omega)⟩
  cases hs : G'.st r o with
  | none => rfl
  | some v =>
    rcases f.st r o (by rw [hs]; simp) with c | c | c
    · exact absurd (hst o h1 h2) c
    · exact absurd c hn
    · omega

/-- Behind a call that shares the abstract heap. -/
theorem call_frame (m : Mem G h ρ w) (π : Ow → Ow) (hπ : ∀ x R, ρc x = some R → ρ (π x) = some R) (f : Fr G ρc w G' ρc' w') (m' : Mem G' h' ρc' w') (ρ2 : Rho) (σ : Ow → Ow)
    (h2 : ∀ x R, ρ2 x = some R → (ρ x = some R ∧ (∀ y, ρc y ≠ none → π y ≠ x) ∧ ∀ b, x ≠ .blk b) ∨ ρc' (σ x) = some R)
    (hσ : ∀ x y, ρ2 x ≠ none → ρ2 y ≠ none → ¬ (ρ x = ρ2 x ∧ (∀ z, ρc z ≠ none → π z ≠ x) ∧ ∀ b, x ≠ .blk b) → ¬ (ρ y = ρ2 y ∧ (∀ z, ρc z ≠ none → π z ≠ y) ∧ ∀ b, y ≠ .blk b) → σ x = σ y → x = y)
    (hb : ∀ b, ρ2 (.blk b) = ρc' (.blk b)) :
    Mem G' h' ρ2 w' ∧ Fr G ρ w G' ρ2 w' := by
  have hsub : ∀ r o, Owned ρc r o → Owned ρ r o := fun r o ⟨x, l, j, hx, a, b⟩ => ⟨π x, l, j, hπ x _ hx, a, b⟩
  have fa : ∀ {x r lo hi}, ρ x = some (r, lo, hi) → (∀ y, ρc y ≠ none → π y ≠ x) → ∀ {o}, lo ≤ o → o < hi → _ := fun {x r lo hi} hx hno {o} a b =>
    frame_addr m π hπ f hx hno (fun o a b => (m.own x r lo hi hx o a b).2.2) a b
  refine ⟨⟨m'.st, ?_, m'.lt, ?_, ?_, ?_, m'.obs⟩, ⟨f.le, f.size, f.os, f.tape, f.output, ?_, ?_, ?_, ?_, f.obn⟩⟩
  · intro b cs hbc hob
    obtain ⟨r, lo, hi, k1, k2, k3⟩ := m'.blk b cs hbc hob
    exact ⟨r, lo, hi, k1, by rw [hb]; exact k2, k3⟩
  · intro x r lo hi hx o a b
    rcases h2 x _ hx with ⟨q1, q2, _⟩ | q
    · obtain ⟨_, ⟨k1, k2⟩, k3, _⟩ := fa q1 q2 a b
      obtain ⟨p1, p2, _⟩ := m.own x r lo hi q1 o a b
      exact ⟨by rw [k1]; exact p1, by rw [k2]; exact p2, k3⟩
    · exact m'.own _ r lo hi q o a b
  · intro x y r lo hi lo' hi' hne hx hy o a1 a2 a3 a4
    by_cases cx : ρ x = ρ2 x ∧ (∀ z, ρc z ≠ none → π z ≠ x) ∧ ∀ b, x ≠ .blk b
    · have qx : ρ x = some (r, lo, hi) := by rw [cx.1]; exact hx
      by_cases cy : ρ y = ρ2 y ∧ (∀ z, ρc z ≠ none → π z ≠ y) ∧ ∀ b, y ≠ .blk b
      · exact m.dis x y r lo hi lo' hi' hne qx (by rw [cy.1]; exact hy) o a1 a2 a3 a4
      · rcases h2 y _ hy with ⟨q1, q2, q3⟩ | q
        · exact cy ⟨q1.trans hy.symm, q2, q3⟩
        · exact (fa qx cx.2.1 a1 a2).2.2.2 ⟨_, lo', hi', q, a3, a4⟩
    · rcases h2 x _ hx with ⟨q1, q2, q3⟩ | qx
      · exact cx ⟨q1.trans hx.symm, q2, q3⟩
      · by_cases cy : ρ y = ρ2 y ∧ (∀ z, ρc z ≠ none → π z ≠ y) ∧ ∀ b, y ≠ .blk b
        · exact (fa (by rw [cy.1]; exact hy) cy.2.1 a3 a4).2.2.2 ⟨_, lo, hi, qx, a1, a2⟩
        · rcases h2 y _ hy with ⟨q1, q2, q3⟩ | qy
          · exact cy ⟨q1.trans hy.symm, q2, q3⟩
          · exact m'.dis _ _ r lo hi lo' hi' (fun e => hne (hσ x y (by rw [hx]; simp) (by rw [hy]; simp) cx cy e)) qx qy o a1 a2 a3 a4
  · intro b hbn
    exact m'.ob b (by rw [← hb]; exact hbn)
  · intro r o hr ho
    exact f.cell r o hr fun k => ho (hsub r o k)
  · intro r hr ho hob
    exact f.block r hr (fun o k => ho o (hsub r o k)) hob
  · rintro r o ⟨x, lo, hi, hx, a, b⟩
    rcases h2 x _ hx with ⟨q1, _⟩ | q
    · exact .inl ⟨x, lo, hi, q1, a, b⟩
    · exact (f.own r o ⟨_, lo, hi, q, a, b⟩).imp (hsub r o) id
  · intro r o hs
    rcases f.st r o hs with c | c | c
    · exact .inl c
    · exact .inr (.inl (hsub r o c))
    · exact .inr (.inr c)

/-- Behind a call that sees nothing of the abstract heap: its own is dropped, ours is as it was. -/
theorem iso_frame (m : Mem G h ρ w) (π : Ow → Ow) (hπ : ∀ x R, ρc x = some R → ρ (π x) = some R) (hπb : ∀ y, ρc y ≠ none → ∀ b, π y ≠ .blk b) {G0 : Gh} (h0 : ∀ r o v, G.st r o = some v → G0.st r o = some v)
    (h0n : ∀ r o, G0.st r o ≠ none → G.st r o ≠ none ∨ ∃ b lo hi, ρ (.blk b) = some (r, lo, hi) ∧ lo ≤ o ∧ o < hi) (f : Fr G0 ρc w G' ρc' w') {hc : Heap} (m' : Mem G' hc ρc' w') (G2 : Gh) (hreg : G2.reg = G.reg) (hob : G2.ob = G.ob) (h0o : ∀ b, G0.ob b = none)
    (hst2 : ∀ r o v, G.st r o = some v → G2.st r o = some v) (hst3 : ∀ r o v, G2.st r o = some v → G'.st r o = some v ∧ (G.st r o ≠ none ∨ ∀ x lo hi, (∀ y, ρc y ≠ none → π y ≠ x) → ρ x = some (r, lo, hi) → lo ≤ o → o < hi → False)) (ρ2 : Rho) (σ : Ow → Ow)
    (h2 : ∀ x R, ρ2 x = some R → (ρ x = some R ∧ (∀ y, ρc y ≠ none → π y ≠ x)) ∨ ((∀ b, x ≠ .blk b) ∧ (∃ s c, σ x = .key s c) ∧ ρc' (σ x) = some R ∧ ∀ r lo hi, R = (r, lo, hi) → ∀ o, lo ≤ o → o < hi → G2.st r o = none))
    (hσ : ∀ x y, ρ2 x ≠ none → ρ2 y ≠ none → ¬ (ρ x = ρ2 x ∧ (∀ z, ρc z ≠ none → π z ≠ x)) → ¬ (ρ y = ρ2 y ∧ (∀ z, ρc z ≠ none → π z ≠ y)) → σ x = σ y → x = y)
    (hb : ∀ b, ρ2 (.blk b) = ρ (.blk b)) (hst4 : ∀ x r lo hi, ρ x = some (r, lo, hi) → (∀ y, ρc y ≠ none → π y ≠ x) → ∀ o, lo ≤ o → o < hi → G2.st r o = none) :
    Mem G2 h ρ2 w' ∧ Fr G ρ w G2 ρ2 w' := by
  have hsub : ∀ r o, Owned ρc r o → Owned ρ r o := fun r o ⟨x, l, j, hx, a, b⟩ => ⟨π x, l, j, hπ x _ hx, a, b⟩
  have hle : G.le G2 := ⟨hst2, fun b x k => by rw [hreg]; exact k, fun b x k => by rw [hob]; exact k⟩
  have fa : ∀ {x r lo hi}, ρ x = some (r, lo, hi) → (∀ y, ρc y ≠ none → π y ≠ x) → ∀ {o}, lo ≤ o → o < hi →
      ¬ Owned ρc r o ∧ (w'.cell? ⟨r, o, none⟩ = w.cell? ⟨r, o, none⟩ ∧ w'.fz ⟨r, o, none⟩ = w.fz ⟨r, o, none⟩) ∧ ¬ Owned ρc' r o := fun {x r lo hi} hx hno {o} a b => by
    have hlt := own_lt m hx a b
    have hn : ¬ Owned ρc r o := by
      rintro ⟨y, l, j, hy, c, d⟩
      exact m.dis x (π y) r lo hi l j (fun e => hno y (by rw [hy]; simp) e.symm) hx (hπ y _ hy) o a b c d
    exact ⟨hn, f.cell r o hlt hn, fun k => (f.own r o k).elim hn (fun c => by omega)⟩
  have hobs : ObsOk G2 h w' := m.obs.keep (fun b => by rw [hob]) (fun b r hb => by rw [hreg]; exact (m.obs b r hb).2.1) hle (Nat.le_refl _) (fun r o hr n => by
    have hlt : r < w.heap.size := by
      rcases Nat.lt_or_ge r w.heap.size with c | c
      · exact c
      · rw [Array.getElem?_eq_none c] at hr; cases hr
    rw [f.block r hlt (fun q k => by
      obtain ⟨x, l, j, hx, a, b⟩ := hsub r q k
      have k1 := (m.own x r l j hx q a b).1
      unfold World.cell? at k1
      simp only [hr] at k1
      cases o <;> simp [noCells] at n k1) (fun b hb => by rw [h0o] at hb; cases hb)]
    exact hr) (fun _ _ _ _ h => h)
  refine ⟨⟨?_, ?_, ?_, ?_, ?_, ?_, hobs⟩, ⟨hle, f.size, f.os, f.tape, f.output, ?_, ?_, ?_, ?_, fun b r k => .inl (by rw [← hob]; exact k)⟩⟩
  · intro r o v hv
    exact m'.st r o v (hst3 r o v hv).1
  · intro b cs hbc hob'
    obtain ⟨r, lo, hi, k1, k2, k3, k4⟩ := m.blk b cs hbc (by rw [← hob]; exact hob')
    refine ⟨r, lo, hi, by rw [hreg]; exact k1, by rw [hb]; exact k2, k3, fun j hj => ?_⟩
    obtain ⟨v, k5, k6, k7⟩ := k4 j hj
    refine ⟨v, ?_, k6.mono hle, k7⟩
    rw [(fa k2 (fun y hy => hπb y hy b) (o := lo + j) (by omega) (by omega)).2.1.1]
    exact k5
  · intro b x hb'
    exact m.lt b x (by rw [← hreg]; exact hb')
  · intro x r lo hi hx o a b
    rcases h2 x _ hx with ⟨q1, q2⟩ | ⟨_, _, q, q3⟩
    · obtain ⟨_, ⟨k1, k2⟩, _⟩ := fa q1 q2 a b
      obtain ⟨p1, p2, _⟩ := m.own x r lo hi q1 o a b
      exact ⟨by rw [k1]; exact p1, by rw [k2]; exact p2, hst4 x r lo hi q1 q2 o a b⟩
    · obtain ⟨p1, p2, _⟩ := m'.own _ r lo hi q o a b
      exact ⟨p1, p2, q3 r lo hi rfl o a b⟩
  · intro x y r lo hi lo' hi' hne hx hy o a1 a2 a3 a4
    by_cases cx : ρ x = ρ2 x ∧ (∀ z, ρc z ≠ none → π z ≠ x)
    · have qx : ρ x = some (r, lo, hi) := by rw [cx.1]; exact hx
      by_cases cy : ρ y = ρ2 y ∧ (∀ z, ρc z ≠ none → π z ≠ y)
      · exact m.dis x y r lo hi lo' hi' hne qx (by rw [cy.1]; exact hy) o a1 a2 a3 a4
      · rcases h2 y _ hy with ⟨q1, q2⟩ | ⟨_, _, q, _⟩
        · exact cy ⟨q1.trans hy.symm, q2⟩
        · exact (fa qx cx.2 a1 a2).2.2 ⟨_, lo', hi', q, a3, a4⟩
    · rcases h2 x _ hx with ⟨q1, q2⟩ | ⟨_, _, qx, _⟩
      · exact cx ⟨q1.trans hx.symm, q2⟩
      · by_cases cy : ρ y = ρ2 y ∧ (∀ z, ρc z ≠ none → π z ≠ y)
        · exact (fa (by rw [cy.1]; exact hy) cy.2 a3 a4).2.2 ⟨_, lo, hi, qx, a1, a2⟩
        · rcases h2 y _ hy with ⟨q1, q2⟩ | ⟨_, _, qy, _⟩
          · exact cy ⟨q1.trans hy.symm, q2⟩
          · exact m'.dis _ _ r lo hi lo' hi' (fun e => hne (hσ x y (by rw [hx]; simp) (by rw [hy]; simp) cx cy e)) qx qy o a1 a2 a3 a4
  · intro b hbn
    exact m.ob b (by rw [← hb]; exact hbn)
  · intro r o hr ho
    exact f.cell r o hr fun k => ho (hsub r o k)
  · intro r hr ho _
    exact f.block r hr (fun o k => ho o (hsub r o k)) (fun b hb => by rw [h0o] at hb; cases hb)
  · rintro r o ⟨x, lo, hi, hx, a, b⟩
    rcases h2 x _ hx with ⟨q1, _⟩ | ⟨_, _, q, _⟩
    · exact .inl ⟨x, lo, hi, q1, a, b⟩
    · exact (f.own r o ⟨_, lo, hi, q, a, b⟩).imp (hsub r o) id
  · intro r o hs
    cases hq : G2.st r o with
    | none => exact absurd hq hs
    | some v =>
      obtain ⟨k1, _⟩ := hst3 r o v hq
      rcases f.st r o (by rw [k1]; simp) with c | c | c
      · rcases h0n r o c with c | ⟨b, lo, hi, c, a1, a2⟩
        · exact .inl c
        · exact .inr (.inl ⟨_, lo, hi, c, a1, a2⟩)
      · exact .inr (.inl (hsub r o c))
      · exact .inr (.inr c)
end
end Ev

/-! Ev, part W: a call is a step of the state. -/
namespace Ev
open Go

/-- What a called function is known to do. -/
def CallsOk (P : Program) (T : Table) (C : Callee) : Prop :=
  (∀ f, C.free f = true → ∃ af, T f = some af ∧ af.ownP = []) ∧
  ∀ f vs h v h', C.call f vs h = some (v, h') → ∃ af, T f = some af ∧
    ∀ (G : Gh) (ρ : Rho) (w : World) (us : List Value), Rels G us vs → Mem G h ρ w → GlOk G →
      (∀ p, p ∈ af.ownP → ∃ u x, us[p]? = some u ∧ vs[p]? = some x ∧ OwnVal u x (ρ (.key p 0))) →
      (∀ s c, ρ (.key s c) ≠ none → c = 0 ∧ s ∈ af.ownP) →
      Calls P f us.toArray w fun en w' => ∃ u G' ρ', en = .returned u ∧ Rel G' u v ∧ Mem G' h' ρ' w' ∧ Fr G ρ w G' ρ' w' ∧
        (∀ c, c ∈ af.ownR → ∃ u' x, compR u c = some u' ∧ compV v c = some x ∧ OwnVal u' x (ρ' (.key 0 c))) ∧ (∀ s c, ρ' (.key s c) ≠ none → s = 0 ∧ c ∈ af.ownR)

/-- A function of the program that can be called. -/
def funcOk (P : Program) (f : Nat) : Bool :=
  match P.funcs[f]? with
  | some fn => fn.name != "runtime.NumGoroutine" && fn.body.isSome
  | none => false

theorem callFunc_run {P : Program} {w : World} {f : Nat} (hf : funcOk P f = true) (args : Array Value) : (callFunc f args).run P w = .ok (.enter f args) w := by
  unfold funcOk at hf
  cases hfn : P.funcs[f]? with
  | none => simp [hfn] at hf
  | some fn =>
    simp [hfn] at hf
    obtain ⟨h1, h2⟩ := hf
    cases hb : fn.body with
    | none => simp [hb] at h2
    | some c => simp [callFunc, hfn, h1, hb]

theorem giveUp_spec {d : Option Nat} {args : List A} : ∀ (ps : List Nat) (O O2 : Own), giveUp O d args ps = some O2 →
    (∀ k, k ∈ O2 → k ∈ O) ∧ (∀ p, p ∈ ps → (∃ s, args[p]? = some (.t s) ∧ (s, 0) ∈ O ∧ d ≠ some s ∧ (s, 0) ∉ O2) ∨ ∃ x, args[p]? = some x ∧ nilSl x = true) ∧
    (∀ p q s, p ∈ ps → q ∈ ps → args[p]? = some (.t s) → args[q]? = some (.t s) → p = q)
  | [], O, O2, h => by
    simp [giveUp] at h
    subst h
    exact ⟨fun _ k => k, by simp, by simp⟩
  | p :: ps, O, O2, h => by
    simp only [giveUp] at h
    split at h
    · rename_i s hs
      split at h
      case isFalse => cases h
      rename_i hcond
      obtain ⟨c1, c2⟩ := hcond
      have c1 : (s, 0) ∈ O := by simpa using c1
      obtain ⟨i1, i2, i3⟩ := giveUp_spec ps _ O2 h
      have hn : (s, 0) ∉ O2 := fun k => by
        have := (List.mem_filter.1 (i1 _ k)).2
        simp at this
      have hnq : ∀ q, q ∈ ps → args[q]? ≠ some (.t s) := fun q hq e => by
        rcases i2 q hq with ⟨s', e1, e2, _⟩ | ⟨x, e1, e2⟩
        · rw [e] at e1
          cases e1
          have := (List.mem_filter.1 e2).2
          simp at this
        · rw [e] at e1
          cases e1
          simp [nilSl] at e2
      refine ⟨fun k hk => (List.mem_filter.1 (i1 k hk)).1, fun q hq => ?_, fun q q' s' hq hq' e1 e2 => ?_⟩
      · rcases List.mem_cons.1 hq with rfl | hq
        · exact .inl ⟨s, hs, c1, c2, hn⟩
        · rcases i2 q hq with ⟨s', e1, e2, e3⟩ | k
          · exact .inl ⟨s', e1, (List.mem_filter.1 e2).1, e3⟩
          · exact .inr k
      · rcases List.mem_cons.1 hq with ea | ha
        · rcases List.mem_cons.1 hq' with eb | hb
          · exact ea.trans eb.symm
          · rw [ea, hs] at e1
            cases e1
            exact absurd e2 (hnq _ hb)
        · rcases List.mem_cons.1 hq' with eb | hb
          · rw [eb, hs] at e2
            cases e2
            exact absurd e1 (hnq _ ha)
          · exact i3 q q' s' ha hb e1 e2
    · rename_i x hs hx
      split at h
      case isFalse => cases h
      rename_i hnil
      obtain ⟨i1, i2, i3⟩ := giveUp_spec ps _ O2 h
      refine ⟨i1, fun q hq => ?_, fun q q' s' hq hq' e1 e2 => ?_⟩
      · rcases List.mem_cons.1 hq with rfl | hq
        · exact .inr ⟨x, hx, hnil⟩
        · exact i2 q hq
      · rcases List.mem_cons.1 hq with rfl | hq
        · rw [e1] at hx
          cases hx
          simp [nilSl] at hnil
        · rcases List.mem_cons.1 hq' with rfl | hq'
          · rw [e2] at hx
            cases hx
            simp [nilSl] at hnil
          · exact i3 q q' s' hq hq' e1 e2
    · cases h

/-- What the slots hand over to the called function. -/
def Rho.pass (ρ : Rho) (blks : Bool) (args : List A) (ps : List Nat) : Rho
  | .blk b => if blks then ρ (.blk b) else none
  | .key p c => if c = 0 ∧ p ∈ ps then (match args[p]? with | some (.t s) => ρ (.key s 0) | _ => none) else none
def passPi (args : List A) : Ow → Ow
  | .blk b => .blk b
  | .key p c => match args[p]? with | some (.t s) => .key s 0 | _ => .key p c

theorem pass_pi (ρ : Rho) (blks : Bool) (args : List A) (ps : List Nat) (x : Ow) (R : Reg) (h : (ρ.pass blks args ps) x = some R) : ρ (passPi args x) = some R := by
  cases x with
  | blk b =>
    simp only [Rho.pass] at h
    split at h
    · exact h
    · cases h
  | key p c =>
    simp only [Rho.pass] at h
    split at h
    · simp only [passPi]
      split at h
      · exact h
      · cases h
    · cases h

theorem pass_inj {ρ : Rho} {blks : Bool} {args : List A} {ps : List Nat} (hinj : ∀ p q s, p ∈ ps → q ∈ ps → args[p]? = some (.t s) → args[q]? = some (.t s) → p = q) {x y : Ow} (hx : (ρ.pass blks args ps) x ≠ none) (hy : (ρ.pass blks args ps) y ≠ none)
    (h : passPi args x = passPi args y) : x = y := by
  have key : ∀ p c, (ρ.pass blks args ps) (.key p c) ≠ none → c = 0 ∧ p ∈ ps ∧ ∃ s, args[p]? = some (.t s) := fun p c hp => by
    simp only [Rho.pass] at hp
    split at hp
    · rename_i hc
      split at hp
      · rename_i s hs; exact ⟨hc.1, hc.2, s, hs⟩
      · exact absurd rfl hp
    · exact absurd rfl hp
  cases x with
  | blk b =>
    cases y with
    | blk b' => simpa [passPi] using h
    | key p c => obtain ⟨_, _, s, hs⟩ := key p c hy; simp [passPi, hs] at h
  | key p c =>
    obtain ⟨rfl, hp, s, hs⟩ := key p c hx
    cases y with
    | blk b' => simp [passPi, hs] at h
    | key q c' =>
      obtain ⟨rfl, hq, s', hs'⟩ := key q c' hy
      simp [passPi, hs, hs'] at h
      subst h
      rw [hinj p q s hp hq hs hs']

/-- The callee's owners are as many as the caller's. -/
theorem Mem.pass {G : Gh} {h : Heap} {ρ : Rho} {w : World} (m : Mem G h ρ w) (args : List A) (ps : List Nat) (hinj : ∀ p q s, p ∈ ps → q ∈ ps → args[p]? = some (.t s) → args[q]? = some (.t s) → p = q) : Mem G h (ρ.pass true args ps) w where
  st := m.st
  blk := fun b cs hb hob => by
    obtain ⟨r, lo, hi, k1, k2, k3⟩ := m.blk b cs hb hob
    exact ⟨r, lo, hi, k1, by simpa [Rho.pass] using k2, k3⟩
  lt := m.lt
  own := fun x r lo hi hx => m.own _ r lo hi (pass_pi ρ true args ps x _ hx)
  dis := fun x y r lo hi lo' hi' hne hx hy => m.dis _ _ r lo hi lo' hi' (fun e => hne (pass_inj hinj (by rw [hx]; simp) (by rw [hy]; simp) e)) (pass_pi ρ true args ps x _ hx) (pass_pi ρ true args ps y _ hy)
  ob := fun b hb => m.ob b (by simpa [Rho.pass] using hb)
  obs := m.obs

/-- The callee without the abstract heap; what is lent is lasting for it. -/
noncomputable def Gh.iso (G : Gh) (ρ : Rho) (w : World) (lent : Bool) : Gh where
  st := fun r o => match G.st r o with
    | some v => some v
    | none => if lent then (open Classical in if (∃ b lo hi, ρ (.blk b) = some (r, lo, hi) ∧ lo ≤ o ∧ o < hi) then (match w.cell? ⟨r, o, none⟩ with | some v => if v.oneCell' then some v else none | none => none) else none) else none
  reg := fun _ => none

theorem Mem.iso {G : Gh} {h : Heap} {ρ : Rho} {w : World} (m : Mem G h ρ w) (args : List A) (ps : List Nat) (hinj : ∀ p q s, p ∈ ps → q ∈ ps → args[p]? = some (.t s) → args[q]? = some (.t s) → p = q) (lent : Bool) : Mem (G.iso ρ w lent) [] (ρ.pass false args ps) w where
  st := fun r o v hv => by
    simp only [Gh.iso] at hv
    split at hv
    · rename_i u hu
      cases hv
      exact m.st r o _ hu
    · split at hv
      · split at hv
        · split at hv
          · rename_i u hu
            split at hv
            · rename_i h1; cases hv; exact ⟨hu, h1⟩
            · cases hv
          · cases hv
        · cases hv
      · cases hv
  blk := fun b cs hb => by simp at hb
  lt := fun b x hb => by simp [Gh.iso] at hb
  own := fun x r lo hi hx o a b => by
    have hx' := pass_pi ρ false args ps x _ hx
    obtain ⟨k1, k2, k3⟩ := m.own _ r lo hi hx' o a b
    refine ⟨k1, k2, ?_⟩
    simp only [Gh.iso, k3]
    split
    · rw [if_neg]
      rintro ⟨b', lo', hi', e1, e2, e3⟩
      refine m.dis (passPi args x) (.blk b') r lo hi lo' hi' ?_ hx' e1 o a b e2 e3
      cases x with
      | blk c => simp [Rho.pass] at hx
      | key p c =>
        simp only [passPi]
        split <;> simp
    · rfl
  dis := fun x y r lo hi lo' hi' hne hx hy => m.dis _ _ r lo hi lo' hi' (fun e => hne (pass_inj hinj (by rw [hx]; simp) (by rw [hy]; simp) e)) (pass_pi ρ false args ps x _ hx) (pass_pi ρ false args ps y _ hy)
  ob := fun b hb => by simp [Rho.pass] at hb
  obs := fun b r hb => by cases hb

theorem hfs_get : ∀ (cs : List V), V.hfs cs = true → ∀ j (hj : j < cs.length), cs[j].hf = true
  | [], _, j, hj => by simp at hj
  | x :: cs, h, j, hj => by
    simp [V.hfs] at h
    cases j with
    | zero => exact h.1
    | succ j => exact hfs_get cs h.2 j (by simpa using hj)
theorem hfs_append : ∀ (a b : List V), V.hfs (a ++ b) = (V.hfs a && V.hfs b)
  | [], b => by simp [V.hfs]
  | x :: a, b => by simp [V.hfs, hfs_append a b, Bool.and_assoc]
theorem hfs_flat : ∀ (xs : List V), V.hfs xs = true → V.hfs (flat xs) = true
  | [], _ => rfl
  | x :: xs, h => by
    simp [V.hfs] at h
    have e : flat (x :: xs) = x.cells ++ flat xs := by simp [flat]
    rw [e, hfs_append, hfs_flat xs h.2, Bool.and_true]
    cases x <;> simp_all [V.cells, V.hfs, V.hf]

theorem rel_hf {G G' : Gh} (hG : ∀ r o v, G.st r o = some v → G'.st r o = some v) {u : Value} {x : V} (h : Rel G u x) : x.hf = true → Rel G' u x := by
  induction h with
  | bool b => exact fun _ => .bool b
  | int k n => exact fun _ => .int k n
  | str s l h => exact fun _ => .str s l h
  | nilp => exact fun _ => .nilp
  | ptr b off r lo hi h => exact fun hf => by simp [V.hf] at hf
  | rp r o cs u h k ih => exact fun hf => .rp r o cs u (fun j hj => hG _ _ _ (h j hj)) fun j hj => ih j hj (hfs_get cs (by simpa [V.hf] using hf) j hj)
  | ps0 s p => exact fun _ => .ps0 s p
  | ps r o n cap s xs u hn hc hs h k ih => exact fun hf => .ps r o n cap s xs u hn hc hs (fun j hj => hG _ _ _ (h j hj)) fun j hj => ih j hj (hfs_get _ (hfs_flat xs (by simpa [V.hf] using hf)) j hj)
  | hs s b off len cap r lo hi h hh hc => exact fun hf => by simp [V.hf] at hf
  | hc s b off len cap r lo hi h hh hc => exact fun hf => by simp [V.hf] at hf
  | hn s p => exact fun _ => .hn s p
  | agg cs vs hl k ih => exact fun hf => .agg cs vs hl fun j a b => ih j a b (hfs_get vs (by simpa [V.hf] using hf) j b)
  | tup cs vs hl k ih => exact fun hf => .tup cs vs hl fun j a b => ih j a b (hfs_get vs (by simpa [V.hf] using hf) j b)
  | iface t v x k ih => exact fun hf => .iface t v x (ih (by simpa [V.hf] using hf))
  | nili => exact fun _ => .nili
  | fn f cs vs hl k ih => exact fun hf => .fn f cs vs hl fun j a b => ih j a b (hfs_get vs (by simpa [V.hf] using hf) j b)
  | nilf => exact fun _ => .nilf
  | itr b r h => exact fun hf => by simp [V.hf] at hf
  | mp b r h => exact fun hf => by simp [V.hf] at hf
  | mpn => exact fun _ => .mpn
theorem gl_hf : (GL.all fun q => V.hfs q.2) = true := by kernel_rfl
theorem GlOk.hf {G G' : Gh} (hG : ∀ r o v, G.st r o = some v → G'.st r o = some v) (h : GlOk G) : GlOk G' := fun q hq => rel_hf hG (h q hq) (by
  have := List.all_eq_true.1 gl_hf q hq
  simpa [V.hf] using this)
theorem rels_hf {G G' : Gh} (hG : ∀ r o v, G.st r o = some v → G'.st r o = some v) {us : List Value} {vs : List V} (h : Rels G us vs) (hf : V.hfs vs = true) : Rels G' us vs :=
  ⟨h.1, fun j a b => rel_hf hG (h.2 j a b) (hfs_get vs hf j b)⟩
end Ev
