/- The evaluator of abstract code, Ev7: code and functions are computed rightly (run_sound). No condition of its own: each theorem states its own. -/
import Derived.Test.YtnpegllmmckpgaaEv6
import Derived.Test.YtnpegllmmckpgaaEv8
import Derived.LoopN
import Derived.Scope
set_option linter.all false
/-! Ew, part B: code. -/
namespace Ev
open Go

structure TEx where
  n : Option Own
  x : List (Nat × Own)

def joinO (A B : Own) : Own := A.filter fun k => B.contains k
def joinN : Option Own → Option Own → Option Own
  | none, b => b
  | a, none => a
  | some a, some b => some (joinO a b)
def joinX (id : Nat) : List (Nat × Own) → Option Own → Option Own
  | [], n => n
  | (i, O) :: r, n => if i = id then joinX id r (joinN n (some O)) else joinX id r n
def subO (A B : Own) : Bool := A.all fun k => B.contains k

def tokThen (r : Option TEx) (k : Own → Option TEx) : Option TEx := r.bind fun r => match r.n with
  | none => some r
  | some O1 => (k O1).map fun r2 => ⟨r2.n, r.x ++ r2.x⟩
def nOk (own : Own) : Option Own → Bool
  | none => true
  | some O2 => subO own O2
/-- Who owns what behind a piece of code. -/
def tokC (sig : Sig) (ret : Own → Bool) : ACode → Own → Option TEx
  | .skip, O => some ⟨some O, []⟩
  | .reg ops keep, O => (tokOprs sig ops O).map fun O' => ⟨some (keepOwn keep O'), []⟩
  | .regd _ keep own _, O => if subO own.1 O then some ⟨some (keepOwn keep (ownAt own own.2.length)), []⟩ else none
  | .seq a b, O => (tokC sig ret a O).bind fun r => match r.n with
    | none => some r
    | some O1 => (tokC sig ret b O1).map fun r2 => ⟨r2.n, r.x ++ r2.x⟩
  | .cond _ a b, O => (tokC sig ret a O).bind fun r => (tokC sig ret b O).map fun r2 => ⟨joinN r.n r2.n, r.x ++ r2.x⟩
  | .nilc ops _ _ _ keep a b c, O => (tokOprs sig ops O).bind fun O1 => (tokThen (tokC sig ret a (keepOwn keep O1)) fun O => tokC sig ret c O).bind fun r =>
      (tokThen (tokC sig ret b (keepOwn keep O1)) fun O => tokC sig ret c O).map fun r2 => ⟨joinN r.n r2.n, r.x ++ r2.x⟩
  | .block id a, O => (tokC sig ret a O).map fun r => ⟨joinX id r.x r.n, r.x.filter fun k => k.1 != id⟩
  | .loop keep own a, O => if subO own O && own.all (fun k => keep.contains k.1) then (tokC sig ret a own).bind fun r => match r.n with
      | none => some ⟨none, r.x⟩
      | some O1 => if subO own O1 then some ⟨none, r.x⟩ else none
    else none
  | .exit i, O => some ⟨none, [(i, O)]⟩
  | .gap, _ => some ⟨none, []⟩
  | .ins .., _ => if ret [] then some ⟨none, []⟩ else none
  | .scope a, O => tokC sig ret a O
  | .ret, O => if ret O then some ⟨none, []⟩ else none
  | .mloop pre _ _ _ keep own id body c, O => (tokC sig ret pre O).bind fun r0 => match r0.n with
    | none => some r0
    | some O1 => if subO own O1 && own.all (fun k => keep.contains k.1) then (tokC sig ret body own).bind fun r1 =>
        if nOk own r1.n && r1.x.all (fun k => k.1 != id || subO own k.2) then (tokC sig ret c own).map fun r2 => ⟨r2.n, r0.x ++ (r1.x.filter (fun k => k.1 != id) ++ r2.x)⟩ else none
      else none

/-- Is a slice held against nil? -/
def chkNil (P : Program) (x : A) (neq : Bool) : Op → Bool
  | .binOp op t y (.const (.slice none 0 0)) _ => op == (if neq then .neq else .eql) && chkA x y && (match P.underlying t with | some (.slice _) => true | _ => false)
  | _ => false
/-- A walk's next step, and whether there was one. -/
def chkNext (it d1 d2 : Nat) : List Oper → Bool
  | [o1, o2] => o1.dst == some d1 && o1.guard.isNone && (match o1.op with | .next (.tmp i) false => i == it | _ => false) && (o2.dst == some d2 && o2.guard.isNone && (match o2.op with | .extract (.tmp i) 0 => i == d1 | _ => false))
  | _ => false
/-- Code, where it is told how slices.Insert is looked at. -/
def chkCodeG (P : Program) (sig : Sig) (n : Nat) (I : Nat → Nat → List V → Nat → Code → Bool) : ACode → Code → Bool
  | .skip, .skip => true
  | .skip, .label _ => true
  | .scope a, .scope a' => chkCodeG P sig n I a a'
  | .reg ops _, .region _ ops' false => chkOpers P sig n ops'.toList ops ops'.toList
  | .regd ops _ own fl, .region _ ops' true => chkDraw P sig n ops own fl ops'.toList
  | .seq a b, .seq a' b' => chkCodeG P sig n I a a' && chkCodeG P sig n I b b'
  | .cond c a b, .cond c' a' b' => chkA c c' && chkCodeG P sig n I a a' && chkCodeG P sig n I b b'
  | .nilc ops x d neq keep a b c, .seq (.seq (.region _ os false) (.cond (.tmp d') a' b')) c' => d == d' && !keep.contains d && decide (d < n) && (match os.toList.drop ops.length with
      | [o] => chkOpers P sig n os.toList ops (os.toList.take ops.length) && o.dst == some d && o.guard.isNone && chkNil P x neq o.op
      | _ => false) && chkCodeG P sig n I a a' && chkCodeG P sig n I b b' && chkCodeG P sig n I c c'
  | .block i a, .block j a' => i == j && chkCodeG P sig n I a a'
  | .loop _ _ a, .loop a' => chkCodeG P sig n I a a'
  | .exit i, .exit j => i == j
  | .gap, _ => true
  | .ret, .ret => true
  | .ins s bytes z fo, k => I s bytes z fo k
  | .mloop pre it d1 d2 keep _ id body c, .seq (.seq pre' (.block i1 (.loop (.seq (.region _ os false) (.seq (.cond (.tmp t) .skip (.exit i2)) body'))))) c' =>
    (i1 == id && i2 == id && t == d2 && d1 != d2 && decide (d1 < n) && decide (d2 < n) && !keep.contains d1 && !keep.contains d2 && chkNext it d1 d2 os.toList) && (chkCodeG P sig n I pre pre' && chkCodeG P sig n I body body' && chkCodeG P sig n I c c')
  | _, _ => false

/-! What slices.Insert does, where the elements do not come behind all others. -/
abbrev iF (d n : Nat) : AOpr := ⟨some d, .mv (.t n) false, none⟩
abbrev iS (d : Nat) (o : AOp) : AOpr := ⟨some d, o, none⟩
def insT (s bytes : Nat) (z : List V) (fo : Nat) : ACode :=
  .seq (.seq (.reg [iF 26 8, iF 27 7, iS 28 (.bin .add .int (.t 26) (.t 27)), iF 29 0, iS 30 (.capv (.t 29)), iS 31 (.bin .gtr .int (.t 28) (.t 30))] [0, 1, 2, 7, 8, 31])
    (.cond (.t 31)
      (.seq (.reg [iF 32 0, iF 33 1, iS 34 (.sl (.sl s) (.t 32) none (some (.t 33)) none false), iF 35 8, iF 36 7, iS 37 (.bin .add .int (.t 35) (.t 36)), iF 38 1, iS 39 (.bin .sub .int (.t 37) (.t 38)), iS 40 (.appz s bytes z (.t 34) (.t 39)), iF 9 40] [0, 1, 2, 7, 9])
      (.seq (.reg [iF 41 9, iF 42 1, iS 43 (.sl (.sl s) (.t 41) (some (.t 42)) none none false), iF 44 2, iS 45 (.copy s (.t 43) (.t 44))] [0, 1, 7, 9])
      (.seq (.regd [iF 46 9, iF 47 1, iF 48 7, iS 49 (.bin .add .int (.t 47) (.t 48)), iS 50 (.sl (.sl s) (.t 46) (some (.t 49)) none none false), iF 51 0, iF 52 1, iS 53 (.sl (.sl s) (.t 51) (some (.t 52)) none none false), iS 54 (.copy s (.t 50) (.t 53))] [9] ([], []) [])
      (.seq (.reg [iF 55 9, iF 6 55] [6]) .ret))))
      .skip))
  (.seq (.reg [iF 56 0, iF 57 8, iF 58 7, iS 59 (.bin .add .int (.t 57) (.t 58)), iS 60 (.sl (.sl s) (.t 56) none (some (.t 59)) none false), iF 0 60] [0, 1, 2, 7, 8])
  (.seq (.seq (.reg [iF 61 2, iF 62 0, iF 63 1, iF 64 7, iS 65 (.bin .add .int (.t 63) (.t 64)), iS 66 (.sl (.sl s) (.t 62) (some (.t 65)) none none false), iS 67 (.ovl s (.t 61) (.t 66)), iS 68 (.un .not (.t 67))] [0, 1, 2, 7, 8, 68])
    (.cond (.t 68)
      (.seq (.regd [iF 69 0, iF 70 1, iF 71 7, iS 72 (.bin .add .int (.t 70) (.t 71)), iS 73 (.sl (.sl s) (.t 69) (some (.t 72)) none none false), iF 74 0, iF 75 1, iS 76 (.sl (.sl s) (.t 74) (some (.t 75)) none none false), iS 77 (.copy s (.t 73) (.t 76))] [0, 1, 2] ([], []) [])
      (.seq (.reg [iF 78 0, iF 79 1, iS 80 (.sl (.sl s) (.t 78) (some (.t 79)) none none false), iF 81 2, iS 82 (.copy s (.t 80) (.t 81))] [0])
      (.seq (.reg [iF 83 0, iF 6 83] [6]) .ret)))
      .skip))
  .gap))
def chkIns (P : Program) (n s bytes : Nat) (z : List V) (fo : Nat) (k : Code) : Bool := decide (0 < s) && decide (0 < bytes) && decide (z.length = s) && chkCodeG P (fun _ => none) n (fun _ _ _ _ _ => false) (insT s bytes z fo) k
def chkCode (P : Program) (sig : Sig) (n : Nat) : ACode → Code → Bool := chkCodeG P sig n (chkIns P n)

def TEx.has (r : TEx) (ret : Own → Bool) : Ex → Own → Prop
  | .n, O => r.n = some O
  | .x i, O => (i, O) ∈ r.x
  | .r, O => ret O = true

def exR : Ex → Exit
  | .n => .normal
  | .x i => .exit i
  | .r => .ret

section
variable {P : Program} {T : Table} {C : Callee} {sig : Sig} {ret : Own → Bool} {n : Nat}

theorem FSt.less {G : Gh} {ρ : Rho} {e : Env} {h : Heap} {O : Own} {a : Act} {w : World} (st : FSt n G ρ e h O a w) (O' : Own) (hs : ∀ k, k ∈ O' → k ∈ O) : FSt n G (ρ.only O') e h O' a w ∧ Fr G ρ w G (ρ.only O') w :=
  ⟨⟨(st.st.less O' hs).1, st.size, st.defers⟩, (st.st.less O' hs).2⟩

/-- Behind a piece of code. -/
def Post (n : Nat) (ret : Own → Bool) (r : TEx) (x : Ex) (e' : Env) (h' : Heap) (G : Gh) (ρ : Rho) (w : World) : Exit → Act → World → Prop :=
  fun ex a' w' => ex = exR x ∧ ∃ G' ρ' O', r.has ret x O' ∧ FSt n G' ρ' e' h' O' a' w' ∧ Fr G ρ w G' ρ' w'

theorem joinN_sub {a b : Option Own} {O : Own} (h : a = some O) : ∃ O2, joinN a b = some O2 ∧ ∀ k, k ∈ O2 → k ∈ O := by
  subst h
  cases b with
  | none => exact ⟨O, rfl, fun _ k => k⟩
  | some b => exact ⟨joinO O b, rfl, fun k hk => (List.mem_filter.1 hk).1⟩
theorem joinN_sub' {a b : Option Own} {O : Own} (h : b = some O) : ∃ O2, joinN a b = some O2 ∧ ∀ k, k ∈ O2 → k ∈ O := by
  subst h
  cases a with
  | none => exact ⟨O, rfl, fun _ k => k⟩
  | some a => exact ⟨joinO a O, rfl, fun k hk => by simpa using (List.mem_filter.1 hk).2⟩
theorem joinX_n (id : Nat) : ∀ (l : List (Nat × Own)) (a : Option Own) (O : Own), a = some O → ∃ O2, joinX id l a = some O2 ∧ ∀ k, k ∈ O2 → k ∈ O
  | [], a, O, h => ⟨O, h, fun _ k => k⟩
  | (i, A) :: l, a, O, h => by
    simp only [joinX]
    split
    · obtain ⟨O2, h1, h2⟩ := joinN_sub (b := some A) h
      obtain ⟨O3, h3, h4⟩ := joinX_n id l _ O2 h1
      exact ⟨O3, h3, fun k hk => h2 k (h4 k hk)⟩
    · exact joinX_n id l a O h
theorem joinX_x (id : Nat) : ∀ (l : List (Nat × Own)) (a : Option Own) (O : Own), (id, O) ∈ l → ∃ O2, joinX id l a = some O2 ∧ ∀ k, k ∈ O2 → k ∈ O
  | [], a, O, h => by simp at h
  | (i, A) :: l, a, O, h => by
    simp only [joinX]
    by_cases e : (id, O) = (i, A)
    · cases e
      rw [if_pos rfl]
      obtain ⟨O2, h1, h2⟩ := joinN_sub' (a := a) (b := some A) rfl
      obtain ⟨O3, h3, h4⟩ := joinX_n id l _ O2 h1
      exact ⟨O3, h3, fun k hk => h2 k (h4 k hk)⟩
    · have hm : (id, O) ∈ l := by
        rcases List.mem_cons.1 h with k | k
        · exact absurd k e
        · exact k
      split
      · exact joinX_x id l _ O hm
      · exact joinX_x id l a O hm

theorem Post.weaken {r r' : TEx} {x : Ex} {e' : Env} {h' : Heap} {G G1 : Gh} {ρ ρ1 : Rho} {w w1 : World} {ex : Exit} {a' : Act} {w' : World} (hp : Post n ret r x e' h' G1 ρ1 w1 ex a' w') (f : Fr G ρ w G1 ρ1 w1)
    (hr : ∀ O, r.has ret x O → ∃ O2, r'.has ret x O2 ∧ ∀ k, k ∈ O2 → k ∈ O) : Post n ret r' x e' h' G ρ w ex a' w' := by
  obtain ⟨rfl, G', ρ', O', h1, h2, h3⟩ := hp
  obtain ⟨O2, k1, k2⟩ := hr O' h1
  obtain ⟨st2, f2⟩ := h2.less O2 k2
  exact ⟨rfl, G', _, O2, k1, st2, (f.trans h3).trans f2⟩

theorem subO_mem {A B : Own} (h : subO A B = true) : ∀ k, k ∈ A → k ∈ B := fun k hk => by
  have := List.all_eq_true.1 h k hk
  simpa using this

theorem nil_run {G : Gh} {e : Env} {a : Act} {w : World} {o : Oper} {x : A} {neq : Bool} {v : V} {t : Bool} (he : EnvRel G a.tmps e) (hc : chkNil P x neq o.op = true) (hx : x.ev e = some v) (hn : nilV v = some t) :
    ∃ bl, (execOp a.eval o).run P w = .ok (.value (.bool bl)) w ∧ (t = false → bl = neq) := by
  unfold chkNil at hc
  split at hc
  case h_2 => cases hc
  rename_i op ty y yt ho
  simp only [Bool.and_eq_true, beq_iff_eq] at hc
  obtain ⟨⟨hop, hxy⟩, hty⟩ := hc
  have hr := A_rel he hxy hx
  have hsl : ∃ p n c, a.eval y = .slice p n c ∧ (t = false → p.isSome = true) := by
    generalize a.eval y = u at hr
    cases v <;> simp [nilV] at hn
    case ps s xs =>
      cases xs with
      | nil => cases hr with
        | ps0 s p => exact ⟨p, 0, 0, rfl, fun h => by simp at hn; rw [h] at hn; cases hn⟩
        | ps r o n cap s xs u hn hc hs h k => exact ⟨_, _, _, rfl, fun _ => rfl⟩
      | cons z zs => cases hr with
        | ps r o n cap s xs u hn hc hs h k => exact ⟨_, _, _, rfl, fun _ => rfl⟩
    case hs s b off len => cases hr with
      | hs _ _ _ _ cap r lo hi h hh hc => exact ⟨_, _, _, rfl, fun _ => rfl⟩
    case hn s => cases hr with
      | hn s p => exact ⟨p, 0, 0, rfl, fun h => by rw [h] at hn; cases hn⟩
  obtain ⟨p, n, c, hu, hp⟩ := hsl
  cases hdd : P.underlying ty with
  | none => simp [hdd] at hty
  | some d =>
    cases d <;> simp [hdd] at hty
    have hund := run_underlying P w ty _ hdd
    obtain ⟨m, hm, _⟩ := depth_succ
    have hg : ∀ op, eqGuard op ty y (.const (.slice none 0 0)) (.slice p n c) (.slice none 0 0) = pure () := fun op => by unfold eqGuard; split <;> rfl
    have heq : (Op.equal ty (.slice p n c) (.slice none 0 0)).run P w = .ok (!p.isSome) w := by
      unfold Op.equal
      rw [hm]
      unfold Op.equalIn
      rw [Sem.run_bind, hund, Result.andThen_ok]
      cases p <;> rfl
    have hev : a.eval (.const (.slice none 0 0)) = .slice none 0 0 := rfl
    cases neq with
    | false =>
      simp at hop
      subst hop
      refine ⟨!p.isSome, ?_, fun h => by rw [hp h]; rfl⟩
      have hb : binOp .eql ty (.slice p n c) (.slice none 0 0) = (do pure (.bool (← Op.equal ty (.slice p n c) (.slice none 0 0)))) := rfl
      simp only [execOp, ho, hu, hev, hg, hb]
      simp only [pure_bind, Sem.run_bind, heq, Result.andThen_ok, Sem.run_pure]
    | true =>
      simp at hop
      subst hop
      refine ⟨!(!p.isSome), ?_, fun h => by rw [hp h]; rfl⟩
      have hb : binOp .neq ty (.slice p n c) (.slice none 0 0) = (do pure (.bool (!(← Op.equal ty (.slice p n c) (.slice none 0 0))))) := rfl
      simp only [execOp, ho, hu, hev, hg, hb]
      simp only [pure_bind, Sem.run_bind, heq, Result.andThen_ok, Sem.run_pure]

theorem keep_put {G : Gh} {ρ : Rho} {e : Env} {h : Heap} {O : Own} {tm : Array Value} {w : World} {keep : List Nat} {d : Nat} (hd : d ∉ keep) (st : St G ρ (e.keep keep) h (keepOwn keep O) tm w) (u : Value) : St G ρ (e.keep keep) h (keepOwn keep O) (tm.setIfInBounds d u) w := by
  have hget : ∀ i, i ∈ keep → (tm.setIfInBounds d u).getD i undef = tm.getD i undef := fun i hi => by
    have : d ≠ i := fun e => hd (e ▸ hi)
    simp only [Array.getD_eq_getD_getElem?, Array.getElem?_setIfInBounds]
    rw [if_neg this]
  refine ⟨⟨fun i v hv => ?_, st.env.gl⟩, st.mem, fun s c hk => ?_, st.non⟩
  · rw [hget i (keep_get keep e i v hv).2]
    exact st.env i v hv
  · obtain ⟨u', v, x, h1, h2, h3, h4⟩ := st.own s c hk
    have : s ∈ keep := by simpa using (List.mem_filter.1 hk).2
    exact ⟨u', v, x, by rw [hget s this]; exact h1, h2, h3, h4⟩

theorem then_post {k2 : Code} {kf : Env → Heap → Option (Ex × Env × Heap)} {tk : Own → Option TEx} {r1 r : TEx} {x1 x : Ex} {e1 e' : Env} {h1 h' : Heap} {G : Gh} {ρ : Rho} {w : World} {ex : Exit} {a' : Act} {w' : World}
    (hk : ∀ (G : Gh) (ρ : Rho) (e : Env) (h : Heap) (O : Own) (r : TEx) (a : Act) (w : World) (x : Ex) (e' : Env) (h' : Heap), FSt n G ρ e h O a w → tk O = some r → kf e h = some (x, e', h') → k2.wp P (Post n ret r x e' h' G ρ w) a w)
    (hp : Post n ret r1 x1 e1 h1 G ρ w ex a' w') (t2 : tokThen (some r1) tk = some r) (hv : thenR (some (x1, e1, h1)) kf = some (x, e', h')) :
    Exit.then (k2.wp P (Post n ret r x e' h' G ρ w)) (Post n ret r x e' h' G ρ w) ex a' w' := by
  simp only [tokThen, Option.bind_some] at t2
  simp only [thenR, Option.bind_some] at hv
  cases x1 with
  | n =>
    obtain ⟨rfl, G', ρ', O', q1, q2, q3⟩ := hp
    simp only at hv
    have q1 : r1.n = some O' := q1
    rw [q1] at t2
    simp only [Option.map_eq_some_iff] at t2
    obtain ⟨r2, t3, t4⟩ := t2
    refine wp_mono (hk G' ρ' e1 h1 O' r2 a' w' x e' h' q2 t3 hv) fun ex2 a2 w2 hp2 => hp2.weaken q3 fun O3 h3 => ⟨O3, ?_, fun _ k => k⟩
    subst t4
    cases x with
    | n => exact h3
    | x i => exact List.mem_append.2 (.inr h3)
    | r => exact h3
  | x i =>
    simp only at hv
    cases hv
    have hw := hp.weaken (r' := r) (.refl _ _ _) fun O3 h3 => ⟨O3, by
      cases hn : r1.n with
      | none => rw [hn] at t2; simp at t2; subst t2; exact h3
      | some O1 =>
        rw [hn] at t2
        simp only [Option.map_eq_some_iff] at t2
        obtain ⟨r2, _, t4⟩ := t2
        subst t4
        exact List.mem_append.2 (.inl h3), fun _ k => k⟩
    obtain ⟨rfl, _⟩ := hp
    exact hw
  | r =>
    simp only at hv
    cases hv
    have hw := hp.weaken (r' := r) (.refl _ _ _) fun O3 h3 => ⟨O3, h3, fun _ k => k⟩
    obtain ⟨rfl, _⟩ := hp
    exact hw

theorem keep_keep (l : List Nat) (e : Env) : (e.keep l).keep l = e.keep l := by
  have key : ∀ m : List Nat, (∀ i, i ∈ m → i ∈ l) → (e.keep l).keep m = e.keep m := by
    intro m
    induction m with
    | nil => intro _; rfl
    | cons i m ih =>
      intro hm
      have hg : (e.keep l).get i = e.get i := by
        cases hv : e.get i with
        | some v => exact get_keep l e i v hv (hm i (by simp))
        | none =>
          cases hk : (e.keep l).get i with
          | none => rfl
          | some v => rw [(keep_get l e i v hk).1] at hv; cases hv
      simp only [Env.keep, hg, ih (fun j hj => hm j (by simp [hj]))]
  exact key l fun _ h => h
theorem Mem.weak {G : Gh} {h h' : Heap} {ρ : Rho} {w : World} (m : Mem G h ρ w) (k : Weak h h') : Mem G h' ρ w :=
  ⟨m.st, fun b cs hb ho => m.blk b cs (k.2 b cs hb) ho, fun b x hx => Nat.lt_of_lt_of_le (m.lt b x hx) k.1, m.own, m.dis, fun b hb => Nat.lt_of_lt_of_le (m.ob b hb) k.1, fun b r hb => by
    obtain ⟨h1, h2, ⟨o, h3, h4, h5⟩, h6⟩ := m.obs b r hb
    exact ⟨Nat.lt_of_lt_of_le h1 k.1, h2, ⟨o, h3, h4, fun cs hc => h5 cs (k.2 b cs hc)⟩, h6⟩⟩
theorem Post.weak {r : TEx} {x : Ex} {e' : Env} {h1 h2 : Heap} {G : Gh} {ρ : Rho} {w : World} {ex : Exit} {a' : Act} {w' : World} (hp : Post n ret r x e' h1 G ρ w ex a' w') (k : Weak h1 h2) : Post n ret r x e' h2 G ρ w ex a' w' := by
  obtain ⟨h0, G', ρ', O', q1, q2, q3⟩ := hp
  exact ⟨h0, G', ρ', O', q1, ⟨⟨q2.st.env, q2.st.mem.weak k, q2.st.own, q2.st.non⟩, q2.size, q2.defers⟩, q3⟩
theorem chkNext_spec {it d1 d2 : Nat} {os : Array Oper} (h : chkNext it d1 d2 os.toList = true) : ∃ o1 o2, os = #[o1, o2] ∧ o1.dst = some d1 ∧ o1.guard = none ∧ o1.op = .next (.tmp it) false ∧ o2.dst = some d2 ∧ o2.guard = none ∧ o2.op = .extract (.tmp d1) 0 := by
  unfold chkNext at h
  split at h
  case h_2 => cases h
  rename_i o1 o2 hos
  simp only [Bool.and_eq_true, beq_iff_eq, Option.isNone_iff_eq_none] at h
  obtain ⟨⟨⟨h1, h2⟩, h3⟩, ⟨h4, h5⟩, h6⟩ := h
  refine ⟨o1, o2, by apply Array.ext'; simpa using hos, h1, h2, ?_, h4, h5, ?_⟩
  · split at h3
    · rename_i i he
      rw [he, beq_iff_eq.1 h3]
    · cases h3
  · split at h6
    · rename_i i he
      rw [he, beq_iff_eq.1 h6]
    · cases h6
theorem keepOwn_self {keep : List Nat} {own : Own} (h : own.all (fun k => keep.contains k.1) = true) : keepOwn keep own = own := List.filter_eq_self.2 fun k hk => List.all_eq_true.1 h k hk
/-- A STEP OF A WALK OVER A MAP, in its region. -/
theorem next_region {G : Gh} {ρ : Rho} {e : Env} {h : Heap} {own : Own} {a : Act} {w : World} {keep : List Nat} {it d1 d2 : Nat} {os : Array Oper} {hs : List Heap} {R : Nat} {Q : Exit → Act → World → Prop}
    (hc : chkNext it d1 d2 os.toList = true) (h1 : d1 < n) (h2 : d2 < n) (hne : d1 ≠ d2) (hk1 : d1 ∉ keep) (hk2 : d2 ∉ keep) (hko : own.all (fun k => keep.contains k.1) = true)
    (st : FSt n G ρ (e.keep keep) h own a w) (hv : ((e.keep keep).get it).bind (picks h) = some hs)
    (hQ0 : hs = [] → ∀ a', FSt n G ρ (e.keep keep) h own a' w → a'.eval (.tmp d2) = .bool false → Q .normal a' w)
    (hQ1 : ∀ h1 a' w', h1 ∈ hs → FSt n G ρ (e.keep keep) h1 own a' w' → Fr G ρ w G ρ w' → a'.eval (.tmp d2) = .bool true → Q .normal a' w') :
    (Code.region R os false).wp P Q a w := by
  obtain ⟨o1, o2, rfl, c1, c2, c3, c4, c5, c6⟩ := chkNext_spec hc
  rw [Option.bind_eq_some_iff] at hv
  obtain ⟨v, hv1, hv2⟩ := hv
  have hu : Rel G (a.eval (.tmp it)) v := st.st.env it v hv1
  have hlt1 : d1 < a.tmps.size := Nat.lt_of_lt_of_le h1 st.size
  have hlt2 : d2 < a.tmps.size := Nat.lt_of_lt_of_le h2 st.size
  refine wp_region ?_
  have fin : ∀ (u : Value) (b : Bool) (hx : Heap) (w1 : World), u = .tuple #[.bool b] ∨ (∃ x y, u = .tuple #[.bool b, x, y]) → (Instr.next (a.eval (.tmp it)) false o1.type).run P w = .ok u w1 → Mem G hx ρ w1 →
      (∀ a', FSt n G ρ (e.keep keep) hx own a' w1 → a'.eval (.tmp d2) = .bool b → Q .normal a' w1) → wpOps P #[o1, o2] Q (List.range 2) a w := by
    intro u b hx w1 hu1 hr m1 hQ
    have hw1 : Region.wanted o1 (yielded #[o1, o2] a.tmps) = true := by unfold Region.wanted; rw [c2]
    show wpOps P #[o1, o2] Q [0, 1] a w
    have e0 : (#[o1, o2] : Array Oper)[0]? = some o1 := rfl
    have e1 : (#[o1, o2] : Array Oper)[1]? = some o2 := rfl
    simp only [wpOps, e0, e1, hw1, if_true]
    refine .inl ?_
    unfold Oper.wp
    have hx1 : (execOp a.eval o1).run P w = .ok (.value u) w1 := by
      simp only [execOp, c3]
      exact run_val' hr
    rw [hx1, Oper.upon_value, c1]
    have hw2 : Region.wanted o2 (yielded #[o1, o2] (a.put (some d1) u).tmps) = true := by unfold Region.wanted; rw [c5]
    rw [if_pos hw2]
    refine .inl ?_
    have hg1 : (a.put (some d1) u).eval (.tmp d1) = u := by
      show (a.put (some d1) u).tmps.getD d1 undef = _
      rw [put_tmps]
      simp only [putTm]
      rw [getD_set _ _ _ _ hlt1, if_pos rfl]
    have hx2 : (execOp (a.put (some d1) u).eval o2).run P w1 = .ok (.value (.bool b)) w1 := by
      simp only [execOp, c6, hg1]
      refine run_val' ?_
      rcases hu1 with rfl | ⟨x, y, rfl⟩ <;> simp [Instr.extract]
    rw [hx2, Oper.upon_value, c4]
    have base : St G ρ (e.keep keep) hx own a.tmps w1 := ⟨st.st.env, m1, st.st.own, st.st.non⟩
    rw [← keepOwn_self hko] at base
    have s1 := keep_put hk1 base u
    have s2 := keep_put hk2 s1 (.bool b)
    rw [keepOwn_self hko] at s2
    refine hQ _ ⟨?_, by rw [put_size, put_size]; exact st.size, by rw [put_defers', put_defers']; exact st.defers⟩ ?_
    · rw [put_tmps, put_tmps]
      exact s2
    · show ((a.put (some d1) u).put (some d2) (.bool b)).tmps.getD d2 undef = _
      rw [put_tmps, put_tmps]
      simp only [putTm]
      rw [getD_set _ _ _ _ (by simpa using hlt2), if_pos rfl]
  rcases picks_run (P := P) st.st.mem hu hv2 o1.type with ⟨h0, hr⟩ | ⟨hx, hm, k, v', w1, hr, m1, f1⟩
  · exact fin _ false h w (.inl rfl) hr st.st.mem (hQ0 h0)
  · exact fin _ true hx w1 (.inr ⟨_, _, rfl⟩) hr m1 fun a' s t => hQ1 hx a' w1 hm s f1 t
/-- What is laid into a slice stands there. -/
def InsOk (P : Program) (n : Nat) (ret : Own → Bool) (s bytes : Nat) (k : Code) : Prop :=
  ∀ (G : Gh) (ρ : Rho) (e : Env) (h : Heap) (O : Own) (a : Act) (w : World) (x : Ex) (e' : Env) (h' : Heap), FSt n G ρ e h O a w → ret [] = true → insE s bytes e h = some (x, e', h') → k.wp P (Post n ret ⟨none, []⟩ x e' h' G ρ w) a w

/-- CODE DOES WHAT ITS ABSTRACT CODE COMPUTES. -/
theorem code_sound (hm : P.follows .mixedOrders = true) (hC : CallsOk P T C) (hT : ∀ f af, T f = some af → funcOk P f = true) (hS : ∀ f ps rs, sig f = some (ps, rs) → ∃ af, T f = some af ∧ af.ownP = ps ∧ af.ownR = rs) (N : Nat) {I : Nat → Nat → List V → Nat → Code → Bool} (hI : ∀ s bytes z fo k, I s bytes z fo k = true → InsOk P n ret s bytes k) :
    ∀ (c : ACode) (k : Code), chkCodeG P sig n I c k = true → ∀ (G : Gh) (ρ : Rho) (e : Env) (h : Heap) (O : Own) (r : TEx) (a : Act) (w : World) (x : Ex) (e' : Env) (h' : Heap),
      FSt n G ρ e h O a w → tokC sig ret c O = some r → ev C N c e h = some (x, e', h') → k.wp P (Post n ret r x e' h' G ρ w) a w := by
  intro c
  induction c with
  | skip =>
    intro k hk G ρ e h O r a w x e' h' st ht hv
    simp [ev] at hv
    obtain ⟨rfl, rfl, rfl⟩ := hv
    simp [tokC] at ht
    subst ht
    cases k <;> simp [chkCodeG] at hk
    · exact wp_skip ⟨rfl, G, ρ, O, rfl, st, .refl _ _ _⟩
    · exact wp_label ⟨rfl, G, ρ, O, rfl, st, .refl _ _ _⟩
  | scope c ih =>
    intro k hk G ρ e h O r a w x e' h' st ht hv
    cases k <;> simp only [chkCodeG] at hk <;> try (cases hk; done)
    refine wp_scope_straight (wp_mono (ih _ hk G ρ e h O r a w x e' h' st ht hv) fun ex a' w' hq => ?_)
    cases ex with
    | goto l => cases x <;> cases hq.1
    | _ => exact hq
  | gap =>
    intro k hk G ρ e h O r a w x e' h' st ht hv
    simp [ev] at hv
  | ins s bytes z fo =>
    intro k hk G ρ e h O r a w x e' h' st ht hv
    simp only [ev] at hv
    simp only [tokC] at ht
    split at ht
    · rename_i hr
      cases ht
      exact hI s bytes z fo k hk G ρ e h O a w x e' h' st hr hv
    · cases ht
  | exit i =>
    intro k hk G ρ e h O r a w x e' h' st ht hv
    cases k <;> simp [chkCodeG] at hk
    subst hk
    simp [ev] at hv
    obtain ⟨rfl, rfl, rfl⟩ := hv
    simp [tokC] at ht
    subst ht
    exact wp_exit ⟨rfl, G, ρ, O, by simp [TEx.has], st, .refl _ _ _⟩
  | ret =>
    intro k hk G ρ e h O r a w x e' h' st ht hv
    cases k <;> simp [chkCodeG] at hk
    simp [ev] at hv
    obtain ⟨rfl, rfl, rfl⟩ := hv
    simp [tokC] at ht
    exact wp_ret ⟨rfl, G, ρ, O, ht.1, st, .refl _ _ _⟩
  | reg ops keep =>
    intro k hk G ρ e h O r a w x e' h' st ht hv
    cases k <;> try (simp [chkCodeG] at hk; done)
    rename_i id ops' draw
    cases draw <;> simp only [chkCodeG] at hk <;> try (cases hk; done)
    simp only [ev] at hv
    obtain ⟨⟨e1, h1⟩, hv1, hv2⟩ := pair_bind hv
    cases hv2
    simp only [tokC, Option.map_eq_some_iff] at ht
    obtain ⟨O1, t1, t2⟩ := ht
    subst t2
    refine wp_region ?_
    exact ops_sound (Q := Post n ret ⟨some (keepOwn keep O1), []⟩   .n (e1.keep keep) h1 G ρ w) hC hT hS ops G ρ e h O O1 a w e1 h1 st hk t1 hv1 (fun G' ρ' a' w' st' f' => by
      obtain ⟨st2, f2⟩ := keep_st st'.st keep
      exact ⟨rfl, G', _, _, rfl, ⟨st2, st'.size, st'.defers⟩, f'.trans f2⟩)
  | regd ops keep own flags =>
    intro k hk G ρ e h O r a w x e' h' st ht hv
    cases k <;> try (simp [chkCodeG] at hk; done)
    rename_i id ops' draw
    cases draw <;> simp only [chkCodeG] at hk <;> try (cases hk; done)
    simp only [ev] at hv
    by_cases hf : flagsOk C ops e h flags = true
    case neg => rw [if_neg hf] at hv; cases hv
    rw [if_pos hf] at hv
    obtain ⟨⟨e1, h1⟩, hv1, hv2⟩ := pair_bind hv
    cases hv2
    simp only [tokC] at ht
    split at ht
    case isFalse => cases ht
    rename_i hsub
    cases ht
    obtain ⟨st1, f1⟩ := st.less own.1 (fun k hk => by simpa using List.all_eq_true.1 hsub k hk)
    refine draw_sound hC hT hS hm st1 hk hv1 hf fun G' ρ' a' w' st' f' => ?_
    obtain ⟨st2, f2⟩ := keep_st st'.st keep
    exact ⟨rfl, G', _, _, rfl, ⟨st2, st'.size, st'.defers⟩, (f1.trans f').trans f2⟩
  | seq c1 c2 ih1 ih2 =>
    intro k hk G ρ e h O r a w x e' h' st ht hv
    cases k <;> simp [chkCodeG] at hk
    simp only [ev] at hv
    obtain ⟨⟨x1, e1, h1⟩, hv1, hv2⟩ := pair_bind hv
    simp only [tokC] at ht
    obtain ⟨r1, t1, t2⟩ := pair_bind ht
    refine wp_seq (wp_mono (ih1 _ hk.1 G ρ e h O r1 a w x1 e1 h1 st t1 hv1) fun ex a' w' hp => ?_)
    cases x1 with
    | n =>
      obtain ⟨rfl, G', ρ', O', q1, q2, q3⟩ := hp
      simp only at hv2
      have q1 : r1.n = some O' := q1
      rw [q1] at t2
      simp only [Option.map_eq_some_iff] at t2
      obtain ⟨r2, t3, t4⟩ := t2
      refine wp_mono (ih2 _ hk.2 G' ρ' e1 h1 O' r2 a' w' x e' h' q2 t3 hv2) fun ex2 a2 w2 hp2 => hp2.weaken q3 fun O3 h3 => ⟨O3, ?_, fun _ k => k⟩
      subst t4
      cases x with
      | n => exact h3
      | x i => exact List.mem_append.2 (.inr h3)
      | r => exact h3
    | x i =>
      simp only at hv2
      cases hv2
      have hw := hp.weaken (r' := r) (.refl _ _ _) fun O3 h3 => ⟨O3, by
        cases hn : r1.n with
        | none => rw [hn] at t2; simp at t2; subst t2; exact h3
        | some O1 =>
          rw [hn] at t2
          simp only [Option.map_eq_some_iff] at t2
          obtain ⟨r2, _, t4⟩ := t2
          subst t4
          exact List.mem_append.2 (.inl h3), fun _ k => k⟩
      obtain ⟨rfl, _⟩ := hp
      exact hw
    | r =>
      simp only at hv2
      cases hv2
      have hw := hp.weaken (r' := r) (.refl _ _ _) fun O3 h3 => ⟨O3, h3, fun _ k => k⟩
      obtain ⟨rfl, _⟩ := hp
      exact hw
  | cond c c1 c2 ih1 ih2 =>
    intro k hk G ρ e h O r a w x e' h' st ht hv
    cases k <;> simp [chkCodeG] at hk
    obtain ⟨⟨k1, k2⟩, k3⟩ := hk
    simp only [ev] at hv
    obtain ⟨cv, hv1, hv2⟩ := pair_bind hv
    obtain ⟨t, hv3, hv4⟩ := pair_bind hv2
    have hb := bool_q (A_rel st.st.env k1 hv1) hv3
    simp only [tokC] at ht
    obtain ⟨r1, t1, t2⟩ := pair_bind ht
    simp only [Option.map_eq_some_iff] at t2
    obtain ⟨r2, t3, t4⟩ := t2
    subst t4
    cases t with
    | true =>
      simp only [if_true] at hv4
      refine wp_cond_true hb (wp_mono (ih1 _ k2 G ρ e h O r1 a w x e' h' st t1 hv4) fun ex a' w' hp => hp.weaken (.refl _ _ _) fun O3 h3 => ?_)
      cases x with
      | n => exact joinN_sub h3
      | x i => exact ⟨O3, List.mem_append.2 (.inl h3), fun _ k => k⟩
      | r => exact ⟨O3, h3, fun _ k => k⟩
    | false =>
      simp only [Bool.false_eq_true, if_false] at hv4
      refine wp_cond_false hb (wp_mono (ih2 _ k3 G ρ e h O r2 a w x e' h' st t3 hv4) fun ex a' w' hp => hp.weaken (.refl _ _ _) fun O3 h3 => ?_)
      cases x with
      | n => exact joinN_sub' h3
      | x i => exact ⟨O3, List.mem_append.2 (.inr h3), fun _ k => k⟩
      | r => exact ⟨O3, h3, fun _ k => k⟩
  | nilc ops x d neq keep ca cb cc iha ihb ihc =>
    intro k hk G ρ e h O r a w y e' h' st ht hv
    cases k <;> try (simp [chkCodeG] at hk; done)
    rename_i k1 k2
    cases k1 <;> try (simp [chkCodeG] at hk; done)
    rename_i k3 k4
    cases k3 <;> try (simp [chkCodeG] at hk; done)
    rename_i id os draw
    cases draw <;> try (simp [chkCodeG] at hk; done)
    cases k4 <;> try (simp [chkCodeG] at hk; done)
    rename_i cd ka kb
    cases cd <;> try (simp [chkCodeG] at hk; done)
    rename_i d'
    simp only [chkCodeG, Bool.and_eq_true, beq_iff_eq, decide_eq_true_eq] at hk
    obtain ⟨⟨⟨⟨⟨⟨rfl, hkd⟩, hdn⟩, hk1⟩, ka1⟩, kb1⟩, kc1⟩ := hk
    have hkd : d ∉ keep := by simpa using hkd
    have htd : ∃ o, os.toList.drop ops.length = [o] ∧ chkOpers P sig n os.toList ops (os.toList.take ops.length) = true ∧ o.dst = some d ∧ o.guard = none ∧ chkNil P x neq o.op = true := by
      cases hd : os.toList.drop ops.length with
      | nil => rw [hd] at hk1; cases hk1
      | cons o r => cases r with
        | cons _ _ => rw [hd] at hk1; cases hk1
        | nil =>
          rw [hd] at hk1
          simp only [Bool.and_eq_true, beq_iff_eq, Option.isNone_iff_eq_none] at hk1
          exact ⟨o, rfl, hk1.1.1.1, hk1.1.1.2, hk1.1.2, hk1.2⟩
    obtain ⟨o, hdrop, hco, hdst, hgd, hnil⟩ := htd
    simp only [ev] at hv
    obtain ⟨⟨e1, h1⟩, hv1, hv2⟩ := pair_bind hv
    obtain ⟨v, hv3, hv4⟩ := pair_bind hv2
    obtain ⟨t, hv5, hv6⟩ := pair_bind hv4
    simp only [tokC] at ht
    obtain ⟨O1, t1, t2⟩ := pair_bind ht
    obtain ⟨ra, t3, t4⟩ := pair_bind t2
    simp only [Option.map_eq_some_iff] at t4
    obtain ⟨rb, t5, t6⟩ := t4
    have hlen : ops.length < os.toList.length := by
      have := congrArg List.length hdrop
      simp at this
      simp; omega
    have hol : os[ops.length]? = some o := by
      have : (os.toList.drop ops.length)[0]? = some o := by rw [hdrop]; rfl
      rw [List.getElem?_drop] at this
      simpa using this
    -- one way
    have way : ∀ (bl : Bool), (t = false → bl = neq) → ∀ (G1 : Gh) (ρ1 : Rho) (a1 : Act) (w1 : World), FSt n G1 ρ1 (e1.keep keep) h1 (keepOwn keep O1) a1 w1 → Fr G ρ w G1 ρ1 w1 → a1.eval (.tmp d) = .bool bl →
        (Code.cond (.tmp d) ka kb).wp P (Exit.then (k2.wp P (Post n ret r y e' h' G ρ w)) (Post n ret r y e' h' G ρ w)) a1 w1 := by
      intro bl hbl G1 ρ1 a1 w1 st1 f1 hev
      have wk : ∀ {r' : TEx} {ex : Exit} {a' : Act} {w' : World}, (∀ O, r'.has ret y O → ∃ O2, r.has ret y O2 ∧ ∀ k, k ∈ O2 → k ∈ O) → Post n ret r' y e' h' G1 ρ1 w1 ex a' w' → Post n ret r y e' h' G ρ w ex a' w' := fun hr hp => hp.weaken f1 hr
      cases bl with
      | true =>
        have hA : thenR (ev C N ca (e1.keep keep) h1) (fun e h => ev C N cc e h) = some (y, e', h') := by
          cases t with
          | true => exact (bothR_some hv6).1
          | false => rw [← hbl rfl] at hv6; exact hv6
        obtain ⟨⟨x2, e2, h2⟩, q1, q2⟩ := pair_bind hA
        obtain ⟨r1, p1, p2⟩ := pair_bind t3
        refine wp_cond_true hev (wp_mono (iha ka ka1 G1 ρ1 _ h1 _ r1 a1 w1 x2 e2 h2 st1 p1 q1) fun ex a' w' hp => ?_)
        have := then_post (k2 := k2) (kf := fun e h => ev C N cc e h) (tk := fun O => tokC sig ret cc O) (x := y) (e' := e') (h' := h') (r := ra) (fun G ρ e h O r a w x e' h' st ht hv => ihc k2 kc1 G ρ e h O r a w x e' h' st ht hv) hp p2 q2
        have low : ∀ O, ra.has ret y O → ∃ O2, r.has ret y O2 ∧ ∀ k, k ∈ O2 → k ∈ O := fun O3 h3 => by
          subst t6
          cases y with
          | n => exact joinN_sub h3
          | x i => exact ⟨O3, List.mem_append.2 (.inl h3), fun _ k => k⟩
          | r => exact ⟨O3, h3, fun _ k => k⟩
        cases ex <;> first | exact wp_mono this fun _ _ _ hp => wk low hp | exact wk low this
      | false =>
        have hB : thenR (ev C N cb (e1.keep keep) h1) (fun e h => ev C N cc e h) = some (y, e', h') := by
          cases t with
          | true => exact (bothR_some hv6).2
          | false => rw [← hbl rfl] at hv6; exact hv6
        obtain ⟨⟨x2, e2, h2⟩, q1, q2⟩ := pair_bind hB
        obtain ⟨r1, p1, p2⟩ := pair_bind t5
        refine wp_cond_false hev (wp_mono (ihb kb kb1 G1 ρ1 _ h1 _ r1 a1 w1 x2 e2 h2 st1 p1 q1) fun ex a' w' hp => ?_)
        have := then_post (k2 := k2) (kf := fun e h => ev C N cc e h) (tk := fun O => tokC sig ret cc O) (x := y) (e' := e') (h' := h') (r := rb) (fun G ρ e h O r a w x e' h' st ht hv => ihc k2 kc1 G ρ e h O r a w x e' h' st ht hv) hp p2 q2
        have low : ∀ O, rb.has ret y O → ∃ O2, r.has ret y O2 ∧ ∀ k, k ∈ O2 → k ∈ O := fun O3 h3 => by
          subst t6
          cases y with
          | n => exact joinN_sub' h3
          | x i => exact ⟨O3, List.mem_append.2 (.inr h3), fun _ k => k⟩
          | r => exact ⟨O3, h3, fun _ k => k⟩
        cases ex <;> first | exact wp_mono this fun _ _ _ hp => wk low hp | exact wk low this
    refine wp_seq (wp_seq (wp_region ?_))
    have := ops_sound_then (Q := Exit.then ((Code.cond (.tmp d) ka kb).wp P (Exit.then (k2.wp P (Post n ret r y e' h' G ρ w)) (Post n ret r y e' h' G ρ w))) (Exit.then (k2.wp P (Post n ret r y e' h' G ρ w)) (Post n ret r y e' h' G ρ w))) hC hT hS (ops := os) [o] [ops.length] ops 0 G ρ e h O O1 a w e1 h1 st
      (os.toList.take ops.length) (by rw [← hdrop]; simp) hco t1 hv1 (fun G' ρ' a' w' st' f' => by
        obtain ⟨st2, f2⟩ := keep_st st'.st keep
        obtain ⟨bl, hrun, hbl⟩ := nil_run (P := P) (w := w') st'.st.env hnil hv3 hv5
        have hwant : Region.wanted o (yielded os a'.tmps) = true := by unfold Region.wanted; rw [hgd]
        simp only [wpOps, hol, hwant, if_true]
        refine .inl ?_
        unfold Oper.wp
        rw [hrun, Oper.upon_value, hdst]
        have hlt : d < a'.tmps.size := Nat.lt_of_lt_of_le hdn st'.size
        refine way bl hbl G' _ _ _ ⟨?_, by rw [put_size]; exact st'.size, by rw [put_defers']; exact st'.defers⟩ (f'.trans f2) ?_
        · rw [put_tmps]
          exact keep_put hkd st2 _
        · show (a'.put (some d) (.bool bl)).tmps.getD d undef = _
          rw [put_tmps]
          simp only [putTm]
          rw [getD_set _ _ _ _ hlt, if_pos rfl])
    rw [List.range_eq_range', show os.size = ops.length + 1 by have := congrArg List.length hdrop; simp at this hlen; omega, List.range'_concat]
    simpa using this
  | block id c1 ih1 =>
    intro k hk G ρ e h O r a w x e' h' st ht hv
    cases k <;> simp [chkCodeG] at hk
    obtain ⟨rfl, hk⟩ := hk
    simp only [ev] at hv
    obtain ⟨⟨x1, e1, h1⟩, hv1, hv2⟩ := pair_bind hv
    simp only [tokC, Option.map_eq_some_iff] at ht
    obtain ⟨r1, t1, t2⟩ := ht
    subst t2
    refine wp_block (wp_mono (ih1 _ hk G ρ e h O r1 a w x1 e1 h1 st t1 hv1) fun ex a' w' hp => ?_)
    obtain ⟨rfl, G', ρ', O', q1, q2, q3⟩ := hp
    cases hv2
    have fin : ∀ O2, (∀ k, k ∈ O2 → k ∈ O') → TEx.has ⟨joinX id r1.x r1.n, r1.x.filter fun k => k.1 != id⟩ ret (if x1 = .x id then .n else x1) O2 → Post n ret ⟨joinX id r1.x r1.n, r1.x.filter fun k => k.1 != id⟩ (if x1 = .x id then .n else x1) e1 h1 G ρ w (exR (if x1 = .x id then .n else x1)) a' w' := fun O2 hs hh => by
      obtain ⟨st2, f2⟩ := q2.less O2 hs
      exact ⟨rfl, G', _, O2, hh, st2, q3.trans f2⟩
    cases x1 with
    | n =>
      obtain ⟨O2, j1, j2⟩ := joinX_n id r1.x r1.n O' q1
      exact fin O2 j2 (by simpa [TEx.has] using j1)
    | r => exact fin O' (fun _ k => k) (by simpa [TEx.has] using q1)
    | x i =>
      by_cases e2 : i = id
      · subst e2
        obtain ⟨O2, j1, j2⟩ := joinX_x i r1.x r1.n O' q1
        have := fin O2 j2 (by simpa [TEx.has] using j1)
        simpa [exR, Exit.inBlock] using this
      · have hne : ¬ (Ex.x i = Ex.x id) := fun k => e2 (by injection k)
        have := fin O' (fun _ k => k) (by
          simp only [hne, if_false, TEx.has]
          exact List.mem_filter.2 ⟨q1, by simpa using e2⟩)
        simpa [exR, Exit.inBlock, e2] using this
  | loop keep own c1 ih1 =>
    intro k hk G ρ e h O r a w x e' h' st ht hv
    cases k <;> simp only [chkCodeG] at hk <;> try (cases hk; done)
    rename_i k1
    simp only [ev] at hv
    simp only [tokC] at ht
    split at ht
    case isFalse => cases ht
    rename_i hcond
    simp only [Bool.and_eq_true] at hcond
    obtain ⟨hsub, hkeep⟩ := hcond
    obtain ⟨r1, t1, t2⟩ := pair_bind ht
    have hr : r = ⟨none, r1.x⟩ ∧ ∀ O1, r1.n = some O1 → subO own O1 = true := by
      cases hn : r1.n with
      | none => rw [hn] at t2; simp at t2; exact ⟨t2.symm, by simp⟩
      | some O1 =>
        rw [hn] at t2
        simp only at t2
        split at t2
        · rename_i hs; cases t2; exact ⟨rfl, fun O2 e => by cases e; exact hs⟩
        · cases t2
    obtain ⟨rfl, hback⟩ := hr
    have rounds : ∀ (m : Nat) (G1 : Gh) (ρ1 : Rho) (e1 : Env) (h1 : Heap) (O1 : Own) (a1 : Act) (w1 : World), FSt n G1 ρ1 e1 h1 O1 a1 w1 → subO own O1 = true → Fr G ρ w G1 ρ1 w1 →
        iter (fun e h => ev C N c1 (e.keep keep) h) m e1 h1 = some (x, e', h') → Code.rounds P k1 (Post n ret ⟨none, r1.x⟩ x e' h' G ρ w) m a1 w1 := by
      intro m
      induction m with
      | zero => intro G1 ρ1 e1 h1 O1 a1 w1 _ _ _ hi; simp [iter] at hi
      | succ m ihm =>
        intro G1 ρ1 e1 h1 O1 a1 w1 st1 hs1 f1 hi
        simp only [iter] at hi
        obtain ⟨⟨x2, e2, h2⟩, hi1, hi2⟩ := pair_bind hi
        obtain ⟨st2, f2⟩ := keep_st st1.st keep
        obtain ⟨st3, f3⟩ := st2.less own (fun k hk => List.mem_filter.2 ⟨subO_mem hs1 k hk, List.all_eq_true.1 hkeep k hk⟩)
        rw [rounds_succ]
        refine wp_mono (ih1 k1 hk G1 _ (e1.keep keep) h1 own r1 a1 w1 x2 e2 h2 ⟨st3, st1.size, st1.defers⟩ t1 hi1) fun ex a' w' hp => ?_
        have ff := (f1.trans f2).trans f3
        cases x2 with
        | n =>
          obtain ⟨rfl, G', ρ', O', q1, q2, q3⟩ := hp
          exact ihm G' ρ' e2 h2 O' a' w' q2 (hback O' q1) (ff.trans q3) hi2
        | x i =>
          simp only at hi2
          cases hi2
          have hw := hp.weaken (r' := ⟨none, r1.x⟩) ff fun O3 h3 => ⟨O3, h3, fun _ k => k⟩
          obtain ⟨rfl, _⟩ := hp
          exact hw
        | r =>
          simp only at hi2
          cases hi2
          have hw := hp.weaken (r' := ⟨none, r1.x⟩) ff fun O3 h3 => ⟨O3, h3, fun _ k => k⟩
          obtain ⟨rfl, _⟩ := hp
          exact hw
    exact wp_loop_rounds N (rounds N G ρ e h O a w st hsub (.refl _ _ _) hv)
  | mloop pre it d1 d2 keep own id body c ihp ihb ihc =>
    intro k hk G ρ e h O r a w x e' h' st ht hv
    cases k <;> try (simp [chkCodeG] at hk; done)
    rename_i k1 kc
    cases k1 <;> try (simp [chkCodeG] at hk; done)
    rename_i kp k2
    cases k2 <;> try (simp [chkCodeG] at hk; done)
    rename_i i1 k3
    cases k3 <;> try (simp [chkCodeG] at hk; done)
    rename_i k4
    cases k4 <;> try (simp [chkCodeG] at hk; done)
    rename_i k5 k6
    cases k5 <;> try (simp [chkCodeG] at hk; done)
    rename_i R os draw
    cases draw <;> try (simp [chkCodeG] at hk; done)
    cases k6 <;> try (simp [chkCodeG] at hk; done)
    rename_i k7 kb
    cases k7 <;> try (simp [chkCodeG] at hk; done)
    rename_i cd ka kx
    cases cd <;> try (simp [chkCodeG] at hk; done)
    rename_i t
    cases ka <;> try (simp [chkCodeG] at hk; done)
    cases kx <;> try (simp [chkCodeG] at hk; done)
    rename_i i2
    simp only [chkCodeG, Bool.and_eq_true, beq_iff_eq, decide_eq_true_eq, bne_iff_ne] at hk
    obtain ⟨⟨⟨⟨⟨⟨⟨⟨⟨e1, e2⟩, e3⟩, hne⟩, hd1⟩, hd2⟩, hk1⟩, hk2⟩, hnx⟩, ⟨ck1, ck2⟩, ck3⟩ := hk
    subst e1 e2 e3
    have hk1 : d1 ∉ keep := by simpa using hk1
    have hk2 : t ∉ keep := by simpa using hk2
    simp only [ev] at hv
    obtain ⟨⟨x1, e1, h1⟩, hv1, hv2⟩ := pair_bind hv
    simp only [tokC] at ht
    obtain ⟨r0, t0, t1⟩ := pair_bind ht
    refine wp_seq (wp_seq (wp_mono (ihp kp ck1 G ρ e h O r0 a w x1 e1 h1 st t0 hv1) fun ex a1 w1 hp => ?_))
    have out : (x1 = x → e1 = e' → h1 = h' → x1 ≠ .n → Post n ret r x e' h' G ρ w ex a1 w1) := fun q1 q2 q3 q4 => by
      subst q1 q2 q3
      refine hp.weaken (.refl _ _ _) fun O3 h3 => ⟨O3, ?_, fun _ k => k⟩
      cases hn : r0.n with
      | none => rw [hn] at t1; cases t1; exact h3
      | some O1 =>
        rw [hn] at t1
        simp only at t1
        split at t1
        case isFalse => cases t1
        obtain ⟨r1, _, t3⟩ := pair_bind t1
        split at t3
        case isFalse => cases t3
        simp only [Option.map_eq_some_iff] at t3
        obtain ⟨r2, _, t4⟩ := t3
        subst t4
        cases x1 with
        | n => exact absurd rfl q4
        | x i => exact List.mem_append.2 (.inl h3)
        | r => exact h3
    cases x1 with
    | x i =>
      simp only at hv2
      cases hv2
      have := out rfl rfl rfl (by simp)
      obtain ⟨rfl, _⟩ := hp
      exact this
    | r =>
      simp only at hv2
      cases hv2
      have := out rfl rfl rfl (by simp)
      obtain ⟨rfl, _⟩ := hp
      exact this
    | n =>
      clear out
      obtain ⟨rfl, G1, ρ1, O1, q1, st1, f1⟩ := hp
      simp only at hv2
      have q1 : r0.n = some O1 := q1
      rw [q1] at t1
      simp only at t1
      split at t1
      case isFalse => cases t1
      rename_i hcond
      simp only [Bool.and_eq_true] at hcond
      obtain ⟨hsub, hkeep⟩ := hcond
      obtain ⟨r1, t2, t3⟩ := pair_bind t1
      split at t3
      case isFalse => cases t3
      rename_i hc2
      simp only [Bool.and_eq_true] at hc2
      obtain ⟨hback, hexit⟩ := hc2
      simp only [Option.map_eq_some_iff] at t3
      obtain ⟨r2, t4, t5⟩ := t3
      subst t5
      have hback : ∀ O2, r1.n = some O2 → subO own O2 = true := fun O2 e => by rw [e] at hback; exact hback
      have hexit : ∀ O3, (i2, O3) ∈ r1.x → subO own O3 = true := fun O3 e => by
        have := List.all_eq_true.1 hexit _ e
        simpa using this
      -- behind the loop
      have after : ∀ {G2 : Gh} {ρ2 : Rho} {e2 : Env} {h2 hm : Heap} {O2 : Own} {a2 : Act} {w2 : World}, FSt n G2 ρ2 e2 h2 O2 a2 w2 → subO own O2 = true → Fr G ρ w G2 ρ2 w2 → ev C N c (e2.keep keep) h2 = some (x, e', hm) → Weak hm h' →
          kc.wp P (Post n ret ⟨r2.n, r0.x ++ (r1.x.filter (fun k => k.1 != i2) ++ r2.x)⟩ x e' h' G ρ w) a2 w2 := by
        intro G2 ρ2 e2 h2 hm O2 a2 w2 st2 hs2 f2 hev hw
        obtain ⟨s3, f3⟩ := keep_st st2.st keep
        obtain ⟨s4, f4⟩ := s3.less own (fun k hk => List.mem_filter.2 ⟨subO_mem hs2 k hk, List.all_eq_true.1 hkeep k hk⟩)
        refine wp_mono (ihc kc ck3 G2 _ (e2.keep keep) h2 own r2 a2 w2 x e' hm ⟨s4, st2.size, st2.defers⟩ t4 hev) fun ex a' w' hp => ?_
        refine (hp.weak hw).weaken ((f2.trans f3).trans f4) fun O3 h3 => ⟨O3, ?_, fun _ k => k⟩
        cases x with
        | n => exact h3
        | x i => exact List.mem_append.2 (.inr (List.mem_append.2 (.inr h3)))
        | r => exact h3
      have rounds : ∀ (m : Nat) (G1 : Gh) (ρ1 : Rho) (e1 : Env) (h1 hm : Heap) (O1 : Own) (a1 : Act) (w1 : World), FSt n G1 ρ1 e1 h1 O1 a1 w1 → subO own O1 = true → Fr G ρ w G1 ρ1 w1 →
          mgo (fun e h => ((e.keep keep).get it).bind (picks h)) (fun e h => ev C N body (e.keep keep) h) (fun e h => ev C N c (e.keep keep) h) i2 m e1 h1 = some (x, e', hm) → Weak hm h' →
          Code.rounds P (.seq (.region R os false) (.seq (.cond (.tmp t) .skip (.exit i2)) kb)) (Exit.inBlock i2 (Exit.then (kc.wp P (Post n ret ⟨r2.n, r0.x ++ (r1.x.filter (fun k => k.1 != i2) ++ r2.x)⟩ x e' h' G ρ w)) (Post n ret ⟨r2.n, r0.x ++ (r1.x.filter (fun k => k.1 != i2) ++ r2.x)⟩ x e' h' G ρ w))) m a1 w1 := by
        intro m
        induction m with
        | zero => intro G1 ρ1 e1 h1 hm O1 a1 w1 _ _ _ hi; simp [mgo] at hi
        | succ m ihm =>
          intro G1 ρ1 e1 h1 hm O1 a1 w1 st1 hs1 f1 hi hw
          simp only [mgo] at hi
          obtain ⟨hs, hid, hi2⟩ := pair_bind hi
          obtain ⟨st2, f2⟩ := keep_st st1.st keep
          obtain ⟨st3, f3⟩ := st2.less own (fun k hk => List.mem_filter.2 ⟨subO_mem hs1 k hk, List.all_eq_true.1 hkeep k hk⟩)
          have st3 : FSt n G1 ((ρ1.only (keepOwn keep O1)).only own) (e1.keep keep) h1 own a1 w1 := ⟨st3, st1.size, st1.defers⟩
          have ff := (f1.trans f2).trans f3
          rw [rounds_succ]
          refine wp_seq (next_region hnx hd1 hd2 hne hk1 hk2 hkeep st3 hid ?_ ?_)
          · -- over
            intro h0 a2 s2 hb
            subst h0
            simp only [List.isEmpty_nil, if_true] at hi2
            refine wp_seq (wp_cond_false hb (wp_exit ?_))
            show Exit.inBlock i2 _ (.exit i2) a2 w1
            simp only [Exit.inBlock, if_true]
            show kc.wp P _ a2 w1
            have hkk : (e1.keep keep).keep keep = e1.keep keep := by
              clear hi2 s2 st3 hid
              exact keep_keep keep e1
            refine after s2 ?_ ff (by rw [hkk]; exact hi2) hw
            exact List.all_eq_true.2 fun k hk => by simpa using hk
          · -- one more
            intro h2 a2 w2 hmem s2 f4 hb
            have hne0 : hs.isEmpty = false := by
              cases hs with
              | nil => cases hmem
              | cons _ _ => rfl
            rw [hne0] at hi2
            simp only [Bool.false_eq_true, if_false] at hi2
            obtain ⟨hi', hj1, hj2⟩ := joinAll_some _ hi2 _ (List.mem_map.2 ⟨h2, hmem, rfl⟩)
            obtain ⟨⟨x3, e3, h3⟩, hb1, hb2⟩ := pair_bind hj1
            have hkk : (e1.keep keep).keep keep = e1.keep keep := keep_keep keep e1
            refine wp_seq (wp_cond_true hb (wp_skip ?_))
            show kb.wp P _ a2 w2
            refine wp_mono (ihb kb ck2 G1 _ (e1.keep keep) h2 own r1 a2 w2 x3 e3 h3 s2 t2 hb1) fun ex a' w' hp => ?_
            have fff := ff.trans f4
            cases x3 with
            | n =>
              obtain ⟨rfl, G', ρ', O', p1, p2, p3⟩ := hp
              exact ihm G' ρ' e3 h3 hi' O' a' w' p2 (hback O' p1) (fff.trans p3) hb2 (hj2.trans hw)
            | x i =>
              simp only at hb2
              by_cases hie : i = i2
              · subst hie
                rw [if_pos rfl] at hb2
                obtain ⟨rfl, G', ρ', O', p1, p2, p3⟩ := hp
                show Exit.inBlock i _ (.exit i) a' w'
                simp only [Exit.inBlock, if_true]
                show kc.wp P _ a' w'
                exact after p2 (hexit O' p1) (fff.trans p3) hb2 (hj2.trans hw)
              · rw [if_neg hie] at hb2
                cases hb2
                obtain ⟨rfl, G', ρ', O', p1, p2, p3⟩ := hp
                show Exit.inBlock i2 _ (.exit i) a' w'
                simp only [Exit.inBlock, if_neg hie]
                show Post n ret _ (.x i) _ _ G ρ w (.exit i) a' w'
                have hq : Post n ret r1 (.x i) e' hi' G1 _ w2 (.exit i) a' w' := ⟨rfl, G', ρ', O', p1, p2, p3⟩
                refine (hq.weak (hj2.trans hw)).weaken fff fun O3 h3 => ⟨O3, ?_, fun _ k => k⟩
                exact List.mem_append.2 (.inr (List.mem_append.2 (.inl (List.mem_filter.2 ⟨h3, by simpa using hie⟩))))
            | r =>
              simp only at hb2
              cases hb2
              obtain ⟨rfl, G', ρ', O', p1, p2, p3⟩ := hp
              show Post n ret _ .r _ _ G ρ w .ret a' w'
              have hq : Post n ret r1 .r e' hi' G1 _ w2 .ret a' w' := ⟨rfl, G', ρ', O', p1, p2, p3⟩
              exact (hq.weak (hj2.trans hw)).weaken fff fun O3 h3 => ⟨O3, h3, fun _ k => k⟩
      exact wp_block (wp_loop_rounds N (rounds N G1 ρ1 e1 h1 h' O1 a1 w1 st1 hsub f1 hv2 (.refl _)))
end
end Ev

/-! Ew, part Bi: slices.Insert where the elements do not come behind all others: both ways, with room and without. -/
namespace Ev
open Go

theorem wrapI {x : Int} (h1 : -9223372036854775808 ≤ x) (h2 : x < 9223372036854775808) : IntKind.i64.wrap x = x := by
  simp [IntKind.wrap, IntKind.bits, IntKind.signed]; omega
theorem rowLt {h : Heap} {b : Nat} {cs : List V} (hr : h.row b = some cs) : b < h.length := by
  unfold Heap.row at hr
  cases hh : h[b]? with
  | none => simp [hh] at hr
  | some z => exact (List.getElem?_eq_some_iff.1 hh).1
theorem rowApp {h J : Heap} {b : Nat} (hb : b < h.length) : Heap.row (h ++ J) b = h.row b := by unfold Heap.row; rw [List.getElem?_append_left hb]
theorem rowEnd {h : Heap} {o : Option (List V)} : Heap.row (h ++ [o]) h.length = o := by simp [Heap.row]
theorem rowSet {h : Heap} {b : Nat} {o : Option (List V)} (hb : b < h.length) : Heap.row (h.set b o) b = o := by simp [Heap.row, hb]
section
variable {T : Table} (ks : List Kt) (ops : List AOpr) (K : Kp) (e : Env) (h : Heap) (Q : Ex → Env → Heap → Prop)
theorem Xo_capv (d : Option Nat) (x : A) : Xo T (⟨d, .capv x, none⟩ :: ops) K ks e h Q = Xr T (ap1 capV (x.ev e) h) d ops (K.push e h) ks e Q := by
  rw [Xo_q ks ops K e h Q fun C => rfl]
  congr 1
  all_goals rfl
theorem Xo_ovl (d : Option Nat) (s : Nat) (x y : A) : Xo T (⟨d, .ovl s x y, none⟩ :: ops) K ks e h Q = Xr T (ap2 (ovlV h s) (x.ev e) (y.ev e) h) d ops (K.push e h) ks e Q := by
  rw [Xo_q ks ops K e h Q fun C => rfl]
  congr 1
  all_goals rfl
theorem Xo_appz (d : Option Nat) (s bytes : Nat) (z : List V) (x y : A) : Xo T (⟨d, .appz s bytes z x y, none⟩ :: ops) K ks e h Q = Xr T (ap2h (appZ h s bytes z) (x.ev e) (y.ev e)) d ops (K.push e h) ks e Q := by
  rw [Xo_q ks ops K e h Q fun C => rfl]
  congr 1
  all_goals rfl
end
def T0 : Table := fun _ => none
/-- What is laid out of a row's elements and new ones. -/
def laidC (s off i : Nat) (cs : List V) (xs : List V) : List V := (cs.drop off).take (i * s) ++ flat xs ++ (cs.drop off).drop (i * s)
def insEnv (s b off n cap i : Nat) (xs : List V) : Env := [(0, .hc s b off n cap), (1, .int .i64 i), (2, .ps s xs), (7, .int .i64 xs.length), (8, .int .i64 n)]
section
variable (s bytes : Nat) (z : List V) (fo : Nat) {h : Heap} {b off n cap i : Nat} {xs cs : List V}
variable (hrow : h.row b = some cs) (hend : off + n * s = cs.length) (hxs : (flat xs).length = xs.length * s) (hx0 : 0 < xs.length) (hi : i < n) (hnc : n ≤ cap) (hs : 0 < s) (hby : 0 < bytes) (hz : z.length = s) (hb : (cs.length + (flat xs).length) * bytes ≤ 140737488355328)
include hrow hend hxs hx0 hi hnc hs hby hz hb
theorem insA (hcap : cap < n + xs.length) : Xc T0 (insT s bytes z fo) [] (insEnv s b off n cap i xs) h fun x e h' => x = .r ∧ e = [(6, .hs s h.length 0 (n + xs.length))] ∧ h' = h ++ [some (laidC s off i cs xs)] := by
  have hcl : cs.length + (flat xs).length ≤ 140737488355328 := Nat.le_trans (Nat.le_mul_of_pos_right _ hby) hb
  have hn1 : n ≤ n * s := Nat.le_mul_of_pos_right _ hs
  have hx1 : xs.length ≤ xs.length * s := Nat.le_mul_of_pos_right _ hs
  have e1 : (cap : Int) < n + xs.length := by omega
  have e2 : ((n : Int) + xs.length - i).toNat = n + xs.length - i := by omega
  have b1 : (n + xs.length) * bytes ≤ 140737488355328 := Nat.le_trans (Nat.mul_le_mul_right _ (by omega)) hb
  have his : i * s + (n - i) * s = n * s := by rw [← Nat.add_mul]; congr 1; omega
  have hns : (n + xs.length - i) * s = (n - i) * s + xs.length * s := by rw [← Nat.add_mul]; congr 1; omega
  obtain ⟨X, hX⟩ : ∃ X, X = cs.drop off := ⟨_, rfl⟩
  have hXl : X.length = n * s := by rw [hX, List.length_drop]; omega
  have hA : hsCells h s b off i = some (X.take (i * s)) := by
    unfold hsCells
    rw [hrow, Option.bind_some, if_pos (by omega), ← hX]
  have hB : hsCells (h ++ [some (X.take (i * s) ++ repZ (n + xs.length - i) z)]) s b off i = some (X.take (i * s)) := by
    unfold hsCells at hA ⊢
    rw [rowApp (rowLt hrow)]
    exact hA
  obtain ⟨R, hR⟩ : ∃ R, R = X.take (i * s) ++ repZ (n + xs.length - i) z := ⟨_, rfl⟩
  have hRl : R.length = (n + xs.length) * s := by
    rw [hR, List.length_append, List.length_take, repZ, List.length_map, List.length_range, hz, hns, hXl, Nat.add_mul]
    omega
  have hnl : (n + xs.length) * s = n * s + xs.length * s := Nat.add_mul _ _ _
  have hil : (i + xs.length) * s = i * s + xs.length * s := Nat.add_mul _ _ _
  have q1 : ∀ (l : Nat) (k : IntKind), l < n + xs.length → slV (.sl s) (.hs s h.length 0 (n + xs.length)) (some (.int k l)) none none = some (.hs s h.length (l * s) (n + xs.length - l)) := fun l k hl => by
    have c1 : ¬ (n + xs.length - l = 0) := by omega
    simp [slV, bndO, bndV, c1]
    rw [if_pos (by omega), Option.bind_some, if_neg c1]
  have q2 := q1 i .i64 (by omega)
  have q3 := q1 (i + xs.length) .i64 (by omega)
  rw [Int.natCast_add] at q3
  have ci : (i : Int) < n := by omega
  have dv : xs.length * s / s = xs.length := Nat.mul_div_cancel _ hs
  have cp1 : copyV (h ++ [some R]) s (.hs s h.length (i * s) (n + xs.length - i)) (.ps s xs) = some (.int .i64 (xs.length : Nat), h ++ [some (spliceL R (i * s) (flat xs))]) := by
    unfold copyV copySrc
    have mm : min xs.length (n + xs.length - i) = xs.length := by omega
    simp [newCells, rowEnd, hxs, mm, dv]
    refine ⟨by omega, ?_, ?_⟩
    · exact_mod_cast dv
    · rw [List.take_of_length_le (by omega)]
  have cp2 : copyV (h ++ [some (spliceL R (i * s) (flat xs))]) s (.hs s h.length ((i + xs.length) * s) (n + xs.length - (i + xs.length))) (.hs s b (off + i * s) (n - i)) = some (.int .i64 (n - i : Nat), h ++ [some (laidC s off i cs xs)]) := by
    have dv2 : (n - i) * s / s = n - i := Nat.mul_div_cancel _ hs
    have mn : min (n - i) (n + xs.length - (i + xs.length)) = n - i := by omega
    have src : hsCells (h ++ [some (spliceL R (i * s) (flat xs))]) s b (off + i * s) (n - i) = some (X.drop (i * s)) := by
      unfold hsCells
      rw [rowApp (rowLt hrow), hrow, Option.bind_some, if_pos (by omega), ← List.drop_drop, ← hX, List.take_of_length_le (by rw [List.length_drop]; omega)]
    have sp : spliceL (spliceL R (i * s) (flat xs)) ((i + xs.length) * s) (X.drop (i * s)) = laidC s off i cs xs := by
      have t1 : R.take (i * s) = X.take (i * s) := by
        rw [hR, List.take_append_of_le_length (by rw [List.length_take]; omega), List.take_take, Nat.min_self]
      have l1 : (X.take (i * s) ++ flat xs).length = (i + xs.length) * s := by rw [List.length_append, List.length_take]; omega
      have l2 : (spliceL R (i * s) (flat xs)).length = R.length := by simp [spliceL, List.length_drop]; omega
      have l3 : (X.drop (i * s)).length = (n - i) * s := by rw [List.length_drop]; omega
      have t2 : (spliceL R (i * s) (flat xs)).take ((i + xs.length) * s) = X.take (i * s) ++ flat xs := by
        rw [spliceL, t1, List.take_append_of_le_length (by omega), List.take_of_length_le (by omega)]
      obtain ⟨Y, hY⟩ : ∃ Y, Y = spliceL R (i * s) (flat xs) := ⟨_, rfl⟩
      rw [← hY] at t2 l2 ⊢
      unfold laidC spliceL
      have t3 : Y.drop ((i + xs.length) * s + (X.drop (i * s)).length) = [] := List.drop_of_length_le (by omega)
      rw [t2, t3, ← hX, List.append_nil]
    unfold copyV copySrc
    have l4 : (spliceL R (i * s) (flat xs)).length = R.length := by simp [spliceL, List.length_drop]; omega
    have l5 : (X.drop (i * s)).length = (n - i) * s := by rw [List.length_drop]; omega
    simp [rowEnd, mn, src, sp, dv2, l4, l5]
    exact ⟨by omega, by exact_mod_cast dv2⟩
  have q0 : slV (.sl s) (.hc s b off n cap) none (some (.int .i64 i)) none = some (.hc s b off i cap) := by
    simp [slV]
    omega
  have q4 : slV (.sl s) (.hc s b off n cap) (some (.int .i64 i)) none none = some (.hs s b (off + i * s) (n - i)) := by
    simp [slV]
    omega
  unfold insT insEnv
  simp (disch := omega) [Xo_capv, Xo_ovl, Xo_appz, capV, e1, q0, appZ, hz, e2, hcap, b1, hA, ← hR, q2, q3, q4, cp1, cp2]
omit hnc in
theorem insB (hcap : n + xs.length ≤ cap) (him : i + xs.length ≤ n) : Xc T0 (insT s bytes z fo) [] (insEnv s b off n cap i xs) h fun x e h' => x = .r ∧ e = [(6, .hc s b off (n + xs.length) cap)] ∧ h' = h.set b (some (cs.take off ++ laidC s off i cs xs)) := by
  have hcl : cs.length + (flat xs).length ≤ 140737488355328 := Nat.le_trans (Nat.le_mul_of_pos_right _ hby) hb
  have hn1 : n ≤ n * s := Nat.le_mul_of_pos_right _ hs
  have hx1 : xs.length ≤ xs.length * s := Nat.le_mul_of_pos_right _ hs
  have e1 : ¬ ((cap : Int) < n + xs.length) := by omega
  have his : i * s + (n - i) * s = n * s := by rw [← Nat.add_mul]; congr 1; omega
  have hnl : (n + xs.length) * s = n * s + xs.length * s := Nat.add_mul _ _ _
  have hil : (i + xs.length) * s = i * s + xs.length * s := Nat.add_mul _ _ _
  have hin : (i + xs.length) * s ≤ n * s := Nat.mul_le_mul_right _ him
  obtain ⟨X, hX⟩ : ∃ X, X = cs.drop off := ⟨_, rfl⟩
  have hXl : X.length = n * s := by rw [hX, List.length_drop]; omega
  have dv : xs.length * s / s = xs.length := Nat.mul_div_cancel _ hs
  have dv2 : (n - i) * s / s = n - i := Nat.mul_div_cancel _ hs
  have q1 : slV (.sl s) (.hc s b off n cap) none (some (.int .i64 (n + xs.length))) none = some (.hc s b off (n + xs.length) cap) := by
    simp [slV]
    omega
  have q2 : slV (.sl s) (.hc s b off (n + xs.length) cap) (some (.int .i64 i)) none none = some (.hs s b (off + i * s) (n + xs.length - i)) := by
    simp [slV]
    omega
  have q3 : slV (.sl s) (.hc s b off (n + xs.length) cap) (some (.int .i64 (i + xs.length))) none none = some (.hs s b (off + (i + xs.length) * s) (n + xs.length - (i + xs.length))) := by
    have c : ((i : Int) + xs.length).toNat = i + xs.length := by omega
    simp [slV, c]
    omega
  have ov : ovlV h s (.ps s xs) (.hs s b (off + (i + xs.length) * s) (n + xs.length - (i + xs.length))) = some (.bool false) := by
    obtain ⟨k, hk⟩ : ∃ k, n + xs.length - (i + xs.length) = k + 1 := ⟨n - i - 1, by omega⟩
    rw [hk]
    cases xs with
    | nil => cases hx0
    | cons x r => simp [ovlV, hrow]
  have src : hsCells h s b (off + i * s) (n - i) = some (X.drop (i * s)) := by
    unfold hsCells
    rw [hrow, Option.bind_some, if_pos (by omega), ← List.drop_drop, ← hX, List.take_of_length_le (by rw [List.length_drop]; omega)]
  have mn : min (n + xs.length - i) (n + xs.length - (i + xs.length)) = n - i := by omega
  have l5 : (X.drop (i * s)).length = (n - i) * s := by rw [List.length_drop]; omega
  have cp1 : copyV h s (.hs s b (off + (i + xs.length) * s) (n + xs.length - (i + xs.length))) (.hs s b (off + i * s) (n + xs.length - i)) = some (.int .i64 (n - i : Nat), h.set b (some (spliceL cs (off + (i + xs.length) * s) (X.drop (i * s))))) := by
    unfold copyV copySrc
    simp [hrow, mn, src, l5]
    exact ⟨by omega, by exact_mod_cast dv2⟩
  have cp2 : copyV (h.set b (some (spliceL cs (off + (i + xs.length) * s) (X.drop (i * s))))) s (.hs s b (off + i * s) (n + xs.length - i)) (.ps s xs) = some (.int .i64 (xs.length : Nat), h.set b (some (cs.take off ++ laidC s off i cs xs))) := by
    have mm : min xs.length (n + xs.length - i) = xs.length := by omega
    have sp : spliceL (spliceL cs (off + (i + xs.length) * s) (X.drop (i * s))) (off + i * s) (flat xs) = cs.take off ++ laidC s off i cs xs := by
      have t0 : spliceL cs (off + (i + xs.length) * s) (X.drop (i * s)) = cs.take (off + (i + xs.length) * s) ++ X.drop (i * s) := by
        have t : cs.drop (off + (i + xs.length) * s + (X.drop (i * s)).length) = [] := List.drop_of_length_le (by omega)
        unfold spliceL
        rw [t, List.append_nil]
      have t1 : (cs.take (off + (i + xs.length) * s)).length = off + (i + xs.length) * s := by rw [List.length_take]; omega
      rw [t0]
      unfold spliceL
      have t2 : (cs.take (off + (i + xs.length) * s) ++ X.drop (i * s)).take (off + i * s) = cs.take off ++ X.take (i * s) := by
        rw [List.take_append_of_le_length (by omega), List.take_take, Nat.min_eq_left (by omega), List.take_add, ← hX]
      have t3 : (cs.take (off + (i + xs.length) * s) ++ X.drop (i * s)).drop (off + i * s + (flat xs).length) = X.drop (i * s) := by
        rw [show off + i * s + (flat xs).length = (cs.take (off + (i + xs.length) * s)).length by omega, List.drop_left]
      rw [t2, t3]
      unfold laidC
      rw [← hX]
      simp [List.append_assoc]
    have l6 : (spliceL cs (off + (i + xs.length) * s) (X.drop (i * s))).length = off + (i + xs.length) * s + (n - i) * s := by
      simp [spliceL, l5]
      omega
    unfold copyV copySrc
    simp [newCells, rowSet (rowLt hrow), mm, dv, hxs, l6]
    refine ⟨by omega, by exact_mod_cast dv, ?_⟩
    rw [List.take_of_length_le (by omega), sp]
  unfold insT insEnv
  simp (disch := omega) [Xo_capv, Xo_ovl, Xo_appz, capV, e1, q1, q2, q3, ov, cp1, cp2]
end
theorem run_T0 (n : Nat) (f : Nat) (vs : List V) (h : Heap) : run T0 n f vs h = none := by cases n <;> rfl
theorem calls_T0 (P : Program) (n : Nat) : CallsOk P T0 ⟨run T0 n, T0.free⟩ := by
  refine ⟨fun f hf => ?_, fun f vs h v h' hv => ?_⟩
  · simp [Table.free, T0] at hf
  · simp only [run_T0] at hv
    cases hv
theorem tok_insT (s bytes : Nat) (z : List V) (fo : Nat) {ret : Own → Bool} (hr : ret [] = true) : ∃ r, tokC (fun _ => none) ret (insT s bytes z fo) [] = some r := by
  unfold insT
  simp [tokC, hr, tokOprs, tokOpr, tokOp, dropSlot, nilSl, keepOwn, ownAt, subO, joinN, joinO]
/-- SLICES.INSERT DOES WHAT IT SHALL. -/
theorem ins_ok {P : Program} {n : Nat} {ret : Own → Bool} (hm : P.follows .mixedOrders = true) {s bytes : Nat} {z : List V} {fo : Nat} {k : Code} (hk : chkIns P n s bytes z fo k = true) : InsOk P n ret s bytes k := by
  intro G ρ e h O a w x e' h' st hret hv
  simp only [chkIns, Bool.and_eq_true, decide_eq_true_eq] at hk
  obtain ⟨⟨⟨hs, hby⟩, hz⟩, hk⟩ := hk
  unfold insE at hv
  simp only [Option.bind_eq_some_iff] at hv
  obtain ⟨x0, g0, i0, g1, v0, g2, m0, g7, n0, g8, ⟨v, h1⟩, hv, hx⟩ := hv
  cases hx
  unfold insV at hv
  split at hv
  case h_2 => cases hv
  rename_i s1 b off len i s2 xs m nn
  split at hv
  case isFalse => cases hv
  rename_i hc
  obtain ⟨rfl, rfl, rfl, hm0, rfl, hi0, him⟩ := hc
  simp only [Option.bind_eq_some_iff] at hv
  obtain ⟨cs, hrow, hv⟩ := hv
  split at hv
  case isFalse => cases hv
  rename_i hc
  obtain ⟨hend, hb⟩ := hc
  cases hv
  obtain ⟨i, rfl⟩ : ∃ j : Nat, i = j := ⟨i.toNat, by omega⟩
  simp only [Int.toNat_natCast]
  have hrs := st.st.env.get _ _ g0
  obtain ⟨u0, hu0⟩ : ∃ u, u = a.tmps.getD 0 undef := ⟨_, rfl⟩
  rw [← hu0] at hrs
  cases hrs with
  | hs _ _ _ _ cap r lo hi hg hh hcap =>
  have hxl : ∀ x ∈ xs, x.cells.length = s2 := by
    have := st.st.env.get _ _ g2
    generalize a.tmps.getD 2 undef = u2 at this
    cases this with
    | ps0 s p => simp
    | ps r o n cap s xs u hn hc hs h k => exact hs
  have hxs : (flat xs).length = xs.length * s2 := flat_length s2 _ hxl
  obtain ⟨st1, f1⟩ := st.less [] (fun _ k => by cases k)
  have st2 : FSt n G (ρ.only []) (insEnv s2 b off len cap i xs) h [] a w := by
    refine ⟨⟨⟨fun j v hv => ?_, st.st.env.gl⟩, st1.st.mem, fun s c hsc => (by cases hsc), st1.st.non⟩, st.size, st.defers⟩
    unfold insEnv at hv
    simp only [Env.get, List.find?] at hv
    split at hv
    · subst_vars; cases hv; rw [← hu0]; exact .hc _ _ _ _ _ r lo hi hg hh hcap
    split at hv
    · subst_vars; cases hv; exact st.st.env.get _ _ g1
    split at hv
    · subst_vars; cases hv; exact st.st.env.get _ _ g2
    split at hv
    · subst_vars; cases hv; exact st.st.env.get _ _ g7
    split at hv
    · subst_vars; cases hv; exact st.st.env.get _ _ g8
    cases hv
  obtain ⟨rT, hT⟩ := tok_insT s2 bytes z fo hret
  have hbl := rowLt hrow
  have run {Q : Ex → Env → Heap → Prop} (hx : Xc T0 (insT s2 bytes z fo) [] (insEnv s2 b off len cap i xs) h Q) (hq : ∀ x e h', Q x e h' → ∀ ex a' w', Post n ret rT x e h' G (ρ.only []) w ex a' w' → Post n ret ⟨none, []⟩ .r [(6, .hs s2 h.length 0 (len + xs.length))] (h.set b none ++ [some (laidC s2 off i cs xs)]) G ρ w ex a' w') :
      k.wp P (Post n ret ⟨none, []⟩ .r [(6, .hs s2 h.length 0 (len + xs.length))] (h.set b none ++ [some (laidC s2 off i cs xs)]) G ρ w) a w := by
    obtain ⟨N, x, e1, h1, hev, hQ⟩ := hx
    exact wp_mono (code_sound (sig := fun _ => none) (T := T0) (C := ⟨run T0 N, T0.free⟩) hm (calls_T0 P N) (fun f af hf => by cases hf) (fun f ps rs hf => by cases hf) N (I := fun _ _ _ _ _ => false) (fun _ _ _ _ _ hI => by cases hI) _ k hk G _ _ h [] rT a w x e1 h1 st2 hT hev) (fun ex a' w' hp => hq _ _ _ hQ ex a' w' hp)
  by_cases hroom : len + xs.length ≤ cap
  · refine run (insB s2 bytes z fo hrow hend hxs (by omega) (by omega) hs hby hz hb hroom (by omega)) ?_
    rintro x e1 h1 ⟨rfl, rfl, rfl⟩ ex a' w' ⟨he, G', ρ', O', hO, fs, fr⟩
    have h6 := fs.st.env.get 6 (.hc s2 b off (len + xs.length) cap) rfl
    obtain ⟨u6, hu6⟩ : ∃ u, u = a'.tmps.getD 6 undef := ⟨_, rfl⟩
    rw [← hu6] at h6
    cases h6 with
    | hc _ _ _ _ _ r lo hi hg hh hcap =>
    have hXl : (cs.drop off).length = len * s2 := by rw [List.length_drop]; omega
    have hil : i * s2 ≤ len * s2 := Nat.mul_le_mul_right _ (by omega)
    have hll : (laidC s2 off i cs xs).length = (len + xs.length) * s2 := by
      unfold laidC
      rw [List.length_append, List.length_append, List.length_take, List.length_drop (i := i * s2), hXl, hxs, Nat.add_mul]
      omega
    have hcm : (len + xs.length) * s2 ≤ cap * s2 := Nat.mul_le_mul_right _ hcap
    obtain ⟨r', lo', hi', us, q1, q2, q3, q4, q5, q6⟩ := blkRow fs.st.mem (rowSet hbl) ⟨_, hg⟩
    rw [hg] at q1
    cases q1
    have tl : (cs.take off).length = off := by rw [List.length_take]; omega
    have hd : (cs.take off ++ laidC s2 off i cs xs).drop off = laidC s2 off i cs xs := by
      conv => lhs; arg 1; rw [← tl]
      rw [List.drop_left]
    have q4' := q4.drop off
    rw [hd] at q4'
    obtain ⟨m1, g1⟩ := fs.st.mem.rebind hg q2 (lo + off) (by omega) (laidC s2 off i cs xs) (us.drop off) q4' (q5.drop off) (fun u hu => q6 u (List.mem_of_mem_drop hu)) (by omega)
    rw [List.set_set, List.length_set] at m1
    rw [List.length_set] at g1
    refine ⟨he, _, _, O', hO, ⟨⟨⟨fun j v hv => ?_, fs.st.env.gl.mono g1.le⟩, m1, fun s c hsc => ?_, fun s c hsc => ?_⟩, fs.size, fs.defers⟩, (f1.trans fr).trans g1⟩
    · simp only [Env.get, List.find?] at hv
      split at hv
      · rename_i hj
        have hj : 6 = j := by simpa using hj
        subst hj
        cases hv
        rw [← hu6]
        have := Rel.hs (G := G'.addReg h.length (r, lo + off, hi)) s2 h.length 0 (len + xs.length) cap r (lo + off) hi (by simp [Gh.addReg]) (by omega) hcap
        simpa using this
      · cases hv
    · obtain ⟨u, v, x, k1, k2, k3, k4⟩ := fs.st.own s c hsc
      simp only [Env.get, List.find?] at k2
      split at k2
      · rename_i hj
        have hj : 6 = s := by simpa using hj
        subst hj
        cases k2
        cases c with
        | zero =>
          cases k3
          refine ⟨u, _, _, k1, rfl, rfl, ?_⟩
          rw [show ((ρ'.set (.blk b) none).set (.blk h.length) (some (r, lo + off, hi))) (.key 6 0) = ρ' (.key 6 0) by simp [Rho.set]]
          cases u <;> first | exact k4.elim | (rename_i p _ _; cases p <;> exact k4)
        | succ c => cases k3
      · cases k2
    · have := fs.st.non s c hsc
      simpa [Rho.set] using this
  · refine run (insA s2 bytes z fo hrow hend hxs (by omega) (by omega) hcap hs hby hz hb (by omega)) ?_
    rintro x e1 h1 ⟨rfl, rfl, rfl⟩ ex a' w' ⟨he, G', ρ', O', hO, fs, fr⟩
    obtain ⟨m1, g1⟩ := fs.st.mem.kill b
    refine ⟨he, G', ρ'.set (.blk b) none, O', hO, ⟨⟨fs.st.env, ?_, fun s c hsc => ?_, fun s c hsc => ?_⟩, fs.size, fs.defers⟩, (f1.trans fr).trans g1⟩
    · rw [List.set_append_left _ _ hbl] at m1
      exact m1
    · have := fs.st.own s c hsc
      simpa [OwnAt, Rho.set] using this
    · have := fs.st.non s c hsc
      simpa [Rho.set] using this
theorem Xc_ins {T : Table} (s bytes : Nat) (z : List V) (fo : Nat) (ks : List Kt) (e : Env) (h : Heap) (Q : Ex → Env → Heap → Prop) : Xc T (.ins s bytes z fo) ks e h Q = opt (insE s bytes e h) fun r => Xk T ks r.1 r.2.1 r.2.2 Q :=
  propext ⟨fun ⟨_, x, e', h', hr, hk⟩ => ⟨(x, e', h'), hr, hk⟩, fun ⟨(x, e', h'), hr, hk⟩ => ⟨0, x, e', h', hr, hk⟩⟩
theorem insV_at {h : Heap} {s bytes b off n i : Nat} {xs cs : List V} (hrow : h.row b = some cs) (hend : off + n * s = cs.length) (hx0 : 0 < xs.length) (him : i + xs.length ≤ n) (hb : (cs.length + (flat xs).length) * bytes ≤ 140737488355328) :
    insV h s bytes (.hs s b off n) (.int .i64 i) (.ps s xs) (.int .i64 xs.length) (.int .i64 n) = some (.hs s h.length 0 (n + xs.length), h.set b none ++ [some (laidC s off i cs xs)]) := by
  simp only [insV, hrow, Option.bind_some]
  rw [if_pos ⟨trivial, trivial, trivial, by omega, trivial, by omega, by omega⟩, if_pos ⟨hend, hb⟩]
  rfl
end Ev

/-! Ew, part C: functions. -/
namespace Ev
open Go

def chkRes (P : Program) : List RV → List ResultVar → Bool
  | [], [] => true
  | .t i :: r, .tmp j :: q => i == j && chkRes P r q
  | .c i sz :: r, .cell j t :: q => i == j && ldOk P t sz && chkRes P r q
  | _, _ => false

/-- Where the part of a result lies that is owned. -/
def resKey (res : List RV) (c : Nat) : Option (Nat × Nat) :=
  match res, c with
  | [.t s], 0 => some (s, 0)
  | [_], _ => none
  | rs, c + 1 => match rs[c]? with
    | some (.t s) => some (s, 0)
    | _ => none
  | _, 0 => none
def resIx (res : List RV) (c : Nat) : Nat :=
  match res, c with
  | [_], _ => 0
  | _, c + 1 => c
  | _, 0 => 0

def nodup : List (Option (Nat × Nat)) → Bool
  | [] => true
  | x :: r => !r.contains x && nodup r

def retChk (af : AFunc) (O : Own) : Bool :=
  af.ownR.all (fun c => (match resKey af.res c with | some k => O.contains k | none => false) && (af.frz.lookup (resIx af.res c)).isNone) && nodup (af.ownR.map (resKey af.res))

/-- THE CHECK OF ONE FUNCTION. -/
def chkFunc (P : Program) (sig : Sig) (f : Nat) (af : AFunc) : Bool :=
  match P.funcs[f]? with
  | some fn => (match fn.body with
    | some code => fn.name != "runtime.NumGoroutine" && decide (af.ntmps ≤ fn.ntmps) && chkRes P af.res fn.results.toList && chkCode P sig af.ntmps af.code code &&
      (match tokC sig (retChk af) af.code (af.ownP.map fun p => (p, 0)) with
      | some r => (match r.n with | some O => retChk af O | none => true)
      | none => false)
    | none => false)
  | none => false

section
variable {P : Program} {G : Gh} {ρ : Rho} {h : Heap} {w : World} {e : Env}

def resOne (tm : Array Value) : ResultVar → Sem Value
  | .tmp t => pure (tm.getD t undef)
  | .cell b t => do loadVar t (← asAddr (tm.getD b undef))
theorem results_eq (fn : Func) (tm : Array Value) : results fn tm = (do
    let vs ← fn.results.mapM (resOne tm)
    pure (if h : vs.size = 1 then vs[0] else .tuple vs)) := rfl

theorem res_run {a : Act} (m : Mem G h ρ w) (he : EnvRel G a.tmps e) : ∀ (rs : List RV) (qs : List ResultVar) (vs : List V), chkRes P rs qs = true → resVs e h rs = some vs →
    ∃ us, (qs.mapM (resOne a.tmps)).run P w = .ok us w ∧ Rels G us vs
  | [], [], vs, _, hv => by simp [resVs] at hv; subst hv; exact ⟨[], by simp, .nil⟩
  | [], _ :: _, _, hc, _ => by simp [chkRes] at hc
  | _ :: _, [], _, hc, _ => by rename_i r _ _; cases r <;> simp [chkRes] at hc
  | .t i :: rs, q :: qs, vs, hc, hv => by
    cases q with
    | cell b t => simp [chkRes] at hc
    | tmp j =>
      simp [chkRes] at hc
      obtain ⟨rfl, hc⟩ := hc
      simp only [resVs, resV, Option.bind_eq_some_iff] at hv
      obtain ⟨v, h1, vs', h2, h3⟩ := hv
      cases h3
      obtain ⟨us, hr, hu⟩ := res_run m he rs qs vs' hc h2
      refine ⟨a.tmps.getD i undef :: us, ?_, .cons (he i v h1) hu⟩
      rw [List.mapM_cons]
      simp only [Sem.run_bind, resOne, Sem.run_pure, Result.andThen_ok, hr]
  | .c i sz :: rs, q :: qs, vs, hc, hv => by
    cases q with
    | tmp j => simp [chkRes] at hc
    | cell j t =>
      simp only [chkRes, Bool.and_eq_true, beq_iff_eq] at hc
      obtain ⟨⟨rfl, hld⟩, hc⟩ := hc
      simp only [resVs, resV, Option.bind_eq_some_iff] at hv
      obtain ⟨v, ⟨p, h0, h1⟩, vs', h2, h3⟩ := hv
      cases h3
      obtain ⟨us, hr, hu⟩ := res_run m he rs qs vs' hc h2
      obtain ⟨u, hru, hrel⟩ := load_sound (P := P) m hld (he i p h0) h1
      refine ⟨u :: us, ?_, .cons hrel hu⟩
      rw [List.mapM_cons]
      have : ∃ ad, a.tmps.getD i undef = .pointer (some ad) := by
        have rp := he i p h0
        generalize a.tmps.getD i undef = q at rp
        cases p <;> try (simp [loadV] at h1; done)
        · cases rp; exact ⟨_, rfl⟩
        · cases rp; exact ⟨_, rfl⟩
      obtain ⟨ad, had⟩ := this
      rw [had] at hru
      simp only [Instr.loadAt, Instr.sureAddr, pure_bind] at hru
      simp only [resOne, had, asAddr, pure_bind, Sem.run_bind, hru, Result.andThen_ok, hr, Sem.run_pure]

/-- Owners under other names. -/
theorem Mem.map (m : Mem G h ρ w) (ρ2 : Rho) (σ : Ow → Ow) (h1 : ∀ x R, ρ2 x = some R → ρ (σ x) = some R) (h2 : ∀ x y, ρ2 x ≠ none → ρ2 y ≠ none → σ x = σ y → x = y) (hb : ∀ b, ρ2 (.blk b) = ρ (.blk b)) : Mem G h ρ2 w ∧ Fr G ρ w G ρ2 w := by
  refine ⟨⟨m.st, fun b cs hbc hob => ?_, m.lt, fun x r lo hi hx => m.own _ r lo hi (h1 x _ hx), fun x y r lo hi lo' hi' hne hx hy => m.dis _ _ r lo hi lo' hi' (fun e => hne (h2 x y (by rw [hx]; simp) (by rw [hy]; simp) e)) (h1 x _ hx) (h1 y _ hy), fun b hbn => m.ob b (by rw [← hb]; exact hbn), m.obs⟩,
    ⟨.refl G, Nat.le_refl _, rfl, rfl, rfl, fun _ _ _ _ => ⟨rfl, rfl⟩, fun _ _ _ _ => rfl, fun r o ⟨x, lo, hi, hx, a, b⟩ => .inl ⟨σ x, lo, hi, h1 x _ hx, a, b⟩, fun _ _ k => .inl k, fun _ _ k => .inl k⟩⟩
  obtain ⟨r, lo, hi, k1, k2, k3⟩ := m.blk b cs hbc hob
  exact ⟨r, lo, hi, k1, by rw [hb]; exact k2, k3⟩

theorem freezes_sound (frz : List (Nat × Bool)) : ∀ (vs : List V) (i : Nat) (us : List Value) (vs' : List V) (G : Gh) (ρ : Rho) (h h' : Heap), Rels G us vs → Mem G h ρ w → freezes frz i vs h = some (vs', h') →
    ∃ G' ρ', Mem G' h' ρ' w ∧ Fr G ρ w G' ρ' w ∧ Rels G' us vs' ∧ (∀ s c, ρ' (.key s c) = ρ (.key s c)) ∧ ∀ j, frz.lookup (i + j) = none → vs'[j]? = vs[j]?
  | [], i, us, vs', G, ρ, h, h', hr, m, hv => by
    simp [freezes] at hv
    obtain ⟨rfl, rfl⟩ := hv
    exact ⟨G, ρ, m, .refl _ _ _, hr, fun _ _ => rfl, fun _ _ => rfl⟩
  | v :: vs, i, [], vs', G, ρ, h, h', hr, m, hv => by have := hr.1; simp at this
  | v :: vs, i, u :: us, vs', G, ρ, h, h', hr, m, hv => by
    simp only [freezes] at hv
    obtain ⟨⟨v1, h1⟩, k1, k2⟩ := pair_bind hv
    obtain ⟨⟨vs2, h2⟩, k3, k4⟩ := pair_bind k2
    cases k4
    have first : ∃ G1 ρ1, Mem G1 h1 ρ1 w ∧ Fr G ρ w G1 ρ1 w ∧ Rel G1 u v1 ∧ (∀ s c, ρ1 (.key s c) = ρ (.key s c)) ∧ (frz.lookup i = none → v1 = v) := by
      cases hl : frz.lookup i with
      | none => rw [hl] at k1; cases k1; exact ⟨G, ρ, m, .refl _ _ _, hr.head, fun _ _ => rfl, fun _ => rfl⟩
      | some ag =>
        rw [hl] at k1
        obtain ⟨G1, ρ1, q1, q2, q3, q4⟩ := freeze1_sound m hr.head k1
        exact ⟨G1, ρ1, q1, q2, q3, q4, fun c => by cases c⟩
    obtain ⟨G1, ρ1, q1, q2, q3, q4, q5⟩ := first
    obtain ⟨G', ρ', r1, r2, r3, r4, r5⟩ := freezes_sound frz vs (i + 1) us vs2 G1 ρ1 h1 _ (hr.tail.mono q2.le) q1 k3
    refine ⟨G', ρ', r1, q2.trans r2, .cons (q3.mono r2.le) r3, fun s c => (r4 s c).trans (q4 s c), fun j hj => ?_⟩
    cases j with
    | zero => simp only [List.getElem?_cons_zero]; rw [q5 (by simpa using hj)]
    | succ j =>
      simp only [List.getElem?_cons_succ]
      exact r5 j (by rw [← hj]; congr 1; omega)

theorem resVs_length {e : Env} {h : Heap} : ∀ (rs : List RV) (vs : List V), resVs e h rs = some vs → vs.length = rs.length
  | [], vs, hv => by simp [resVs] at hv; subst hv; rfl
  | r :: rs, vs, hv => by
    simp only [resVs, Option.bind_eq_some_iff] at hv
    obtain ⟨v, _, vs', h2, h3⟩ := hv
    cases h3
    simp [resVs_length rs vs' h2]

theorem nodup_inj : ∀ (l : List Nat) (f : Nat → Option (Nat × Nat)), nodup (l.map f) = true → ∀ x y, x ∈ l → y ∈ l → f x = f y → x = y
  | [], _, _, x, _, hx, _, _ => by simp at hx
  | z :: l, f, hn, x, y, hx, hy, he => by
    simp only [List.map_cons, nodup, Bool.and_eq_true, Bool.not_eq_true'] at hn
    obtain ⟨h1, h2⟩ := hn
    have hno : ∀ q, q ∈ l → f z ≠ f q := fun q hq e => by
      have : (l.map f).contains (f z) = true := by
        rw [e]
        simp
        exact ⟨q, hq, rfl⟩
      rw [this] at h1
      cases h1
    rcases List.mem_cons.1 hx with ex | hx1
    · rcases List.mem_cons.1 hy with ey | hy1
      · exact ex.trans ey.symm
      · rw [ex] at he; exact absurd he (hno y hy1)
    · rcases List.mem_cons.1 hy with ey | hy1
      · rw [ey] at he; exact absurd he.symm (hno x hx1)
      · exact nodup_inj l f h2 x y hx1 hy1 he

theorem args_get : ∀ (vs : List V) (i j : Nat) (v : V), (args i vs).get j = some v → i ≤ j ∧ vs[j - i]? = some v
  | [], i, j, v, h => by simp [args] at h
  | x :: vs, i, j, v, h => by
    simp only [args, Env.get] at h
    split at h
    · rename_i e
      subst e
      cases h
      exact ⟨Nat.le_refl _, by simp⟩
    · rename_i e
      obtain ⟨h1, h2⟩ := args_get vs (i + 1) j v h
      refine ⟨by omega, ?_⟩
      rw [show j - i = (j - (i + 1)) + 1 by omega]
      simpa using h2
theorem get_args : ∀ (vs : List V) (i j : Nat) (v : V), vs[j]? = some v → (args i vs).get (i + j) = some v
  | [], i, j, v, h => by simp at h
  | x :: vs, i, j, v, h => by
    simp only [args, Env.get]
    cases j with
    | zero => simpa using h
    | succ j =>
      rw [if_neg (by omega)]
      have := get_args vs (i + 1) j v (by simpa using h)
      rwa [show i + 1 + j = i + (j + 1) by omega] at this

variable {T : Table} {sig : Sig}

/-- The model's tuple, and ours. -/
theorem pack_rel {G : Gh} {us : List Value} {vs : List V} (hr : Rels G us vs) : Rel G (if h : us.toArray.size = 1 then us.toArray[0] else .tuple us.toArray) (pack vs) := by
  cases us with
  | nil =>
    have : vs = [] := List.length_eq_zero_iff.1 (by rw [← hr.1]; rfl)
    subst this
    simp [pack]
    exact Rels.toTup hr
  | cons u us =>
    cases vs with
    | nil => have := hr.1; simp at this
    | cons v vs =>
      cases us with
      | nil =>
        have : vs = [] := List.length_eq_zero_iff.1 (by have := hr.1; simp only [List.length_cons, List.length_nil] at this; omega)
        subst this
        simp [pack]
        exact hr.head
      | cons u2 us =>
        cases vs with
        | nil => have := hr.1; simp at this
        | cons v2 vs =>
          simp [pack]
          exact Rels.toTup (by simpa using hr)

/-- THE CHECKS OF A TABLE. -/
structure TabOk (P : Program) (sig : Sig) (T : Table) : Prop where
  mixed : P.follows .mixedOrders = true
  func : ∀ f af, T f = some af → chkFunc P sig f af = true
  sig : ∀ f ps rs, sig f = some (ps, rs) → ∃ af, T f = some af ∧ af.ownP = ps ∧ af.ownR = rs

theorem chkFunc_ok {f : Nat} {af : AFunc} (h : chkFunc P sig f af = true) : funcOk P f = true := by
  unfold chkFunc at h
  unfold funcOk
  cases hf : P.funcs[f]? with
  | none => simp [hf] at h
  | some fn =>
    cases hb : fn.body with
    | none => simp [hf, hb] at h
    | some c =>
      simp only [hf, hb, Bool.and_eq_true] at h
      simp only [hb, Bool.and_eq_true]
      exact ⟨h.1.1.1.1, rfl⟩

/-- EVERY FUNCTION DOES WHAT IS COMPUTED. -/
theorem run_sound (ok : TabOk P sig T) : ∀ n, CallsOk P T ⟨run T n, T.free⟩ := by
  intro n
  induction n with
  | zero =>
    refine ⟨fun f hf => ?_, fun f vs h v h' hv => by simp [run] at hv⟩
    simp only [Table.free] at hf
    cases hT : T f with
    | none => rw [hT] at hf; cases hf
    | some af => rw [hT] at hf; exact ⟨af, rfl, by simpa using hf⟩
  | succ n ih =>
    refine ⟨ih.1, fun f vs h v h' hv => ?_⟩
    simp only [run] at hv
    obtain ⟨af, hT, hv⟩ := pair_bind hv
    refine ⟨af, hT, fun G ρ w us hr m hgl hown hnon => ?_⟩
    obtain ⟨⟨x, e1, h1⟩, hv1, hv2⟩ := pair_bind hv
    have hchk := ok.func f af hT
    unfold chkFunc at hchk
    cases hf : P.funcs[f]? with
    | none => simp [hf] at hchk
    | some fn =>
      cases hb : fn.body with
      | none => simp [hf, hb] at hchk
      | some code =>
        simp only [hf, hb, Bool.and_eq_true, decide_eq_true_eq] at hchk
        obtain ⟨⟨⟨⟨_, c2⟩, c3⟩, c4⟩, c5⟩ := hchk
        cases ht : tokC sig (retChk af) af.code (af.ownP.map fun p => (p, 0)) with
        | none => rw [ht] at c5; cases c5
        | some r =>
          rw [ht] at c5
          simp only at c5
          -- the frame
          let a : Act := { tmps := us.toArray ++ Array.replicate (fn.ntmps - us.toArray.size) undef, defers := [] }
          have hget : ∀ j (hj : j < us.length), a.tmps.getD j undef = us[j] := fun j hj => by
            simp only [a, Array.getD_eq_getD_getElem?]
            rw [Array.getElem?_append_left (by simpa using hj)]
            simp [hj]
          have st : FSt af.ntmps G ρ (args 0 vs) h (af.ownP.map fun p => (p, 0)) a w := by
            refine ⟨⟨⟨fun i x hx => ?_, hgl⟩, m, fun s c hk => ?_, fun s c hk => ?_⟩, ?_, rfl⟩
            · obtain ⟨_, h2⟩ := args_get vs 0 i x hx
              simp only [Nat.sub_zero] at h2
              obtain ⟨hi, rfl⟩ := List.getElem?_eq_some_iff.1 h2
              rw [hget i (by rw [hr.1]; exact hi)]
              exact hr.2 i (by rw [hr.1]; exact hi) hi
            · obtain ⟨p, hp, e⟩ := List.mem_map.1 hk
              cases e
              obtain ⟨u, x, k1, k2, k3⟩ := hown s hp
              obtain ⟨hi, rfl⟩ := List.getElem?_eq_some_iff.1 k1
              exact ⟨us[s], x, x, by rw [hget s hi]; cases us[s] <;> rfl, by simpa using get_args vs 0 s x k2, by cases x <;> rfl, k3⟩
            · refine Classical.byContradiction fun hne => ?_
              obtain ⟨rfl, hs⟩ := hnon s c hne
              exact hk (List.mem_map.2 ⟨s, hs, rfl⟩)
            · simp only [a, Array.size_append, Array.size_replicate]
              omega
          have hcode := code_sound (P := P) (ret := retChk af) ok.mixed ih (fun f af hT => chkFunc_ok (ok.func f af hT)) ok.sig n (fun s bytes z fo k hI => ins_ok ok.mixed hI) af.code code c4 G ρ (args 0 vs) h _ r a w x e1 h1 st ht hv1
          refine calls_of_wp hf hb (wp_mono hcode fun ex a' w' hp => ?_)
          obtain ⟨rfl, G', ρ', O', q1, q2, q3⟩ := hp
          -- behind the body
          have fin : retChk af O' = true → epi af e1 h1 = some (v, h') → ∃ u, (results fn a'.tmps).run P w' = .ok u w' ∧ ∃ u2 G2 ρ2, Ending.returned u = .returned u2 ∧ Rel G2 u2 v ∧ Mem G2 h' ρ2 w' ∧ Fr G ρ w G2 ρ2 w' ∧
              (∀ c, c ∈ af.ownR → ∃ u' x, compR u2 c = some u' ∧ compV v c = some x ∧ OwnVal u' x (ρ2 (.key 0 c))) ∧ (∀ s c, ρ2 (.key s c) ≠ none → s = 0 ∧ c ∈ af.ownR) := by
            intro hret hepi
            unfold epi at hepi
            obtain ⟨rvs, p1, p2⟩ := pair_bind hepi
            obtain ⟨⟨rvs', h2⟩, p3, p4⟩ := pair_bind p2
            cases p4
            obtain ⟨ru, hrun, hru⟩ := res_run (P := P) q2.st.mem q2.st.env af.res fn.results.toList rvs c3 p1
            obtain ⟨G2, ρ2, m2, f2, hr2, hk2, hsame⟩ := freezes_sound (w := w') af.frz rvs 0 ru rvs' G' ρ' h1 h' hru q2.st.mem p3
            simp only [retChk, Bool.and_eq_true] at hret
            obtain ⟨ret1, ret2⟩ := hret
            have hkey : ∀ c, c ∈ af.ownR → ∃ k, resKey af.res c = some k ∧ k ∈ O' ∧ af.frz.lookup (resIx af.res c) = none := fun c hc => by
              have := List.all_eq_true.1 ret1 c hc
              simp only [Bool.and_eq_true] at this
              obtain ⟨t1, t2⟩ := this
              cases hk : resKey af.res c with
              | none => rw [hk] at t1; cases t1
              | some k => rw [hk] at t1; exact ⟨k, rfl, by simpa using t1, by simpa using t2⟩
            let ρ3 : Rho := fun | .blk b => ρ2 (.blk b) | .key s c => if s = 0 ∧ c ∈ af.ownR then (match resKey af.res c with | some k => ρ2 (.key k.1 k.2) | none => none) else none
            let σ : Ow → Ow := fun | .blk b => .blk b | .key s c => (match resKey af.res c with | some k => .key k.1 k.2 | none => .key s c)
            have hσ : ∀ s c, ρ3 (.key s c) ≠ none → s = 0 ∧ c ∈ af.ownR := fun s c hk => by
              simp only [ρ3] at hk
              split at hk
              · assumption
              · exact absurd rfl hk
            obtain ⟨m3, f3⟩ := m2.map ρ3 σ (fun x R hx => by
              cases x with
              | blk b => exact hx
              | key s c =>
                have hsc := hσ s c (by rw [hx]; simp)
                simp only [ρ3, if_pos hsc] at hx
                simp only [σ]
                cases hk : resKey af.res c with
                | none => rw [hk] at hx; cases hx
                | some k => rw [hk] at hx; exact hx) (fun x y hx hy hxy => by
              cases x with
              | blk b =>
                cases y with
                | blk b' => simpa [σ] using hxy
                | key s c =>
                  obtain ⟨_, hc⟩ := hσ s c hy
                  obtain ⟨k, hk, _⟩ := hkey c hc
                  simp [σ, hk] at hxy
              | key s c =>
                obtain ⟨rfl, hc⟩ := hσ s c hx
                obtain ⟨k, hk, _⟩ := hkey c hc
                cases y with
                | blk b' => simp [σ, hk] at hxy
                | key s' c' =>
                  obtain ⟨rfl, hc'⟩ := hσ s' c' hy
                  obtain ⟨k', hk', _⟩ := hkey c' hc'
                  simp only [σ, hk, hk', Ow.key.injEq] at hxy
                  have : k = k' := Prod.ext hxy.1 hxy.2
                  rw [nodup_inj af.ownR (resKey af.res) ret2 c c' hc hc' (by rw [hk, hk', this])]) (fun b => rfl)
            refine ⟨_, ?_, _, G2, ρ3, rfl, pack_rel hr2, m3, (q3.trans f2).trans f3, fun c hc => ?_, hσ⟩
            · rw [results_eq, Sem.run_bind, Array.mapM_eq_mapM_toList, Sem.run_map, hrun]
              rfl
            · obtain ⟨k, hk, hkO, hfz⟩ := hkey c hc
              have hρ3 : ρ3 (.key 0 c) = ρ' (.key k.1 k.2) := by
                simp [ρ3, hk, hc, hk2]
              rw [hρ3]
              obtain ⟨u1, v1, x1, t1, t2, t3, t4⟩ := q2.st.own k.1 k.2 hkO
              -- the part of the result
              have part : ∀ (j : Nat) (s : Nat), af.res[j]? = some (RV.t s) → k = (s, 0) → af.frz.lookup j = none → ∃ uj vj, ru[j]? = some uj ∧ rvs'[j]? = some vj ∧ OwnVal uj vj (ρ' (.key k.1 k.2)) := by
                intro j s hj hks hlk
                have getr : ∀ (rs : List RV) (qs : List ResultVar) (vs : List V) (us : List Value), chkRes P rs qs = true → resVs e1 h1 rs = some vs → (qs.mapM (resOne a'.tmps)).run P w' = .ok us w' → ∀ (j : Nat), rs[j]? = some (RV.t s) → us[j]? = some (a'.tmps.getD s undef) ∧ vs[j]? = e1.get s := by
                  intro rs
                  induction rs with
                  | nil => intro qs vs us _ _ _ j hj; simp at hj
                  | cons rr rs ihr =>
                    intro qs vs us hcr hvr hur j hj
                    cases qs with
                    | nil => cases rr <;> simp [chkRes] at hcr
                    | cons q qs =>
                      simp only [resVs, Option.bind_eq_some_iff] at hvr
                      obtain ⟨v0, w1, vs0, w2, w3⟩ := hvr
                      cases w3
                      rw [List.mapM_cons] at hur
                      simp only [Sem.run_bind] at hur
                      cases hq : (resOne a'.tmps q).run P w' with
                      | halt hh ww => rw [hq] at hur; cases hur
                      | ok u0 ww =>
                        rw [hq] at hur
                        simp only [Result.andThen_ok] at hur
                        have hww : ww = w' := by
                          cases rr with
                          | t i =>
                            cases q <;> simp [chkRes] at hcr
                            simp [resOne] at hq
                            exact hq.2.symm
                          | c i sz =>
                            cases q with
                            | tmp _ => simp [chkRes] at hcr
                            | cell bb tt =>
                              have := res_run (P := P) q2.st.mem q2.st.env [.c i sz] [.cell bb tt] [v0] (by
                                simp only [chkRes, Bool.and_eq_true] at hcr ⊢
                                exact ⟨hcr.1, trivial⟩) (by simp [resVs, w1])
                              obtain ⟨us', hus', _⟩ := this
                              rw [List.mapM_cons] at hus'
                              simp only [Sem.run_bind, hq, Result.andThen_ok, List.mapM_nil, Sem.run_pure] at hus'
                              injection hus' with _ e
                        subst hww
                        cases hqs : (qs.mapM (resOne a'.tmps)).run P ww with
                        | halt hh w2' => rw [hqs] at hur; cases hur
                        | ok us0 w2' =>
                          rw [hqs] at hur
                          simp only [Result.andThen_ok, Sem.run_pure] at hur
                          injection hur with e5 e6
                          subst e5 e6
                          cases j with
                          | zero =>
                            simp at hj
                            subst hj
                            cases q <;> simp [chkRes] at hcr
                            obtain ⟨rfl, _⟩ := hcr
                            simp [resOne] at hq
                            simp only [resV] at w1
                            exact ⟨by simp [hq], by simp [w1]⟩
                          | succ j =>
                            have hcr2 : chkRes P rs qs = true := by
                              cases rr <;> cases q <;> simp [chkRes] at hcr
                              · exact hcr.2
                              · exact hcr.2
                            have := ihr qs vs0 us0 hcr2 w2 hqs j (by simpa using hj)
                            simpa using this
                obtain ⟨g1, g2⟩ := getr af.res fn.results.toList rvs ru c3 p1 hrun j hj
                subst hks
                simp only at t1 t2 t4
                rw [t2] at g2
                have e7 : u1 = a'.tmps.getD s undef := by
                  have : compR (a'.tmps.getD s undef) 0 = some (a'.tmps.getD s undef) := by cases a'.tmps.getD s undef <;> rfl
                  rw [this] at t1
                  exact (Option.some.inj t1).symm
                have e8 : x1 = v1 := by
                  have : compV v1 0 = some v1 := by cases v1 <;> rfl
                  rw [this] at t3
                  exact (Option.some.inj t3).symm
                refine ⟨_, v1, g1, ?_, by rw [← e7, ← e8]; exact t4⟩
                rw [hsame j (by simpa using hlk)]
                exact g2
              have hlr : ru.length = af.res.length := by rw [hru.1, resVs_length _ _ p1]
              have hlv : rvs'.length = af.res.length := by rw [← hr2.1, hlr]
              have hfz' := hfz
              have hk' := hk
              unfold resKey at hk'
              unfold resIx at hfz'
              split at hk'
              · rename_i s hres
                cases hk'
                rw [hres] at hfz'
                simp only at hfz'
                obtain ⟨uj, vj, w1, w2, w3⟩ := part 0 s (by rw [hres]; rfl) rfl hfz'
                rw [hres] at hlr hlv
                cases ru with
                | nil => simp at hlr
                | cons u0 ru =>
                  cases rvs' with
                  | nil => simp at hlv
                  | cons v0 rvs' =>
                    have e1 : ru = [] := List.length_eq_zero_iff.1 (by simpa using hlr)
                    have e2 : rvs' = [] := List.length_eq_zero_iff.1 (by simpa using hlv)
                    subst e1 e2
                    simp at w1 w2
                    subst w1 w2
                    exact ⟨u0, v0, by simp; cases u0 <;> rfl, by simp [pack]; cases v0 <;> rfl, w3⟩
              · cases hk'
              · rename_i c' hnot2
                split at hk'
                · rename_i s hs
                  cases hk'
                  have hlen2 : 2 ≤ af.res.length := by
                    rcases Nat.lt_or_ge af.res.length 2 with hl | hl
                    · exfalso
                      cases hres : af.res with
                      | nil => rw [hres] at hs; simp at hs
                      | cons r0 rr =>
                        have : rr = [] := List.length_eq_zero_iff.1 (by rw [hres] at hl; simp at hl; omega)
                        subst this
                        exact hnot2 r0 hres
                    · exact hl
                  have hix : resIx af.res (c' + 1) = c' := by
                    cases hres : af.res with
                    | nil => rfl
                    | cons r0 rr => cases rr with
                      | nil => exact absurd hres (hnot2 r0)
                      | cons r1 rr => rfl
                  have hfz2 := hfz
                  rw [hix] at hfz2
                  obtain ⟨uj, vj, w1, w2, w3⟩ := part c' s hs rfl hfz2
                  have hne1 : ¬ (ru.toArray.size = 1) := by simp; omega
                  have hpack : pack rvs' = .tup rvs' := by
                    cases rvs' with
                    | nil => rfl
                    | cons a b => cases b with
                      | nil => simp at hlv; omega
                      | cons c d => rfl
                  refine ⟨uj, vj, ?_, ?_, w3⟩
                  · rw [dif_neg hne1]; simpa [compR] using w1
                  · rw [hpack]; simpa [compV] using w2
                · cases hk'
              · cases hk'
          cases x with
          | x i => cases hv2
          | n =>
            have q1 : r.n = some O' := q1
            rw [q1] at c5
            obtain ⟨u, g1, g2⟩ := fin c5 hv2
            exact ⟨q2.defers, u, g1, g2⟩
          | r =>
            obtain ⟨u, g1, g2⟩ := fin q1 hv2
            exact ⟨q2.defers, u, g1, g2⟩
end
end Ev
