/- The evaluator of abstract code, Ev0: abstract values, what is known of the memory, the abstract code and what it computes. No condition of its own: each theorem states its own. -/
import Derived.Calls
import Derived.Orders
import Derived.KernelRfl
import GoSem.PinnedTables
import Derived.Laws.Sem
set_option linter.all false
/-! Ev, part A: abstract values, and how a value of the model is one of them. -/
namespace Ev
open Go

/-- Abstract values: slices that are never written are plain lists; pointers to such memory bear what lies there. -/
inductive V where
  | bool (b : Bool)
  | int (k : IntKind) (n : Int)
  | str (s : List UInt8)
  | nilp
  | ptr (b off : Nat)
  | rp (cs : List V)
  | ps (s : Nat) (xs : List V)
  | hs (s b off len : Nat)
  | hc (s b off len cap : Nat)
  | hn (s : Nat)
  | agg (cs : List V)
  | tup (vs : List V)
  | iface (t : Nat) (v : V)
  | nili
  | fn (f : Nat) (cap : List V)
  | nilf
  | itr (b : Nat)
  | mp (b : Nat)
  | mpn
  deriving Inhabited

def V.cells : V → List V
  | .agg cs => cs
  | v => [v]

/-- One cell holds it. -/
def V.one : V → Bool
  | .agg _ => false
  | .tup _ => false
  | _ => true

def flat (xs : List V) : List V := xs.flatMap V.cells

abbrev Heap := List (Option (List V))
abbrev Reg := Nat × Nat × Nat

/-- What is known of the model's memory: cells that are never written, where the abstract blocks lie, and which of them are maps or walks over strings. -/
structure Gh where
  st : Nat → Nat → Option Value
  reg : Nat → Option Reg
  ob : Nat → Option Nat := fun _ => none

structure Gh.le (G G' : Gh) : Prop where
  s : ∀ r o v, G.st r o = some v → G'.st r o = some v
  r : ∀ b x, G.reg b = some x → G'.reg b = some x
  o : ∀ b x, G.ob b = some x → G'.ob b = some x
theorem Gh.le.refl (G : Gh) : G.le G := ⟨fun _ _ _ h => h, fun _ _ h => h, fun _ _ h => h⟩
theorem Gh.le.trans {a b c : Gh} (h : a.le b) (k : b.le c) : a.le c := ⟨fun r o v x => k.s _ _ _ (h.s r o v x), fun r x y => k.r _ _ (h.r r x y), fun r x y => k.o _ _ (h.o r x y)⟩

inductive Rel (G : Gh) : Value → V → Prop where
  | bool (b) : Rel G (.bool b) (.bool b)
  | int (k n) : Rel G (.int k n) (.int k n)
  | str (s : ByteArray) (l : List UInt8) (h : s.data.toList = l) : Rel G (.string s) (.str l)
  | nilp : Rel G (.pointer none) .nilp
  | ptr (b off r lo hi : Nat) (h : G.reg b = some (r, lo, hi)) : Rel G (.pointer (some ⟨r, lo + off, none⟩)) (.ptr b off)
  | rp (r o : Nat) (cs : List V) (u : Nat → Value) (h : ∀ j, j < cs.length → G.st r (o + j) = some (u j))
      (k : ∀ j (hj : j < cs.length), Rel G (u j) cs[j]) : Rel G (.pointer (some ⟨r, o, none⟩)) (.rp cs)
  | ps0 (s : Nat) (p : Option Addr) : Rel G (.slice p 0 0) (.ps s [])
  | ps (r o n cap s : Nat) (xs : List V) (u : Nat → Value) (hn : xs.length = n) (hc : n ≤ cap) (hs : ∀ x ∈ xs, x.cells.length = s)
      (h : ∀ j, j < (flat xs).length → G.st r (o + j) = some (u j)) (k : ∀ j (hj : j < (flat xs).length), Rel G (u j) (flat xs)[j]) :
      Rel G (.slice (some ⟨r, o, none⟩) n cap) (.ps s xs)
  | hs (s b off len cap r lo hi : Nat) (h : G.reg b = some (r, lo, hi)) (hh : lo + off + cap * s ≤ hi) (hc : len ≤ cap) :
      Rel G (.slice (some ⟨r, lo + off, none⟩) len cap) (.hs s b off len)
  | hc (s b off len cap r lo hi : Nat) (h : G.reg b = some (r, lo, hi)) (hh : lo + off + cap * s ≤ hi) (hc : len ≤ cap) :
      Rel G (.slice (some ⟨r, lo + off, none⟩) len cap) (.hc s b off len cap)
  | hn (s : Nat) (p : Option Addr) : Rel G (.slice p 0 0) (.hn s)
  | agg (cs : Array Value) (vs : List V) (hl : cs.size = vs.length) (k : ∀ j (h : j < cs.size) (h' : j < vs.length), Rel G cs[j] vs[j]) : Rel G (.agg cs) (.agg vs)
  | tup (cs : Array Value) (vs : List V) (hl : cs.size = vs.length) (k : ∀ j (h : j < cs.size) (h' : j < vs.length), Rel G cs[j] vs[j]) : Rel G (.tuple cs) (.tup vs)
  | iface (t : Nat) (v : Value) (x : V) (k : Rel G v x) : Rel G (.iface t v) (.iface t x)
  | nili : Rel G .nilIface .nili
  | fn (f : Nat) (cs : Array Value) (vs : List V) (hl : cs.size = vs.length) (k : ∀ j (h : j < cs.size) (h' : j < vs.length), Rel G cs[j] vs[j]) :
      Rel G (.func (.func f) #[] cs) (.fn f vs)
  | nilf : Rel G .nilFunc .nilf
  | itr (b r : Nat) (h : G.ob b = some r) : Rel G (.pointer (some ⟨r, 0, none⟩)) (.itr b)
  | mp (b r : Nat) (h : G.ob b = some r) : Rel G (.map (some r)) (.mp b)
  | mpn : Rel G (.map none) .mpn

theorem Rel.mono {G G' : Gh} (hG : G.le G') {v : Value} {x : V} (h : Rel G v x) : Rel G' v x := by
  induction h with
  | bool b => exact .bool b
  | int k n => exact .int k n
  | str s l h => exact .str s l h
  | nilp => exact .nilp
  | ptr b off r lo hi h => exact .ptr b off r lo hi (hG.r _ _ h)
  | rp r o cs u h k ih => exact .rp r o cs u (fun j hj => hG.s _ _ _ (h j hj)) ih
  | ps0 s p => exact .ps0 s p
  | ps r o n cap s xs u hn hc hs h k ih => exact .ps r o n cap s xs u hn hc hs (fun j hj => hG.s _ _ _ (h j hj)) ih
  | hs s b off len cap r lo hi h hh hc => exact .hs s b off len cap r lo hi (hG.r _ _ h) hh hc
  | hc s b off len cap r lo hi h hh hc => exact .hc s b off len cap r lo hi (hG.r _ _ h) hh hc
  | hn s p => exact .hn s p
  | agg cs vs hl k ih => exact .agg cs vs hl ih
  | tup cs vs hl k ih => exact .tup cs vs hl ih
  | iface t v x k ih => exact .iface t v x ih
  | nili => exact .nili
  | fn f cs vs hl k ih => exact .fn f cs vs hl ih
  | nilf => exact .nilf
  | itr b r h => exact .itr b r (hG.o _ _ h)
  | mp b r h => exact .mp b r (hG.o _ _ h)
  | mpn => exact .mpn

/-- A row of the model's values, and a list of abstract ones. -/
def Rels (G : Gh) (cs : List Value) (vs : List V) : Prop := cs.length = vs.length ∧ ∀ j (h : j < cs.length) (h' : j < vs.length), Rel G cs[j] vs[j]

theorem Rels.mono {G G' : Gh} (hG : G.le G') {cs : List Value} {vs : List V} (h : Rels G cs vs) : Rels G' cs vs := ⟨h.1, fun j a b => (h.2 j a b).mono hG⟩
theorem Rels.nil {G : Gh} : Rels G [] [] := ⟨rfl, fun j h => by simp at h⟩
theorem Rels.cons {G : Gh} {c : Value} {v : V} {cs : List Value} {vs : List V} (h : Rel G c v) (k : Rels G cs vs) : Rels G (c :: cs) (v :: vs) := by
  refine ⟨by simp [k.1], fun j a b => ?_⟩
  cases j with
  | zero => exact h
  | succ j => exact k.2 j (by simpa using a) (by simpa using b)
theorem Rels.append {G : Gh} {cs ds : List Value} {vs us : List V} (h : Rels G cs vs) (k : Rels G ds us) : Rels G (cs ++ ds) (vs ++ us) := by
  refine ⟨by simp [h.1, k.1], fun j a b => ?_⟩
  by_cases hj : j < cs.length
  · rw [List.getElem_append_left hj, List.getElem_append_left (by rw [← h.1]; exact hj)]; exact h.2 j hj _
  · have h1 := h.1
    rw [List.getElem_append_right (by omega), List.getElem_append_right (by omega)]
    have := k.2 (j - cs.length) (by simp at a; omega) (by simp at b; omega)
    simpa [h1] using this
theorem Rels.of_agg {G : Gh} {cs : Array Value} {vs : List V} (hl : cs.size = vs.length) (k : ∀ j (h : j < cs.size) (h' : j < vs.length), Rel G cs[j] vs[j]) : Rels G cs.toList vs :=
  ⟨by simpa using hl, fun j a b => by simpa using k j (by simpa using a) b⟩
theorem Rels.toAgg {G : Gh} {cs : Array Value} {vs : List V} (h : Rels G cs.toList vs) : Rel G (.agg cs) (.agg vs) :=
  .agg cs vs (by simpa using h.1) fun j a b => by have := h.2 j (by simpa using a) b; rwa [Array.getElem_toList] at this
theorem Rels.toTup {G : Gh} {cs : Array Value} {vs : List V} (h : Rels G cs.toList vs) : Rel G (.tuple cs) (.tup vs) :=
  .tup cs vs (by simpa using h.1) fun j a b => by have := h.2 j (by simpa using a) b; rwa [Array.getElem_toList] at this
theorem Rels.toFn {G : Gh} {f : Nat} {cs : Array Value} {vs : List V} (h : Rels G cs.toList vs) : Rel G (.func (.func f) #[] cs) (.fn f vs) :=
  .fn f cs vs (by simpa using h.1) fun j a b => by have := h.2 j (by simpa using a) b; rwa [Array.getElem_toList] at this
theorem Rels.take {G : Gh} {cs : List Value} {vs : List V} (h : Rels G cs vs) (n : Nat) : Rels G (cs.take n) (vs.take n) := by
  refine ⟨by simp [h.1], fun j a b => ?_⟩
  simp only [List.getElem_take]
  exact h.2 j (by simp at a; omega) (by simp at b; omega)
theorem Rels.drop {G : Gh} {cs : List Value} {vs : List V} (h : Rels G cs vs) (n : Nat) : Rels G (cs.drop n) (vs.drop n) := by
  refine ⟨by simp [h.1], fun j a b => ?_⟩
  simp only [List.getElem_drop]
  exact h.2 _ (by simp at a; omega) (by simp at b; omega)

theorem Rels.head {G : Gh} {c : Value} {v : V} {cs : List Value} {vs : List V} (h : Rels G (c :: cs) (v :: vs)) : Rel G c v := h.2 0 (by simp) (by simp)
theorem Rels.tail {G : Gh} {c : Value} {v : V} {cs : List Value} {vs : List V} (h : Rels G (c :: cs) (v :: vs)) : Rels G cs vs := by
  have := h.drop 1
  simpa using this

/-- The cells of related values are related. -/
theorem Rel.cells {G : Gh} {v : Value} {x : V} (h : Rel G v x) : Rels G v.cells.toList x.cells := by
  have one : ∀ {v : Value} {x : V}, Rel G v x → Rels G [v] [x] := fun h => Rels.cons h Rels.nil
  cases h with
  | agg cs vs hl k => exact Rels.of_agg hl k
  | _ => exact one (by constructor <;> assumption)

theorem Rel.one {G : Gh} {v : Value} {x : V} (h : Rel G v x) (ho : x.one = true) : (∀ c, v ≠ .agg c) ∧ (∀ c, v ≠ .tuple c) := by
  cases h <;> simp_all [V.one]

end Ev

/-! Ev, part Gl: the package variables that are known: their numbers, and what their cells hold. -/
namespace Ev
open Go

def u8s (l : List Nat) : List V := l.map fun n : Nat => .int .u8 (n : Int)
/-- The ranges of the bytes behind a first byte. -/
def acceptZ : List Nat := [128, 191, 160, 191, 128, 159, 144, 191, 128, 143] ++ List.replicate 22 0
/-- Package variables, by their numbers. -/
def GL : List (Nat × List V) := []

def GlOk (G : Gh) : Prop := ∀ q ∈ GL, Rel G (.pointer (some ⟨q.1, 0, none⟩)) (.rp q.2)
theorem GlOk.mono {G G' : Gh} (hG : G.le G') (h : GlOk G) : GlOk G' := fun q hq => (h q hq).mono hG
theorem gl_mem {g : Nat} {cs : List V} : ∀ {l : List (Nat × List V)}, l.lookup g = some cs → (g, cs) ∈ l
  | [], h => by cases h
  | (a, b) :: r, h => by
    simp only [List.lookup] at h
    split at h
    · rename_i e
      have : g = a := by simpa using e
      cases h
      rw [this]
      exact List.mem_cons_self
    · exact List.mem_cons_of_mem _ (gl_mem h)
end Ev

/-! Ev, part B: the model's memory under an abstract heap: what is owned, what stays. -/
namespace Ev
open Go

/-- Who owns a stretch of cells: an abstract block, or a slot's slice (its spare cells). -/
inductive Ow where
  | blk (b : Nat)
  | key (s c : Nat)
  deriving DecidableEq

abbrev Rho := Ow → Option Reg

def Owned (ρ : Rho) (r o : Nat) : Prop := ∃ x lo hi, ρ x = some (r, lo, hi) ∧ lo ≤ o ∧ o < hi

/-- Is anything of the block frozen, or marked? -/
def _root_.Go.World.fz (w : World) (a : Addr) : Bool :=
  match w.heap[a.block]? with
  | some (.cells _ _ (lo, hi)) => lo != hi
  | _ => false

/-- A map's entries under its row: each entry stands at its stamp; what was deleted is told by nil. -/
inductive KvRel (G : Gh) : Nat → List MapEntry → List V → Prop
  | nil (i : Nat) : KvRel G i [] []
  | tomb {i : Nat} {es : List MapEntry} {kvs : List V} : KvRel G (i + 1) es kvs → KvRel G i es (.nilp :: kvs)
  | cons {i : Nat} {e : MapEntry} {es : List MapEntry} {k v : V} {kvs : List V} : Rel G e.key k → Rel G e.val v → e.born = i → KvRel G (i + 1) es kvs → KvRel G i (e :: es) (.tup [k, v] :: kvs)
theorem KvRel.mono {G G' : Gh} (hG : G.le G') {i : Nat} {es : List MapEntry} {kvs : List V} (h : KvRel G i es kvs) : KvRel G' i es kvs := by
  induction h with
  | nil i => exact .nil i
  | tomb _ ih => exact .tomb ih
  | cons a b c _ ih => exact .cons (a.mono hG) (b.mono hG) c ih
/-- The stamps that a walk has told, as a value. -/
def seenV (l : List Nat) : V := .tup (l.map fun j => .ptr j 0)
/-- A walk over a string, or a map: its entries by their stamps. -/
inductive ObjIs (G : Gh) : Obj → List V → Prop where
  | it (s : ByteArray) (l : List UInt8) (pos : Nat) (h : s.data.toList = l) : ObjIs G (.stringIter s pos) [.str l, .int .i64 pos]
  | mi (b r since last : Nat) (seen : List Nat) (h : G.ob b = some r) : ObjIs G (.mapIter (some r) since seen.toArray last) [.mp b, .ptr since last, seenV seen]
  | mi0 (since last : Nat) : ObjIs G (.mapIter none since #[] last) [.mpn, .nilp]
  | mp (es : Array MapEntry) (clock : Nat) (kvs : List V) (h : KvRel G 0 es.toList kvs) (hc : clock = kvs.length) : ObjIs G (.map es clock) kvs
theorem ObjIs.mono {G G' : Gh} (hG : G.le G') {o : Obj} {cs : List V} (h : ObjIs G o cs) : ObjIs G' o cs := by
  cases h with
  | it s l pos h => exact .it s l pos h
  | mi b r since last seen h => exact .mi b r since last seen (hG.o _ _ h)
  | mi0 since last => exact .mi0 since last
  | mp es clock _ h hc => exact .mp es clock _ (h.mono hG) hc
/-- Is an object none of cells? -/
def noCells : Obj → Bool
  | .cells .. => false
  | _ => true
/-- The objects that are maps and walks. -/
def ObsOk (G : Gh) (h : Heap) (w : World) : Prop :=
  ∀ b r, G.ob b = some r → b < h.length ∧ G.reg b = none ∧ (∃ o, w.heap[r]? = some o ∧ noCells o = true ∧ ∀ cs, h[b]? = some (some cs) → ObjIs G o cs) ∧ ∀ b', G.ob b' = some r → b' = b
/-- They stay, where the model's objects that are none of cells stay. -/
theorem ObsOk.keep {G G' : Gh} {h h' : Heap} {w w' : World} (m : ObsOk G h w) (ho : ∀ b, G'.ob b = G.ob b) (hr : ∀ b r, G.ob b = some r → G'.reg b = none) (hG : G.le G') (hl : h.length ≤ h'.length)
    (hw : ∀ (r : Nat) (o : Obj), w.heap[r]? = some o → noCells o = true → w'.heap[r]? = some o) (hh : ∀ b r cs, G.ob b = some r → h'[b]? = some (some cs) → h[b]? = some (some cs)) : ObsOk G' h' w' := fun b r hb => by
  rw [ho] at hb
  obtain ⟨h1, h2, ⟨o, h3, h4, h5⟩, h6⟩ := m b r hb
  exact ⟨by omega, hr b r hb, ⟨o, hw r o h3 h4, h4, fun cs hc => (h5 cs (hh b r cs hb hc)).mono hG⟩, fun b' hb' => h6 b' (by rw [← ho]; exact hb')⟩

structure Mem (G : Gh) (h : Heap) (ρ : Rho) (w : World) : Prop where
  st : ∀ r o v, G.st r o = some v → w.cell? ⟨r, o, none⟩ = some v ∧ v.oneCell' = true
  blk : ∀ b cs, h[b]? = some (some cs) → G.ob b = none → ∃ r lo hi, G.reg b = some (r, lo, hi) ∧ ρ (.blk b) = some (r, lo, hi) ∧ lo + cs.length ≤ hi ∧
    ∀ j (hj : j < cs.length), ∃ v, w.cell? ⟨r, lo + j, none⟩ = some v ∧ Rel G v cs[j] ∧ v.oneCell' = true
  lt : ∀ b x, G.reg b = some x → b < h.length
  own : ∀ x r lo hi, ρ x = some (r, lo, hi) → ∀ o, lo ≤ o → o < hi → (w.cell? ⟨r, o, none⟩).isSome = true ∧ w.fz ⟨r, o, none⟩ = false ∧ G.st r o = none
  dis : ∀ x y r lo hi lo' hi', x ≠ y → ρ x = some (r, lo, hi) → ρ y = some (r, lo', hi') → ∀ o, lo ≤ o → o < hi → lo' ≤ o → o < hi' → False
  ob : ∀ b, ρ (.blk b) ≠ none → b < h.length
  obs : ObsOk G h w

structure Fr (G : Gh) (ρ : Rho) (w : World) (G' : Gh) (ρ' : Rho) (w' : World) : Prop where
  le : G.le G'
  size : w.heap.size ≤ w'.heap.size
  os : w'.os = w.os
  tape : w'.tape = w.tape
  output : w'.output = w.output
  cell : ∀ r o, r < w.heap.size → ¬ Owned ρ r o → w'.cell? ⟨r, o, none⟩ = w.cell? ⟨r, o, none⟩ ∧ w'.fz ⟨r, o, none⟩ = w.fz ⟨r, o, none⟩
  block : ∀ r, r < w.heap.size → (∀ o, ¬ Owned ρ r o) → (∀ b, G.ob b ≠ some r) → w'.heap[r]? = w.heap[r]?
  own : ∀ r o, Owned ρ' r o → Owned ρ r o ∨ w.heap.size ≤ r
  st : ∀ r o, G'.st r o ≠ none → G.st r o ≠ none ∨ Owned ρ r o ∨ w.heap.size ≤ r
  obn : ∀ b r, G'.ob b = some r → G.ob b = some r ∨ w.heap.size ≤ r

theorem Fr.refl (G : Gh) (ρ : Rho) (w : World) : Fr G ρ w G ρ w :=
  ⟨.refl G, Nat.le_refl _, rfl, rfl, rfl, fun _ _ _ _ => ⟨rfl, rfl⟩, fun _ _ _ _ => rfl, fun _ _ h => .inl h, fun _ _ h => .inl h, fun _ _ h => .inl h⟩

theorem Fr.trans {G G1 G2 : Gh} {ρ ρ1 ρ2 : Rho} {w w1 w2 : World} (h : Fr G ρ w G1 ρ1 w1) (k : Fr G1 ρ1 w1 G2 ρ2 w2) : Fr G ρ w G2 ρ2 w2 where
  le := h.le.trans k.le
  size := Nat.le_trans h.size k.size
  os := k.os.trans h.os
  tape := k.tape.trans h.tape
  output := k.output.trans h.output
  cell := fun r o hr ho => by
    have h1 := h.cell r o hr ho
    have hn : ¬ Owned ρ1 r o := fun c => (h.own r o c).elim ho (fun c => by omega)
    have k1 := k.cell r o (Nat.lt_of_lt_of_le hr h.size) hn
    exact ⟨k1.1.trans h1.1, k1.2.trans h1.2⟩
  block := fun r hr ho hb => by
    have h1 := h.block r hr ho hb
    have k1 := k.block r (Nat.lt_of_lt_of_le hr h.size) (fun o c => (h.own r o c).elim (ho o) (fun c => by omega)) fun b c => (h.obn b r c).elim (hb b) (fun c => by omega)
    exact k1.trans h1
  own := fun r o c => by
    rcases k.own r o c with c | c
    · exact h.own r o c
    · exact .inr (Nat.le_trans h.size c)
  st := fun r o c => by
    rcases k.st r o c with c | c | c
    · exact h.st r o c
    · exact .inr (h.own r o c)
    · exact .inr (.inr (Nat.le_trans h.size c))
  obn := fun b r c => by
    rcases k.obn b r c with c | c
    · exact h.obn b r c
    · exact .inr (Nat.le_trans h.size c)

/-! ### The model's world under a new block, a store, a draw -/
def _root_.Go.World.evPush (w : World) (o : Obj) : World := { w with heap := w.heap.push o }
theorem push_heap (w : World) (o : Obj) (r : Nat) (h : r < w.heap.size) : (w.evPush o).heap[r]? = w.heap[r]? := by
  show (w.heap.push o)[r]? = _
  rw [Array.getElem?_push, if_neg (by omega)]
theorem push_cell (w : World) (o : Obj) (r i : Nat) (h : r < w.heap.size) : (w.evPush o).cell? ⟨r, i, none⟩ = w.cell? ⟨r, i, none⟩ := by
  simp [World.cell?, World.evPush, Array.getElem?_push, Nat.ne_of_lt h]
theorem push_frozen (w : World) (o : Obj) (r i : Nat) (h : r < w.heap.size) : (w.evPush o).fz ⟨r, i, none⟩ = w.fz ⟨r, i, none⟩ := by
  simp [World.fz, World.evPush, Array.getElem?_push, Nat.ne_of_lt h]
theorem push_new (w : World) (c : Array Value) (t : TypeId) (f : Nat × Nat) (i : Nat) : (w.evPush (.cells c t f)).cell? ⟨w.heap.size, i, none⟩ = c[i]? := by
  simp [World.cell?, World.evPush]
theorem push_new_frozen (w : World) (c : Array Value) (t : TypeId) (lo hi i : Nat) (h : lo = hi) : (w.evPush (.cells c t (lo, hi))).fz ⟨w.heap.size, i, none⟩ = false := by
  simp only [World.fz, World.evPush, Array.getElem?_push_size]
  simp [h]
/-- Nothing of such a block is frozen. -/
theorem fz_all {w : World} {r o : Nat} (h2 : w.fz ⟨r, o, none⟩ = false) (o' : Nat) : w.frozen? ⟨r, o', none⟩ = false := by
  unfold World.fz at h2
  unfold World.frozen?
  simp only at h2 ⊢
  cases hh : w.heap[r]? with
  | none => rfl
  | some ob =>
    cases ob <;> try rfl
    rename_i c t f
    obtain ⟨lo, hi⟩ := f
    rw [hh] at h2
    simp at h2
    subst h2
    simp
theorem fz_frozen {w : World} {r o : Nat} (h1 : (w.cell? ⟨r, o, none⟩).isSome = true) (h2 : w.fz ⟨r, o, none⟩ = false) : w.frozen? ⟨r, o, none⟩ = false := fz_all h2 o
theorem cell_lt {w : World} {r i : Nat} (h : (w.cell? ⟨r, i, none⟩).isSome = true) : r < w.heap.size := by
  rcases Nat.lt_or_ge r w.heap.size with h1 | h1
  · exact h1
  · simp [World.cell?, Array.getElem?_eq_none h1] at h

theorem setCell_heap (w : World) (a : Addr) (v : Value) (r : Nat) (h : r ≠ a.block) : (w.setCell a v).heap[r]? = w.heap[r]? := by
  simp only [World.setCell, Array.getElem?_modify]
  rw [if_neg (by omega)]
theorem setCell_size (w : World) (a : Addr) (v : Value) : (w.setCell a v).heap.size = w.heap.size := by simp [World.setCell]
theorem setCell_cell (w : World) (r i : Nat) (v : Value) (r' i' : Nat) : (w.setCell ⟨r, i, none⟩ v).cell? ⟨r', i', none⟩ =
    if r' = r ∧ i' = i ∧ (w.cell? ⟨r, i, none⟩).isSome = true then some v else w.cell? ⟨r', i', none⟩ := by
  simp only [World.cell?, World.setCell, Array.getElem?_modify]
  by_cases hr : r = r'
  · subst hr
    simp only [if_true]
    cases hh : w.heap[r]? with
    | none => simp
    | some o =>
      cases o <;> simp
      rename_i c e f
      rw [Array.getElem?_setIfInBounds]
      by_cases hi : i = i'
      · subst hi
        by_cases hb : i < c.size
        · simp [hb]
        · simp [hb]
      · have : ¬ i' = i := fun e => hi e.symm
        simp [hi, this]
  · have : ¬ r' = r := fun e => hr e.symm
    simp [hr, this]
theorem setCell_frozen (w : World) (a : Addr) (v : Value) (b : Addr) : (w.setCell a v).fz b = w.fz b := by
  simp only [World.fz, World.setCell, Array.getElem?_modify]
  by_cases hr : a.block = b.block
  · simp only [hr, if_true]
    cases hh : w.heap[b.block]? with
    | none => simp
    | some o =>
      cases o <;> simp
  · simp [hr]

/-! ### Steps of the memory -/

/-- Fewer owners, less known. -/
def Rho.sub (ρ' ρ : Rho) : Prop := ∀ x, ρ' x = none ∨ ρ' x = ρ x
theorem Owned.sub {ρ ρ' : Rho} (h : Rho.sub ρ' ρ) {r o : Nat} (k : Owned ρ' r o) : Owned ρ r o := by
  obtain ⟨x, lo, hi, hx, a, b⟩ := k
  refine ⟨x, lo, hi, ?_, a, b⟩
  rcases h x with h | h
  · rw [h] at hx; cases hx
  · rw [← h]; exact hx

theorem Mem.drop {G : Gh} {h : Heap} {ρ ρ' : Rho} {w : World} (m : Mem G h ρ w) (hs : Rho.sub ρ' ρ) (hb : ∀ b cs, h[b]? = some (some cs) → ρ' (.blk b) = ρ (.blk b)) : Mem G h ρ' w where
  st := m.st
  blk := fun b cs hh hob => by
    obtain ⟨r, lo, hi, h1, h2, h3⟩ := m.blk b cs hh hob
    exact ⟨r, lo, hi, h1, by rw [hb b cs hh]; exact h2, h3⟩
  lt := m.lt
  own := fun x r lo hi hx => by
    rcases hs x with k | k
    · rw [k] at hx; cases hx
    · exact m.own x r lo hi (k ▸ hx)
  dis := fun x y r lo hi lo' hi' hne hx hy => by
    rcases hs x with k | k
    · rw [k] at hx; cases hx
    · rcases hs y with k' | k'
      · rw [k'] at hy; cases hy
      · exact m.dis x y r lo hi lo' hi' hne (k ▸ hx) (k' ▸ hy)
  ob := fun b hb' => by
    rcases hs (.blk b) with k | k
    · exact absurd k hb'
    · exact m.ob b (k ▸ hb')
  obs := m.obs

theorem Fr.drop {G : Gh} {ρ ρ' : Rho} {w : World} (hs : Rho.sub ρ' ρ) : Fr G ρ w G ρ' w :=
  ⟨.refl G, Nat.le_refl _, rfl, rfl, rfl, fun _ _ _ _ => ⟨rfl, rfl⟩, fun _ _ _ _ => rfl, fun _ _ h => .inl (h.sub hs), fun _ _ h => .inl h, fun _ _ h => .inl h⟩

/-- A draw. -/
theorem Mem.drew {G : Gh} {h : Heap} {ρ : Rho} {w : World} (m : Mem G h ρ w) (n : Nat) : Mem G h ρ { w with drawn := n } :=
  ⟨m.st, m.blk, m.lt, m.own, m.dis, m.ob, m.obs⟩
theorem Fr.drew (G : Gh) (ρ : Rho) (w : World) (n : Nat) : Fr G ρ w G ρ { w with drawn := n } :=
  ⟨.refl G, Nat.le_refl _, rfl, rfl, rfl, fun _ _ _ _ => ⟨rfl, rfl⟩, fun _ _ _ _ => rfl, fun _ _ h => .inl h, fun _ _ h => .inl h, fun _ _ h => .inl h⟩

end Ev

/-! Ev, part C: the abstract code, and what it computes. -/
namespace Ev
open Go

inductive A where
  | t (i : Nat)
  | c (v : V)
  | g (n : Nat)
  deriving Inhabited

mutual
inductive EqK where
  | bool
  | int
  | str
  | ptr
  | ifc
  | func
  | agg (fs : EqFs)
inductive EqFs where
  | nil
  | cons (off sz : Nat) (q : EqK) (r : EqFs)
end
instance : Inhabited EqK := ⟨.bool⟩

/-- Conversions: to an integer kind, string to string, string to bytes, bytes to string. -/
inductive CK where
  | i (k : IntKind)
  | ss
  | sb
  | bs
  deriving Inhabited

/-- What is cut or indexed: a string; a slice with elements of so many cells; an array. -/
inductive SK where
  | str
  | sl (s : Nat)
  | arr (n s : Nat)
  deriving Inhabited

inductive AOp where
  | mv (x : A) (take : Bool)
  | pick (c a b : A)
  | alloc (z : List V)
  | box (x : A)
  | build (z : List V) (ps : List (Nat × Nat × A))
  | bsl (s : Nat) (xs : List A) (hp : Bool)
  | load (sz : Nat) (a : A)
  | store (n : Nat) (a x : A)
  | nilck (x : A)
  | bin (op : BinOp) (q : EqK) (x y : A)
  | un (op : UnOp) (x : A)
  | conv (k : CK) (x : A)
  | mkif (t : Nat) (x : A)
  | mkfn (f : Nat) (cap : List A)
  | mksl (s bytes : Nat) (z : V) (l c : A) (hp : Bool)
  | sl (k : SK) (x : A) (lo hi mx : Option A) (take : Bool)
  | fa (off : Nat) (a : A)
  | fld (off sz : Nat) (x : A)
  | ia (k : SK) (x i : A)
  | idx (k : SK) (sz : Nat) (x i : A)
  | ta (t : Nat) (z : V) (ok : Bool) (x : A)
  | ext (x : A) (i : Nat)
  | len (str : Bool) (x : A)
  | app (s bytes : Nat) (x y : A)
  | apph (s bytes : Nat) (x y : A)
  | mx (isMax : Bool) (xs : List A)
  | copy (s : Nat) (x y : A)
  | clr (s : Nat) (z : List V) (x : A)
  | bad
  | frz (x : A) (ag : Bool)
  | ldz (sz : Nat) (a : A) (ag : Bool)
  | lit (x : A)
  | capv (x : A)
  | ovl (s : Nat) (x y : A)
  | appz (s bytes : Nat) (z : List V) (x k : A)
  | boxf (x : A)
  | rng (s : Bool) (x : A)
  | nxt (s : Bool) (x : A)
  | mkm
  | look (q : EqK) (m k : A) (z : V) (ok : Bool)
  | mset (q : EqK) (m k x : A)
  | ent (x : A)
  | mlen (x : A)
  | mdel (q : EqK) (m k : A)
  | callp (f : Nat) (args : List A) (bor : List (Nat × Bool))
  | callh (f : Nat) (args : List A)
  | callv (x : A) (args : List A)
  deriving Inhabited

structure AOpr where
  dst : Option Nat
  op : AOp
  guard : Option (Nat × Bool)
  deriving Inhabited

/-- Who owns what in a region whose order is drawn: at its start, and behind those operations that change it. -/
abbrev Plan := List (Nat × Nat) × List (Nat × List (Nat × Nat))
inductive ACode where
  | skip
  | reg (ops : List AOpr) (keep : List Nat)
  | regd (ops : List AOpr) (keep : List Nat) (own : Plan) (flags : List (Nat × Nat × Nat))
  | seq (a b : ACode)
  | cond (c : A) (a b : ACode)
  | nilc (ops : List AOpr) (x : A) (d : Nat) (neq : Bool) (keep : List Nat) (a b c : ACode)
  | block (id : Nat) (a : ACode)
  | loop (keep : List Nat) (own : List (Nat × Nat)) (a : ACode)
  | exit (id : Nat)
  | ret
  | gap
  | scope (a : ACode)
  | ins (s bytes : Nat) (z : List V) (fo : Nat)
  | mloop (pre : ACode) (it d1 d2 : Nat) (keep : List Nat) (own : List (Nat × Nat)) (id : Nat) (body c : ACode)
  deriving Inhabited

inductive RV where
  | t (i : Nat)
  | c (i sz : Nat)
  deriving Inhabited

structure AFunc where
  code : ACode
  ntmps : Nat
  res : List RV
  ownP : List Nat
  ownR : List Nat
  frz : List (Nat × Bool)
  deriving Inhabited

inductive Ex where
  | n
  | x (id : Nat)
  | r
  deriving DecidableEq

abbrev Env := List (Nat × V)
@[simp] def Env.get : Env → Nat → Option V
  | [], _ => none
  | (i, v) :: r, j => if i = j then some v else Env.get r j
@[simp] def Env.keep (e : Env) : List Nat → Env
  | [] => []
  | i :: r => match e.get i with
    | some v => (i, v) :: Env.keep e r
    | none => Env.keep e r
@[simp] def A.ev (e : Env) : A → Option V
  | .t i => e.get i
  | .c v => some v
  | .g n => (GL.lookup n).map .rp
@[simp] def A.evs (e : Env) : List A → Option (List V)
  | [] => some []
  | a :: r => (a.ev e).bind fun v => (A.evs e r).bind fun vs => some (v :: vs)
@[simp] def Env.put (e : Env) : Option Nat → V → Env
  | none, _ => e
  | some d, v => (d, v) :: e

/-! ### Primitive operations on values -/
@[simp] def boolV : V → Option Bool
  | .bool b => some b
  | _ => none
@[simp] def intV : V → Option (IntKind × Int)
  | .int k n => some (k, n)
  | _ => none
/-- A part of a row of cells: one cell (sz = 0), or an aggregate of sz cells. -/
def partV (off sz : Nat) (cs : List V) : Option V :=
  if sz = 0 then cs[off]? else if off + sz ≤ cs.length then some (.agg ((cs.drop off).take sz)) else none

mutual
def eqV : EqK → V → V → Option Bool
  | .bool, .bool a, .bool b => some (a == b)
  | .int, .int k a, .int k' b => if k = k' then some (a == b) else none
  | .str, .str a, .str b => some (a == b)
  | .ptr, .nilp, .nilp => some true
  | .ptr, .nilp, .ptr _ _ => some false
  | .ptr, .nilp, .rp _ => some false
  | .ptr, .ptr _ _, .nilp => some false
  | .ptr, .rp _, .nilp => some false
  | .ifc, .nili, .nili => some true
  | .ifc, .nili, .iface _ _ => some false
  | .ifc, .iface _ _, .nili => some false
  | .func, .nilf, .nilf => some true
  | .func, .nilf, .fn _ _ => some false
  | .func, .fn _ _, .nilf => some false
  | .agg fs, .agg a, .agg b => eqFs fs a b
  | _, _, _ => none
def eqFs : EqFs → List V → List V → Option Bool
  | .nil, _, _ => some true
  | .cons off sz k r, a, b => (partV off sz a).bind fun x => (partV off sz b).bind fun y => (eqV k x y).bind fun t => if t then eqFs r a b else some false
end

def strCmp (op : BinOp) (a b : List UInt8) : Option V :=
  let eq := a == b
  let lt := Op.bytesLess a b
  match op with
  | .add => if a.length + b.length ≤ 4611686018427387904 then some (.str (a ++ b)) else none
  | .lss => some (.bool lt)
  | .leq => some (.bool (lt || eq))
  | .gtr => some (.bool !(lt || eq))
  | .geq => some (.bool !lt)
  | _ => none

def intOp (op : BinOp) (k : IntKind) (a b : Int) : Option V :=
  match op with
  | .add => some (.int k (k.wrap (a + b)))
  | .sub => some (.int k (k.wrap (a - b)))
  | .mul => some (.int k (k.wrap (a * b)))
  | .quo => if b = 0 then none else some (.int k (k.wrap (a.tdiv b)))
  | .rem => if b = 0 then none else some (.int k (a.tmod b))
  | .and => some (.int k (k.wrap (BitVec.ofInt k.bits a &&& BitVec.ofInt k.bits b).toNat))
  | .or => some (.int k (k.wrap (BitVec.ofInt k.bits a ||| BitVec.ofInt k.bits b).toNat))
  | .xor => some (.int k (k.wrap (BitVec.ofInt k.bits a ^^^ BitVec.ofInt k.bits b).toNat))
  | .andNot => some (.int k (k.wrap (BitVec.ofInt k.bits a &&& ~~~ BitVec.ofInt k.bits b).toNat))
  | .lss => some (.bool (decide (a < b)))
  | .leq => some (.bool (decide (a ≤ b)))
  | .gtr => some (.bool (decide (a > b)))
  | .geq => some (.bool (decide (a ≥ b)))
  | _ => none

def arithV (op : BinOp) (x y : V) : Option V :=
  match x, y with
  | .int k a, .int k' b => if k = k' then intOp op k a b else none
  | .str a, .str b => strCmp op a b
  | _, _ => none

def binV (op : BinOp) (q : EqK) (x y : V) : Option V :=
  match op with
  | .eql => (eqV q x y).map .bool
  | .neq => (eqV q x y).map fun b => .bool (!b)
  | .shl => match x, y with
    | .int k a, .int _ b => if b < 0 then none else some (.int k (k.wrap (a * 2 ^ (min b.toNat k.bits))))
    | _, _ => none
  | .shr => match x, y with
    | .int k a, .int _ b => if b < 0 then none else some (.int k (a.fdiv (2 ^ (min b.toNat k.bits))))
    | _, _ => none
  | op => arithV op x y

def unV (op : UnOp) (x : V) : Option V :=
  match op, x with
  | .neg, .int k n => some (.int k (k.wrap (0 - n)))
  | .not, .bool b => some (.bool !b)
  | .xor, .int k n => some (.int k (k.wrap (BitVec.ofInt k.bits (if k.signed then -1 else k.max) ^^^ BitVec.ofInt k.bits n).toNat))
  | _, _ => none

def byteV (c : UInt8) : V := .int .u8 (c.toNat : Int)
def toByte : V → Option UInt8
  | .int .u8 n => some (UInt8.ofNat n.toNat)
  | _ => none
def toBytes : List V → Option (List UInt8)
  | [] => some []
  | x :: r => (toByte x).bind fun c => (toBytes r).bind fun l => some (c :: l)

/-- The elements of a row: cells themselves, or aggregates of s cells. -/
def chunk (s : Nat) (ag : Bool) : Nat → List V → List V
  | 0, _ => []
  | n + 1, cs => (if ag then .agg (cs.take s) else cs.headD .nilp) :: chunk s ag n (cs.drop s)

/-- May a row of cells be told as elements? -/
def chunkOk (s : Nat) (ag : Bool) (cs : List V) : Bool := ag || (s == 1 && cs.all V.one)

def Heap.row (h : Heap) (b : Nat) : Option (List V) := (h[b]?).bind id
/-- The cells of a slice in the abstract heap. -/
def hsCells (h : Heap) (s b off len : Nat) : Option (List V) :=
  (h.row b).bind fun cs => if off + len * s ≤ cs.length then some ((cs.drop off).take (len * s)) else none

mutual
def V.hf : V → Bool
  | .itr _ => false
  | .mp _ => false
  | .ptr _ _ => false
  | .hs _ _ _ _ => false
  | .hc _ _ _ _ _ => false
  | .rp cs => V.hfs cs
  | .ps _ xs => V.hfs xs
  | .agg cs => V.hfs cs
  | .tup cs => V.hfs cs
  | .iface _ v => v.hf
  | .fn _ cs => V.hfs cs
  | _ => true
def V.hfs : List V → Bool
  | [] => true
  | x :: r => x.hf && V.hfs r
end

def scalar : V → Bool
  | .bool _ | .int _ _ | .str _ => true
  | .tup vs => vs.all fun | .bool _ | .int _ _ | .str _ => true | _ => false
  | _ => false

def convV (h : Heap) (k : CK) (x : V) : Option V :=
  match k, x with
  | .i k, .int _ n => some (.int k (k.wrap n))
  | .ss, .str s => some (.str s)
  | .sb, .str s => some (.ps 1 (s.map byteV))
  | .bs, .ps 1 xs => (toBytes xs).map .str
  | .bs, .hn _ => some (.str [])
  | .bs, .hs 1 b off len => (hsCells h 1 b off len).bind fun cs => (toBytes cs).map .str
  | _, _ => none

def loadV (h : Heap) (sz : Nat) (x : V) : Option V :=
  match x with
  | .rp cs => partV 0 sz cs
  | .ptr b off => (h.row b).bind fun cs => partV off sz cs
  | _ => none

def spliceL (cs : List V) (off : Nat) (new : List V) : List V := cs.take off ++ new ++ cs.drop (off + new.length)

def storeV (h : Heap) (n : Nat) (a x : V) : Option Heap :=
  match a with
  | .ptr b off => (h.row b).bind fun cs =>
    if x.cells.length = n ∧ off + n ≤ cs.length ∧ x.cells.all V.one = true then some (h.set b (some (spliceL cs off x.cells))) else none
  | _ => none

def nilckV : V → Option V
  | .ptr b off => some (.ptr b off)
  | .rp cs => some (.rp cs)
  | .fn f c => some (.fn f c)
  | _ => none

def faV (off : Nat) : V → Option V
  | .ptr b o => some (.ptr b (o + off))
  | .rp cs => some (.rp (cs.drop off))
  | _ => none

def iaV (k : SK) (x i : V) : Option V :=
  match i with
  | .int _ n =>
    match k, x with
    | .sl s, .ps s' xs => if s = s' ∧ 0 ≤ n then (xs[n.toNat]?).map fun x => .rp x.cells else none
    | .sl s, .hs s' b off len => if s = s' ∧ 0 ≤ n ∧ n < len then some (.ptr b (off + n.toNat * s)) else none
    | .arr len s, .ptr b off => if 0 ≤ n ∧ n < len then some (.ptr b (off + n.toNat * s)) else none
    | .arr len s, .rp cs => if 0 ≤ n ∧ n < len then some (.rp (cs.drop (n.toNat * s))) else none
    | _, _ => none
  | _ => none

def idxV (k : SK) (sz : Nat) (x i : V) : Option V :=
  match i with
  | .int _ n =>
    match k, x with
    | .str, .str s => if 0 ≤ n then (s[n.toNat]?).map byteV else none
    | .arr len s, .agg cs => if 0 ≤ n ∧ n < len then partV (n.toNat * s) sz cs else none
    | _, _ => none
  | _ => none

def fldV (off sz : Nat) : V → Option V
  | .agg cs => partV off sz cs
  | _ => none

def buildV : List V → List (Nat × Nat × V) → Option V
  | z, [] => some (.agg z)
  | z, (off, sz, v) :: r => if v.cells.length = sz ∧ off + sz ≤ z.length then buildV (spliceL z off v.cells) r else none

def evParts (e : Env) : List (Nat × Nat × A) → Option (List (Nat × Nat × V))
  | [] => some []
  | (o, s, a) :: r => (a.ev e).bind fun v => (evParts e r).bind fun vs => some ((o, s, v) :: vs)

def extV (x : V) (i : Nat) : Option V :=
  match x with
  | .tup vs => vs[i]?
  | _ => none

def lenV : Bool → V → Option V
  | true, .str s => some (.int .i64 s.length)
  | false, .ps _ xs => some (.int .i64 xs.length)
  | false, .hs _ _ _ len => some (.int .i64 len)
  | false, .hn _ => some (.int .i64 0)
  | _, _ => none

def taV (t : Nat) (z : V) (ok : Bool) : V → Option V
  | .iface t' v => if t' = t then some (if ok then .tup [v, .bool true] else v) else if ok then some (.tup [z, .bool false]) else none
  | .nili => if ok then some (.tup [z, .bool false]) else none
  | _ => none

def mx2 (isMax : Bool) (x y : V) : Option V :=
  match x, y with
  | .int k a, .int _ b => some (.int k (if isMax then (if b > a then b else a) else (if b < a then b else a)))
  | _, _ => none
def mxV (isMax : Bool) : List V → Option V
  | [] => none
  | x :: r => r.foldlM (mx2 isMax) x

/-- A bound of a cut: an int between 0 and m. -/
def bndV (m : Nat) : V → Option Nat
  | .int _ n => if 0 ≤ n ∧ n ≤ m then some n.toNat else none
  | _ => none
def bndO (m d : Nat) : Option V → Option Nat
  | none => some d
  | some v => bndV m v

@[simp] def V.isHs : V → Bool
  | .hs .. => true
  | .hc .. => true
  | _ => false
def slV (k : SK) (x : V) (lo hi mx : Option V) : Option V :=
  match k, x with
  | .str, .str s => if mx.isSome then none else (bndO s.length s.length hi).bind fun h => (bndO h 0 lo).bind fun l => some (.str ((s.take h).drop l))
  | .sl s, .ps s' xs => if s = s' ∧ (mx.isSome = true → hi.isSome = true) then (bndO xs.length xs.length mx).bind fun m => (bndO m xs.length hi).bind fun h => (bndO h 0 lo).bind fun l => some (.ps s ((xs.take h).drop l)) else none
  | .sl s, .hn s' => if s = s' ∧ mx.isNone then (bndO 0 0 hi).bind fun h => (bndO h 0 lo).bind fun _ => some (.hn s) else none
  | .sl s, .hc s' b off len cap => if s = s' then (match lo, hi, mx with
      | none, some (.int _ k), none => if 0 ≤ k ∧ k ≤ cap then some (.hc s b off k.toNat cap) else none
      | some (.int _ l), none, none => if 0 ≤ l ∧ l < len then some (.hs s b (off + l.toNat * s) (len - l.toNat)) else none
      | _, _, _ => none) else none
  | .sl s, .hs s' b off len => if s = s' ∧ (mx.isSome = true → hi.isSome = true) then (bndO len len mx).bind fun m => (bndO m len hi).bind fun h => (bndO h 0 lo).bind fun l => if h - l = 0 then some (.ps s []) else some (.hs s b (off + l * s) (h - l)) else none
  | _, _ => none

/-- A cut that takes no spare cells with it: its end and its bound are the same. -/
def slT (tk : Bool) (k : SK) (x : V) (lo hi mx : Option V) : Option V :=
  if tk then (match hi, mx with | some (.int i a), some (.int j b) => if a = b ∧ i = j ∧ x.isHs = false then slV k x lo hi mx else none | _, _ => none) else slV k x lo hi mx
@[simp] theorem slT_f (k : SK) (x : V) (lo hi mx : Option V) : slT false k x lo hi mx = slV k x lo hi mx := rfl
@[simp] theorem slT_t (k : SK) (x : V) (lo : Option V) (i j : IntKind) (a b : Int) : slT true k x lo (some (.int i a)) (some (.int j b)) = if a = b ∧ i = j ∧ x.isHs = false then slV k x lo (some (.int i a)) (some (.int j b)) else none := rfl
theorem slT_le {tk : Bool} {k : SK} {x v : V} {lo hi mx : Option V} (h : slT tk k x lo hi mx = some v) : slV k x lo hi mx = some v ∧ (tk = true → (∃ z, hi = some z ∧ mx = some z) ∧ x.isHs = false) := by
  cases tk with
  | false => exact ⟨h, fun k => by cases k⟩
  | true =>
    simp only [slT, if_true] at h
    split at h
    · split at h
      · rename_i e
        obtain ⟨rfl, rfl, e⟩ := e
        exact ⟨h, fun _ => ⟨⟨_, rfl, rfl⟩, e⟩⟩
      · cases h
    · cases h

def evO (e : Env) : Option A → Option (Option V)
  | none => some none
  | some a => (a.ev e).map some

/-- Elements that are appended: of a slice, or of a string. -/
def newEls (h : Heap) (s : Nat) : V → Option (List V)
  | .hn s' => if s = s' then some [] else none
  | .ps s' xs => if s = s' then some xs else none
  | .str l => if s = 1 then some (l.map byteV) else none
  | .hs s' b off len => if s = s' ∧ s = 1 then (hsCells h s b off len).bind fun cs => if cs.all V.one = true then some cs else none else none
  | _ => none
def newCells (h : Heap) (s : Nat) : V → Option (List V)
  | .hn s' => if s = s' then some [] else none
  | .ps s' xs => if s = s' then some (flat xs) else none
  | .str l => if s = 1 then some (l.map byteV) else none
  | .hs s' b off len => if s = s' then hsCells h s b off len else none
  | _ => none

def appV (h : Heap) (s bytes : Nat) (x y : V) : Option V :=
  match x with
  | .ps s' xs => if s = s' then (newEls h s y).bind fun ys => if (xs.length + ys.length) * bytes ≤ 140737488355328 then some (.ps s (xs ++ ys)) else none else none
  | _ => none

def appH (h : Heap) (s bytes : Nat) (x y : V) : Option (V × Heap) :=
  match x with
  | .hs s' b off len => if s = s' then (h.row b).bind fun cs => (newCells h s y).bind fun new =>
      if off + len * s = cs.length ∧ (cs.length + new.length) * bytes ≤ 140737488355328 then
        some (.hs s h.length 0 (len + new.length / s), (h.set b none) ++ [some (cs.drop off ++ new)]) else none
    else none
  | .hn s' => if s = s' then (newCells h s y).bind fun new =>
      if new.length = 0 then some (.hn s, h) else if new.length * bytes ≤ 140737488355328 then some (.hs s h.length 0 (new.length / s), h ++ [some new]) else none
    else none
  | _ => none

def mkslV (s bytes : Nat) (z l c : V) : Option (Nat × Nat) :=
  match l, c with
  | .int _ l, .int _ c => if 0 ≤ l ∧ l ≤ c ∧ c * bytes ≤ 140737488355328 ∧ c < 9223372036854775808 ∧ z.cells.length = s then some (l.toNat, c.toNat) else none
  | _, _ => none

/-- The cells that are copied: no more than there is place for. -/
def copySrc (h : Heap) (s len : Nat) (y : V) : Option (List V) :=
  match y with
  | .hs s' b off n => if s = s' then hsCells h s b off (min n len) else none
  | y => (newCells h s y).map fun new => new.take (min (new.length / s) len * s)
/-- copy: the row may grow, if the slice has spare cells. -/
def copyV (h : Heap) (s : Nat) (x y : V) : Option (V × Heap) :=
  match x with
  | .hs s' b off len => if s = s' then (h.row b).bind fun cs => (copySrc h s len y).bind fun new =>
      if off ≤ cs.length then some (.int .i64 ((new.length / s : Nat) : Int), h.set b (some (spliceL cs off new))) else none
    else none
  | _ => none

/-- So many times the same cells. -/
def repZ (n : Nat) (z : List V) : List V := (List.range (n * z.length)).map fun i => z.getD (i % z.length) .nilp
/-- All elements of a slice are zero again. -/
def clrV (h : Heap) (s : Nat) (z : List V) (x : V) : Option (V × Heap) :=
  match x with
  | .hs s' b off len => if s = s' ∧ z.length = s then (h.row b).bind fun cs => if off + len * s ≤ cs.length then some (.tup [], h.set b (some (spliceL cs off (repZ len z)))) else none
    else none
  | _ => none

/-- Slices of the abstract heap are handed out as plain lists, and their blocks are given up. -/
def freeze1 (ag : Bool) (v : V) (h : Heap) : Option (V × Heap) :=
  match v with
  | .hs s b off len => (hsCells h s b off len).bind fun cs => if chunkOk s ag cs then some (.ps s (chunk s ag len cs), h.set b none) else none
  | .hn s => some (.ps s [], h)
  | .ps s xs => some (.ps s xs, h)
  | _ => none
/-- The same of an aggregate's cells. -/
def freezeC (ag : Bool) : List V → Heap → Option (List V × Heap)
  | [], h => some ([], h)
  | v :: r, h => (match v with
      | .hs s b off len => freeze1 (ag || decide (1 < s)) (.hs s b off len) h
      | .hn s => some (.ps s [], h)
      | v => some (v, h)).bind fun q => (freezeC ag r q.2).bind fun p => some (q.1 :: p.1, p.2)
def freezeA (ag : Bool) (v : V) (h : Heap) : Option (V × Heap) :=
  match v with
  | .agg cs => (freezeC ag cs h).bind fun q => some (.agg q.1, q.2)
  | v => freeze1 ag v h
/-- Bytes that stand in the text: written once, never again. -/
def litV (_h : Heap) (_x : V) : Option (V × Heap) := none

/-! A walk over a string lies in the abstract heap as the string and the place; a map as the pairs of its keys and values. -/
def nxtV (h : Heap) : V → Option (V × Heap)
  | .itr b => (h.row b).bind fun cs => match cs with
    | [.str s, .int .i64 p] => if p < 0 then none else if p.toNat < s.length then
        let d := Utf8.decode ⟨s.toArray⟩ p.toNat
        some (.tup [.bool true, .int .i64 p, .int .i32 d.1], h.set b (some [.str s, .int .i64 ((p.toNat + d.2 : Nat) : Int)]))
      else some (.tup [.bool false], h)
    | _ => none
  | _ => none
/-- A walk over a map: the row of the walk, what was told, and the stamps that are left. -/
def seenHas : List V → Nat → Bool
  | [], _ => false
  | .ptr i _ :: r, j => i == j || seenHas r j
  | _ :: r, j => seenHas r j
def cands (seen : List V) : List V → Nat → List Nat
  | [], _ => []
  | .tup _ :: r, i => if seenHas seen i then cands seen r (i + 1) else i :: cands seen r (i + 1)
  | _ :: r, i => cands seen r (i + 1)
def isKvs : List V → Bool
  | [] => true
  | .tup _ :: _ => true
  | .nilp :: _ => true
  | _ => false
/-- What comes of one step of a walk over a map: nothing is left, or one of those that are left is told. -/
def picks (h : Heap) : V → Option (List Heap)
  | .itr w => (h.row w).bind fun cs => match cs with
    | [.mp b, .ptr since last, .tup seen] => (h.row b).bind fun kvs => if (isKvs kvs && decide (kvs.length ≤ since) && decide (since ≤ last)) = true then
        some ((cands seen kvs 0).map fun p => h.set w (some [.mp b, .ptr since kvs.length, .tup (seen ++ [.ptr p 0])])) else none
    | [.mpn, .nilp] => some []
    | _ => none
  | _ => none
/-- It is told to be over where nothing is left. -/
def nxmV (h : Heap) (x : V) : Option (V × Heap) := (picks h x).bind fun l => if l.isEmpty then some (.tup [.bool false], h) else none
/-- The entry that was told last. -/
def lastV : List V → Option Nat
  | [] => none
  | [.ptr j _] => some j
  | _ :: r => lastV r
def entV (h : Heap) : V → Option V
  | .itr w => (h.row w).bind fun cs => match cs with
    | [.mp b, .ptr _ last, .tup seen] => (h.row b).bind fun kvs => if (isKvs kvs && kvs.length == last) = true then (lastV seen).bind fun j => (match kvs[j]? with | some (.tup [k, v]) => some (.tup [k, v]) | _ => none) else none
    | _ => none
  | _ => none
/-- A walk begins; a step of one: over a string, or over a map. -/
def rngS (h : Heap) (s : Bool) (x : V) : Option (V × Heap) :=
  match s, x with
  | true, .str l => some (.itr h.length, h ++ [some [.str l, .int .i64 0]])
  | false, .mp b => (h.row b).bind fun kvs => if isKvs kvs then some (.itr h.length, h ++ [some [.mp b, .ptr kvs.length kvs.length, .tup []]]) else none
  | false, .mpn => some (.itr h.length, h ++ [some [.mpn, .nilp]])
  | _, _ => none
def nxsV (h : Heap) (s : Bool) (x : V) : Option (V × Heap) := if s then nxtV h x else nxmV h x
/-- Are two keys the same? -/
def keyEq : EqK → V → V → Option Bool
  | .int, .int k a, .int k' b => if k = k' then some (a == b) else none
  | .str, .str a, .str b => some (a == b)
  | .bool, .bool a, .bool b => some (a == b)
  | _, _, _ => none
/-- Where a key stands, and its value. -/
def kvFind (q : EqK) (k : V) : List V → Nat → Option (Option (Nat × V))
  | [], _ => some none
  | e :: r, i => match e with
    | .tup [k', v] => (keyEq q k k').bind fun t => if t then some (some (i, v)) else kvFind q k r (i + 1)
    | .nilp => kvFind q k r (i + 1)
    | _ => none
def kvsOf (h : Heap) : V → Option (List V)
  | .mp b => h.row b
  | .mpn => some []
  | _ => none
def lookV (h : Heap) (q : EqK) (m k z : V) (ok : Bool) : Option V :=
  (kvsOf h m).bind fun kvs => (keyEq q k k).bind fun _ => (kvFind q k kvs 0).bind fun r => match r with
    | some (_, v) => some (if ok then .tup [v, .bool true] else v)
    | none => some (if ok then .tup [z, .bool false] else z)
def msetV (h : Heap) (q : EqK) (m k x : V) : Option Heap :=
  match m with
  | .mp b => (h.row b).bind fun kvs => (keyEq q k k).bind fun _ => (kvFind q k kvs 0).bind fun r => match r with
    | some (i, _) => some (h.set b (some (kvs.set i (.tup [k, x]))))
    | none => some (h.set b (some (kvs ++ [.tup [k, x]])))
  | _ => none

/-- A key is taken out: nil stands in its place. -/
def mdelV (h : Heap) (q : EqK) (m k : V) : Option Heap :=
  match m with
  | .mp b => (h.row b).bind fun kvs => (keyEq q k k).bind fun _ => (kvFind q k kvs 0).bind fun r => match r with
    | some (i, _) => some (h.set b (some (kvs.set i .nilp)))
    | none => some h
  | .mpn => (keyEq q k k).bind fun _ => some h
  | _ => none
/-- How many entries a map has. -/
def kvCount : List V → Option Nat
  | [] => some 0
  | .tup _ :: r => (kvCount r).map (· + 1)
  | .nilp :: r => kvCount r
  | _ :: _ => none
def mlenV (h : Heap) (m : V) : Option V := (kvsOf h m).bind fun kvs => (kvCount kvs).map fun (n : Nat) => V.int .i64 (n : Int)

/-! Slices whose spare cells are counted: what slices.Insert asks. -/
def capV : V → Option V
  | .hc _ _ _ _ cap => some (.int .i64 (cap : Int))
  | _ => none
/-- Do they overlap? Lasting cells, and a block of the heap, do not. -/
def ovlV (h : Heap) (s : Nat) (x y : V) : Option V :=
  match x, y with
  | .ps s1 (_ :: _), .hs s2 b _ (_ + 1) => if s1 = s ∧ s2 = s ∧ (h.row b).isSome = true then some (.bool false) else none
  | _, _ => none
/-- Zeros behind a slice that has no room for them. -/
def appZ (h : Heap) (s bytes : Nat) (z : List V) (x k : V) : Option (V × Heap) :=
  match x, k with
  | .hc s' b off len cap, .int .i64 j => if s = s' ∧ z.length = s ∧ 0 ≤ j ∧ cap < len + j.toNat ∧ (len + j.toNat) * bytes ≤ 140737488355328 then
      (hsCells h s b off len).bind fun old => some (.hs s h.length 0 (len + j.toNat), h ++ [some (old ++ repZ j.toNat z)]) else none
  | _, _ => none

/-- Arguments that are lent: slices of the abstract heap, read as plain lists. -/
def lend (h : Heap) (bor : List (Nat × Bool)) : Nat → List V → Option (List V)
  | _, [] => some []
  | i, v :: r => (match bor.lookup i, v with
      | some _, .hn s => some (V.ps s [])
      | some ag, .hs s b off len => (hsCells h s b off len).bind fun cs => if chunkOk s ag cs then some (V.ps s (chunk s ag len cs)) else none
      | _, v => some v).bind fun v => (lend h bor (i + 1) r).bind fun vs => some (v :: vs)

/-- What a called function computes; and which functions may be called as values. -/
structure Callee where
  call : Nat → List V → Heap → Option (V × Heap)
  free : Nat → Bool

/-- A call that sees nothing of the abstract heap. -/
def callP (C : Callee) (f : Nat) (args : List V) (lent : Bool) : Option V :=
  if V.hfs args then (C.call f args []).bind fun (v, _) => if v.hf && (!lent || scalar v) then some v else none else none

def lents (bor : List (Nat × Bool)) (args : List V) : Bool :=
  bor.any fun (i, _) => match args[i]? with | some (.hs ..) => true | some (.hn _) => true | _ => false

def evOp (C : Callee) (op : AOp) (e : Env) (h : Heap) : Option (V × Heap) :=
  match op with
  | .mv x _ => (x.ev e).bind fun v => some (v, h)
  | .pick c a b => (c.ev e).bind fun c => (boolV c).bind fun t => ((if t then a else b).ev e).bind fun v => some (v, h)
  | .alloc z => some (.ptr h.length 0, h ++ [some z])
  | .box x => (x.ev e).bind fun v => if v.cells.all V.one = true then some (.ptr h.length 0, h ++ [some v.cells]) else none
  | .build z ps => (evParts e ps).bind fun ps => (buildV z ps).bind fun v => some (v, h)
  | .bsl s xs hp => (A.evs e xs).bind fun vs => if vs.all (fun v => v.cells.length == s && v.cells.all V.one) = true then
      (if hp then (if vs.isEmpty then some (.hn s, h) else some (.hs s h.length 0 vs.length, h ++ [some (flat vs)])) else some (.ps s vs, h)) else none
  | .load sz a => (a.ev e).bind fun a => (loadV h sz a).bind fun v => some (v, h)
  | .store n a x => (a.ev e).bind fun a => (x.ev e).bind fun x => (storeV h n a x).bind fun h => some (.tup [], h)
  | .nilck x => (x.ev e).bind fun x => (nilckV x).bind fun v => some (v, h)
  | .bin op q x y => (x.ev e).bind fun x => (y.ev e).bind fun y => (binV op q x y).bind fun v => some (v, h)
  | .un op x => (x.ev e).bind fun x => (unV op x).bind fun v => some (v, h)
  | .conv k x => (x.ev e).bind fun x => (convV h k x).bind fun v => some (v, h)
  | .mkif t x => (x.ev e).bind fun x => some (.iface t x, h)
  | .mkfn f cap => (A.evs e cap).bind fun vs => some (.fn f vs, h)
  | .mksl s bytes z l c hp => (l.ev e).bind fun l => (c.ev e).bind fun c => (mkslV s bytes z l c).bind fun (l, _) =>
      if hp then some (.hs s h.length 0 l, h ++ [some (flat (List.replicate l z))]) else some (.ps s (List.replicate l z), h)
  | .sl k x lo hi mx tk => (x.ev e).bind fun x => (evO e lo).bind fun lo => (evO e hi).bind fun hi => (evO e mx).bind fun mx => (slT tk k x lo hi mx).bind fun v => some (v, h)
  | .fa off a => (a.ev e).bind fun a => (faV off a).bind fun v => some (v, h)
  | .fld off sz x => (x.ev e).bind fun x => (fldV off sz x).bind fun v => some (v, h)
  | .ia k x i => (x.ev e).bind fun x => (i.ev e).bind fun i => (iaV k x i).bind fun v => some (v, h)
  | .idx k sz x i => (x.ev e).bind fun x => (i.ev e).bind fun i => (idxV k sz x i).bind fun v => some (v, h)
  | .ta t z ok x => (x.ev e).bind fun x => (taV t z ok x).bind fun v => some (v, h)
  | .ext x i => (x.ev e).bind fun x => (extV x i).bind fun v => some (v, h)
  | .len str x => (x.ev e).bind fun x => (lenV str x).bind fun v => some (v, h)
  | .app s bytes x y => (x.ev e).bind fun x => (y.ev e).bind fun y => (appV h s bytes x y).bind fun v => some (v, h)
  | .apph s bytes x y => (x.ev e).bind fun x => (y.ev e).bind fun y => appH h s bytes x y
  | .mx isMax xs => (A.evs e xs).bind fun vs => (mxV isMax vs).bind fun v => some (v, h)
  | .copy s x y => (x.ev e).bind fun x => (y.ev e).bind fun y => copyV h s x y
  | .clr s z x => (x.ev e).bind fun x => clrV h s z x
  | .bad => none
  | .ldz sz a ag => (a.ev e).bind fun a => (loadV h sz a).bind fun v => freezeA ag v h
  | .frz x ag => (x.ev e).bind fun x => freezeA ag x h
  | .lit x => (x.ev e).bind fun x => litV h x
  | .capv x => (x.ev e).bind fun x => (capV x).bind fun v => some (v, h)
  | .ovl s x y => (x.ev e).bind fun x => (y.ev e).bind fun y => (ovlV h s x y).bind fun v => some (v, h)
  | .appz s bytes z x k => (x.ev e).bind fun x => (k.ev e).bind fun k => appZ h s bytes z x k
  | .boxf x => (x.ev e).bind fun v => if v.cells.all V.one = true then some (.rp v.cells, h) else none
  | .rng s x => (x.ev e).bind fun x => rngS h s x
  | .nxt s x => (x.ev e).bind fun x => nxsV h s x
  | .mkm => some (.mp h.length, h ++ [some []])
  | .look q m k z ok => (m.ev e).bind fun m => (k.ev e).bind fun k => (lookV h q m k z ok).bind fun v => some (v, h)
  | .ent x => (x.ev e).bind fun x => (entV h x).bind fun v => some (v, h)
  | .mlen x => (x.ev e).bind fun x => (mlenV h x).bind fun v => some (v, h)
  | .mdel q m k => (m.ev e).bind fun m => (k.ev e).bind fun k => (mdelV h q m k).bind fun h => some (.tup [], h)
  | .mset q m k x => (m.ev e).bind fun m => (k.ev e).bind fun k => (x.ev e).bind fun x => (msetV h q m k x).bind fun h => some (.tup [], h)
  | .callp f args bor => (A.evs e args).bind fun vs => (lend h bor 0 vs).bind fun us => (callP C f us (lents bor vs)).bind fun v => some (v, h)
  | .callh f args => (A.evs e args).bind fun vs => C.call f vs h
  | .callv x args => (x.ev e).bind fun x => (A.evs e args).bind fun vs => match x with | .fn f cap => if C.free f then C.call f (vs ++ cap) h else none | _ => none

/-- Is a guarded operation wanted? -/
@[simp] def wantedA (g : Option (Nat × Bool)) (e : Env) : Option Bool :=
  match g with
  | none => some true
  | some (s, b) => match e.get s with
    | some (.bool x) => some (x == b)
    | some (.tup []) => some false
    | _ => none

@[simp] def runOps (C : Callee) : List AOpr → Env → Heap → Option (Env × Heap)
  | [], e, h => some (e, h)
  | o :: r, e, h => (wantedA o.guard e).bind fun w => if w then (evOp C o.op e h).bind fun (v, h') => runOps C r (e.put o.dst v) h' else runOps C r (e.put o.dst (.tup [])) h

mutual
def V.beq : V → V → Bool
  | .bool a, .bool b => a == b
  | .int k a, .int l b => k == l && a == b
  | .str a, .str b => a == b
  | .nilp, .nilp => true
  | .ptr a b, .ptr c d => a == c && b == d
  | .rp a, .rp b => V.beqs a b
  | .ps s a, .ps t b => s == t && V.beqs a b
  | .hs a b c d, .hs a' b' c' d' => a == a' && b == b' && c == c' && d == d'
  | .hc a b c d e, .hc a' b' c' d' e' => a == a' && b == b' && c == c' && d == d' && e == e'
  | .hn a, .hn b => a == b
  | .agg a, .agg b => V.beqs a b
  | .tup a, .tup b => V.beqs a b
  | .iface t a, .iface u b => t == u && V.beq a b
  | .nili, .nili => true
  | .fn f a, .fn g b => f == g && V.beqs a b
  | .nilf, .nilf => true
  | .itr a, .itr b => a == b
  | .mp a, .mp b => a == b
  | .mpn, .mpn => true
  | _, _ => false
def V.beqs : List V → List V → Bool
  | [], [] => true
  | x :: r, y :: q => V.beq x y && V.beqs r q
  | _, _ => false
end

mutual
theorem beq_eq : ∀ (a b : V), V.beq a b = true → a = b
  | .bool a, b, h => by cases b <;> simp [V.beq] at h; rw [h]
  | .int k a, b, h => by cases b <;> simp [V.beq] at h; rw [h.1, h.2]
  | .str a, b, h => by cases b <;> simp [V.beq] at h; rw [h]
  | .nilp, b, h => by cases b <;> simp [V.beq] at h; rfl
  | .ptr a c, b, h => by cases b <;> simp [V.beq] at h; rw [h.1, h.2]
  | .rp a, b, h => by
    cases b <;> simp [V.beq] at h
    rw [beqs_eq _ _ h]
  | .ps s a, b, h => by
    cases b <;> simp [V.beq] at h
    rw [h.1, beqs_eq _ _ h.2]
  | .hs a c d e, b, h => by
    cases b <;> simp [V.beq] at h
    obtain ⟨⟨⟨h1, h2⟩, h3⟩, h4⟩ := h
    rw [h1, h2, h3, h4]
  | .hc a c d e f, b, h => by
    cases b <;> simp [V.beq] at h
    obtain ⟨⟨⟨⟨h1, h2⟩, h3⟩, h4⟩, h5⟩ := h
    rw [h1, h2, h3, h4, h5]
  | .hn a, b, h => by cases b <;> simp [V.beq] at h; rw [h]
  | .agg a, b, h => by
    cases b <;> simp [V.beq] at h
    rw [beqs_eq _ _ h]
  | .tup a, b, h => by
    cases b <;> simp [V.beq] at h
    rw [beqs_eq _ _ h]
  | .iface t a, b, h => by
    cases b <;> simp [V.beq] at h
    rw [h.1, beq_eq _ _ h.2]
  | .nili, b, h => by cases b <;> simp [V.beq] at h; rfl
  | .fn f a, b, h => by
    cases b <;> simp [V.beq] at h
    rw [h.1, beqs_eq _ _ h.2]
  | .nilf, b, h => by cases b <;> simp [V.beq] at h; rfl
  | .itr a, b, h => by cases b <;> simp [V.beq] at h; rw [h]
  | .mp a, b, h => by cases b <;> simp [V.beq] at h; rw [h]
  | .mpn, b, h => by cases b <;> simp [V.beq] at h; rfl
theorem beqs_eq : ∀ (a b : List V), V.beqs a b = true → a = b
  | [], b, h => by cases b <;> simp [V.beqs] at h; rfl
  | x :: r, b, h => by
    cases b <;> simp [V.beqs] at h
    rw [beq_eq _ _ h.1, beqs_eq _ _ h.2]
end

mutual
theorem V.beq_self : ∀ v : V, V.beq v v = true
  | .bool _ => by simp [V.beq]
  | .int _ _ => by simp [V.beq]
  | .str _ => by simp [V.beq]
  | .nilp => rfl
  | .ptr _ _ => by simp [V.beq]
  | .rp cs => by simp [V.beq, V.beqs_self cs]
  | .ps _ cs => by simp [V.beq, V.beqs_self cs]
  | .hs _ _ _ _ => by simp [V.beq]
  | .hc _ _ _ _ _ => by simp [V.beq]
  | .hn _ => by simp [V.beq]
  | .agg cs => by simp [V.beq, V.beqs_self cs]
  | .tup cs => by simp [V.beq, V.beqs_self cs]
  | .iface _ v => by simp [V.beq, V.beq_self v]
  | .nili => rfl
  | .fn _ cs => by simp [V.beq, V.beqs_self cs]
  | .nilf => rfl
  | .itr _ => by simp [V.beq]
  | .mp _ => by simp [V.beq]
  | .mpn => rfl
theorem V.beqs_self : ∀ cs : List V, V.beqs cs cs = true
  | [] => rfl
  | v :: r => by simp [V.beqs, V.beq_self v, V.beqs_self r]
end
/-- The states ahead of each operation, and behind the last one. -/
def runTr (C : Callee) : List AOpr → Env → Heap → List (Env × Heap)
  | [], e, h => [(e, h)]
  | o :: r, e, h => (e, h) :: match wantedA o.guard e with
    | some true => (match evOp C o.op e h with | some (v, h') => runTr C r (e.put o.dst v) h' | none => [])
    | some false => runTr C r (e.put o.dst (.tup [])) h
    | none => []

/-- A reading that no order fixes yields the same at each state that an order allows. -/
def flagOk (C : Callee) (ops : List AOpr) (tr : List (Env × Heap)) (i lo hi : Nat) : Bool :=
  match ops[i]?, tr[i]? with
  | some o, some (e, h) => (match wantedA o.guard e with
    | some true => (match evOp C o.op e h with
      | some (v, _) => (List.range' lo (hi + 1 - lo)).all fun p => match tr[p]? with
        | some (_, hp) => (match evOp C o.op e hp with | some (u, _) => V.beq u v | none => false)
        | none => false
      | none => false)
    | _ => true)
  | _, _ => false
def flagsOk (C : Callee) (ops : List AOpr) (e : Env) (h : Heap) : List (Nat × Nat × Nat) → Bool
  | [] => true
  | fs => let tr := runTr C ops e h; fs.all fun (i, lo, hi) => flagOk C ops tr i lo hi

def iter (g : Env → Heap → Option (Ex × Env × Heap)) : Nat → Env → Heap → Option (Ex × Env × Heap)
  | 0, _, _ => none
  | n + 1, e, h => (g e h).bind fun (x, e', h') => match x with | .n => iter g n e' h' | x => some (x, e', h')

/-- May a slice be nil? -/
def nilV : V → Option Bool
  | .ps _ [] => some true
  | .ps _ (_ :: _) => some false
  | .hs _ _ _ _ => some false
  | .hn _ => some true
  | _ => none
/-- What comes behind. -/
def thenR (r : Option (Ex × Env × Heap)) (k : Env → Heap → Option (Ex × Env × Heap)) : Option (Ex × Env × Heap) :=
  r.bind fun (x, e, h) => match x with | .n => k e h | x => some (x, e, h)
def Ex.beq : Ex → Ex → Bool
  | .n, .n => true
  | .x a, .x b => a == b
  | .r, .r => true
  | _, _ => false
theorem Ex.beq_eq {a b : Ex} (h : Ex.beq a b = true) : a = b := by cases a <;> cases b <;> simp_all [Ex.beq]
theorem Ex.beq_self (a : Ex) : Ex.beq a a = true := by cases a <;> simp [Ex.beq]
def envEq : Env → Env → Bool
  | [], [] => true
  | (i, x) :: r, (j, y) :: q => i == j && V.beq x y && envEq r q
  | _, _ => false
theorem envEq_eq : ∀ {a b : Env}, envEq a b = true → a = b
  | [], [], _ => rfl
  | (i, x) :: r, (j, y) :: q, h => by
    simp [envEq] at h
    rw [h.1.1, Ev.beq_eq _ _ h.1.2, envEq_eq h.2]
theorem envEq_self : ∀ a : Env, envEq a a = true
  | [] => rfl
  | (i, x) :: r => by simp [envEq, V.beq_self, envEq_self r]
def heapEq : Heap → Heap → Bool
  | [], [] => true
  | none :: r, none :: q => heapEq r q
  | some x :: r, some y :: q => V.beqs x y && heapEq r q
  | _, _ => false
theorem heapEq_eq : ∀ {a b : Heap}, heapEq a b = true → a = b
  | [], [], _ => rfl
  | none :: r, none :: q, h => by rw [heapEq_eq (a := r) (b := q) h]
  | some x :: r, some y :: q, h => by
    simp [heapEq] at h
    rw [Ev.beqs_eq _ _ h.1, heapEq_eq h.2]
  | none :: _, some _ :: _, h => by simp [heapEq] at h
  | some _ :: _, none :: _, h => by simp [heapEq] at h
theorem heapEq_self : ∀ a : Heap, heapEq a a = true
  | [] => rfl
  | none :: r => heapEq_self r
  | some x :: r => by simp [heapEq, V.beqs_self, heapEq_self r]
/-- Whichever way is gone, the same comes out. -/
def bothR (a b : Option (Ex × Env × Heap)) : Option (Ex × Env × Heap) :=
  match a, b with
  | some (x, e, h), some (x', e', h') => if (Ex.beq x x' && envEq e e' && heapEq h h') = true then some (x, e, h) else none
  | _, _ => none

theorem bothR_some {a b : Option (Ex × Env × Heap)} {q : Ex × Env × Heap} (h : bothR a b = some q) : a = some q ∧ b = some q := by
  cases a with
  | none => simp [bothR] at h
  | some a =>
    cases b with
    | none => simp [bothR] at h
    | some b =>
      obtain ⟨x, e, g⟩ := a
      obtain ⟨x', e', g'⟩ := b
      simp only [bothR] at h
      split at h
      · rename_i c
        simp only [Bool.and_eq_true] at c
        have h1 := Ex.beq_eq c.1.1
        have h2 := envEq_eq c.1.2
        have h3 := heapEq_eq c.2
        subst h1 h2 h3
        exact ⟨h, h⟩
      · cases h
theorem bothR_of {a b : Option (Ex × Env × Heap)} {q : Ex × Env × Heap} (h1 : a = some q) (h2 : b = some q) : bothR a b = some q := by
  obtain ⟨x, e, g⟩ := q
  rw [h1, h2]
  simp [bothR, Ex.beq_self, envEq_self, heapEq_self]

theorem seenHas_iff (l : List Nat) (j : Nat) : seenHas (l.map fun j => V.ptr j 0) j = l.contains j := by
  induction l with
  | nil => rfl
  | cons a l ih =>
    simp only [List.map_cons, seenHas, ih, List.contains_cons]
    congr 1
    exact Bool.eq_iff_iff.2 ⟨fun h => beq_iff_eq.2 (beq_iff_eq.1 h).symm, fun h => beq_iff_eq.2 (beq_iff_eq.1 h).symm⟩
theorem mem_cands {seen : List V} : ∀ (kvs : List V) (i p : Nat), p ∈ cands seen kvs i ↔ i ≤ p ∧ (∃ x, kvs[p - i]? = some (.tup x)) ∧ seenHas seen p = false
  | [], i, p => by simp [cands]
  | e :: kvs, i, p => by
    have ih := mem_cands (seen := seen) kvs (i + 1) p
    have shift : (i ≤ p ∧ (∃ x, (e :: kvs)[p - i]? = some (.tup x)) ∧ seenHas seen p = false) ↔ (p = i ∧ (∃ x, e = .tup x) ∧ seenHas seen p = false) ∨ (i + 1 ≤ p ∧ (∃ x, kvs[p - (i + 1)]? = some (.tup x)) ∧ seenHas seen p = false) := by
      by_cases h : p = i
      · subst h
        simp
        intro h; omega
      · by_cases h2 : i + 1 ≤ p
        · have : p - i = (p - (i + 1)) + 1 := by omega
          rw [this, List.getElem?_cons_succ]
          simp [h, h2]
          omega
        · simp [h, h2]
          omega
    rw [shift, ← ih]
    cases e <;> simp only [cands] <;> try (simp; done)
    rename_i x
    split
    · rename_i hs
      constructor
      · exact .inr
      · rintro (⟨rfl, _, h⟩ | h)
        · rw [hs] at h; cases h
        · exact h
    · rename_i hs
      simp only [List.mem_cons]
      constructor
      · rintro (rfl | h)
        · exact .inl ⟨rfl, ⟨x, rfl⟩, by simpa using hs⟩
        · exact .inr h
      · rintro (⟨rfl, _⟩ | h)
        · exact .inl rfl
        · exact .inr h
/-- What two heaps have in common. -/
def hMeet : Heap → Heap → Heap
  | [], h => h.map fun _ => none
  | h, [] => h.map fun _ => none
  | some x :: r, some y :: q => (if V.beqs x y then some x else none) :: hMeet r q
  | _ :: r, _ :: q => none :: hMeet r q
/-- Two ways to one end: what they have in common. -/
def joinR (a b : Option (Ex × Env × Heap)) : Option (Ex × Env × Heap) :=
  match a, b with
  | some (x, e, h), some (x', e', h') => if (Ex.beq x x' && envEq e e') = true then some (x, e, hMeet h h') else none
  | _, _ => none
def joinAll : List (Option (Ex × Env × Heap)) → Option (Ex × Env × Heap)
  | [] => none
  | [a] => a
  | a :: r => joinR a (joinAll r)
/-- A walk over a map: whatever is told next. -/
def mgo (st : Env → Heap → Option (List Heap)) (body c : Env → Heap → Option (Ex × Env × Heap)) (id : Nat) : Nat → Env → Heap → Option (Ex × Env × Heap)
  | 0, _, _ => none
  | m + 1, e, h => (st e h).bind fun hs => if hs.isEmpty then c e h else joinAll (hs.map fun h1 => (body e h1).bind fun (x, e2, h2) => match x with
    | .n => mgo st body c id m e2 h2
    | .x i => if i = id then c e2 h2 else some (.x i, e2, h2)
    | .r => some (.r, e2, h2))

/-- The second heap knows no more than the first one. -/
def Weak (h h' : Heap) : Prop := h.length ≤ h'.length ∧ ∀ (b : Nat) (cs : List V), h'[b]? = some (some cs) → h[b]? = some (some cs)
theorem Weak.refl (h : Heap) : Weak h h := ⟨Nat.le_refl _, fun _ _ k => k⟩
theorem Weak.trans {h h1 h2 : Heap} (a : Weak h h1) (b : Weak h1 h2) : Weak h h2 := ⟨Nat.le_trans a.1 b.1, fun i cs k => a.2 i cs (b.2 i cs k)⟩
theorem noneMap {h : Heap} {b : Nat} {cs : List V} (k : (h.map fun _ => (none : Option (List V)))[b]? = some (some cs)) : False := by
  rw [List.getElem?_map] at k
  cases h[b]? <;> simp at k
theorem hMeet_len : ∀ (h k : Heap), (hMeet h k).length = max h.length k.length
  | [], k => by simp [hMeet]
  | a :: h, [] => by cases a <;> simp [hMeet]
  | a :: h, b :: k => by cases a <;> cases b <;> simp [hMeet, hMeet_len h k] <;> omega
theorem hMeet_get : ∀ (h k : Heap) (b : Nat) (cs : List V), (hMeet h k)[b]? = some (some cs) → h[b]? = some (some cs) ∧ k[b]? = some (some cs)
  | [], k, b, cs, e => by simp only [hMeet] at e; exact (noneMap e).elim
  | a :: h, [], b, cs, e => by
    have : hMeet (a :: h) [] = (a :: h).map fun _ => none := by cases a <;> rfl
    rw [this] at e
    exact (noneMap e).elim
  | a :: h, c :: k, b, cs, e => by
    cases b with
    | zero =>
      cases a <;> cases c <;> simp [hMeet] at e
      rename_i x y
      obtain ⟨h1, rfl⟩ := e
      have := beqs_eq _ _ h1
      subst this
      simp
    | succ b =>
      have : (hMeet (a :: h) (c :: k))[b + 1]? = (hMeet h k)[b]? := by cases a <;> cases c <;> simp [hMeet]
      rw [this] at e
      simpa using hMeet_get h k b cs e
theorem hMeet_l (h k : Heap) : Weak h (hMeet h k) := ⟨by rw [hMeet_len]; omega, fun b cs e => (hMeet_get h k b cs e).1⟩
theorem hMeet_r (h k : Heap) : Weak k (hMeet h k) := ⟨by rw [hMeet_len]; omega, fun b cs e => (hMeet_get h k b cs e).2⟩
theorem joinR_some {a b : Option (Ex × Env × Heap)} {x : Ex} {e : Env} {h : Heap} (k : joinR a b = some (x, e, h)) : ∃ h1 h2, a = some (x, e, h1) ∧ b = some (x, e, h2) ∧ Weak h1 h ∧ Weak h2 h ∧ h = hMeet h1 h2 := by
  cases a with
  | none => simp [joinR] at k
  | some a =>
    cases b with
    | none => simp [joinR] at k
    | some b =>
      obtain ⟨x1, e1, g1⟩ := a
      obtain ⟨x2, e2, g2⟩ := b
      simp only [joinR] at k
      split at k
      · rename_i c
        simp only [Bool.and_eq_true] at c
        have h1 := Ex.beq_eq c.1
        have h2 := envEq_eq c.2
        subst h1 h2
        cases k
        exact ⟨g1, g2, rfl, rfl, hMeet_l _ _, hMeet_r _ _, rfl⟩
      · cases k
theorem joinAll_some : ∀ (l : List (Option (Ex × Env × Heap))) {x : Ex} {e : Env} {h : Heap}, joinAll l = some (x, e, h) → ∀ r, r ∈ l → ∃ h1, r = some (x, e, h1) ∧ Weak h1 h
  | [], _, _, _, k, r, hr => by cases hr
  | [a], x, e, h, k, r, hr => by
    have := List.mem_singleton.1 hr
    subst this
    exact ⟨h, k, .refl h⟩
  | a :: b :: l, x, e, h, k, r, hr => by
    simp only [joinAll] at k
    obtain ⟨h1, h2, q1, q2, q3, q4, _⟩ := joinR_some k
    rcases List.mem_cons.1 hr with rfl | hr
    · exact ⟨h1, q1, q3⟩
    · obtain ⟨h3, p1, p2⟩ := joinAll_some (b :: l) q2 r hr
      exact ⟨h3, p1, p2.trans q4⟩

/-- Elements laid into a slice, not at its end: the row moves. -/
def insV (h : Heap) (s bytes : Nat) (x i v m n : V) : Option (V × Heap) :=
  match x, i, v, m, n with
  | .hs s1 b off len, .int .i64 i, .ps s2 xs, .int .i64 m, .int .i64 n => if s1 = s ∧ s2 = s ∧ m = xs.length ∧ 0 < m ∧ n = len ∧ 0 ≤ i ∧ i + m ≤ n then (h.row b).bind fun cs =>
      if off + len * s = cs.length ∧ (cs.length + (flat xs).length) * bytes ≤ 140737488355328 then
        some (.hs s h.length 0 (len + xs.length), (h.set b none) ++ [some ((cs.drop off).take (i.toNat * s) ++ flat xs ++ (cs.drop off).drop (i.toNat * s))]) else none
    else none
  | _, _, _, _, _ => none
def insE (s bytes : Nat) (e : Env) (h : Heap) : Option (Ex × Env × Heap) := (e.get 0).bind fun x => (e.get 1).bind fun i => (e.get 2).bind fun v => (e.get 7).bind fun m => (e.get 8).bind fun n =>
  (insV h s bytes x i v m n).bind fun r => some (.r, [(6, r.1)], r.2)

def ev (C : Callee) (n : Nat) : ACode → Env → Heap → Option (Ex × Env × Heap)
  | .skip, e, h => some (.n, e, h)
  | .reg ops keep, e, h => (runOps C ops e h).bind fun (e', h') => some (.n, e'.keep keep, h')
  | .regd ops keep _ flags, e, h => if flagsOk C ops e h flags then (runOps C ops e h).bind fun (e', h') => some (.n, e'.keep keep, h') else none
  | .seq a b, e, h => (ev C n a e h).bind fun (x, e', h') => match x with | .n => ev C n b e' h' | x => some (x, e', h')
  | .cond c a b, e, h => (c.ev e).bind fun v => (boolV v).bind fun t => if t then ev C n a e h else ev C n b e h
  | .nilc ops x _ neq keep a b c, e, h => (runOps C ops e h).bind fun (e1, h1) => (x.ev e1).bind fun v => (nilV v).bind fun t =>
    if t then bothR (thenR (ev C n a (e1.keep keep) h1) fun e h => ev C n c e h) (thenR (ev C n b (e1.keep keep) h1) fun e h => ev C n c e h)
    else if neq then thenR (ev C n a (e1.keep keep) h1) fun e h => ev C n c e h else thenR (ev C n b (e1.keep keep) h1) fun e h => ev C n c e h
  | .block id a, e, h => (ev C n a e h).bind fun (x, e', h') => some (if x = .x id then .n else x, e', h')
  | .loop keep _ a, e, h => iter (fun e h => ev C n a (e.keep keep) h) n e h
  | .exit i, e, h => some (.x i, e, h)
  | .ins s bytes _ _, e, h => insE s bytes e h
  | .gap, _, _ => none
  | .scope a, e, h => ev C n a e h
  | .ret, e, h => some (.r, e, h)
  | .mloop pre it _ _ keep _ id body c, e, h => thenR (ev C n pre e h) fun e h =>
      mgo (fun e h => ((e.keep keep).get it).bind (picks h)) (fun e h => ev C n body (e.keep keep) h) (fun e h => ev C n c (e.keep keep) h) id n e h

def resV (e : Env) (h : Heap) : RV → Option V
  | .t i => e.get i
  | .c i sz => (e.get i).bind fun a => loadV h sz a
def resVs (e : Env) (h : Heap) : List RV → Option (List V)
  | [] => some []
  | r :: rs => (resV e h r).bind fun v => (resVs e h rs).bind fun vs => some (v :: vs)
def freezes (frz : List (Nat × Bool)) : Nat → List V → Heap → Option (List V × Heap)
  | _, [], h => some ([], h)
  | i, v :: r, h => (match frz.lookup i with | some ag => freeze1 ag v h | none => some (v, h)).bind fun (v, h) =>
      (freezes frz (i + 1) r h).bind fun (vs, h) => some (v :: vs, h)
def pack : List V → V
  | [v] => v
  | vs => .tup vs
def epi (af : AFunc) (e : Env) (h : Heap) : Option (V × Heap) :=
  (resVs e h af.res).bind fun vs => (freezes af.frz 0 vs h).bind fun (vs, h) => some (pack vs, h)

def args : Nat → List V → Env
  | _, [] => []
  | i, v :: r => (i, v) :: args (i + 1) r

abbrev Table := Nat → Option AFunc

def Table.free (T : Table) (f : Nat) : Bool :=
  match T f with
  | some af => af.ownP.isEmpty
  | none => false

def run (T : Table) : Nat → Nat → List V → Heap → Option (V × Heap)
  | 0, _, _, _ => none
  | n + 1, f, vs, h => (T f).bind fun af => (ev ⟨run T n, T.free⟩ n af.code (args 0 vs) h).bind fun (x, e, h') => match x with
    | .x _ => none
    | _ => epi af e h'

end Ev
