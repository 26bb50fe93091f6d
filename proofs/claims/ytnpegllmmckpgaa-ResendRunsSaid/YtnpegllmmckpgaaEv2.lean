/- The evaluator of abstract code, Ev2: operations on the memory are computed rightly. No condition of its own: each theorem states its own. -/
import Derived.Test.YtnpegllmmckpgaaEv1
import Derived.Laws.AppendOwn
import Derived.MapKept
import Derived.Maps.RangeRun
import Derived.Laws.Externs
set_option linter.all false
/-! Ev, part K: steps of the memory: new blocks, stores, what becomes lasting. -/
namespace Ev
open Go

def Rho.set (ρ : Rho) (x : Ow) (r : Option Reg) : Rho := fun y => if y = x then r else ρ y
def Gh.addReg (G : Gh) (b : Nat) (x : Reg) : Gh := { G with reg := fun c => if c = b then some x else G.reg c }
/-- Cells that are lasting from now on. -/
def Gh.addSt (G : Gh) (r p : Nat) (us : List Value) : Gh :=
  { G with st := fun r' o => if r' = r ∧ p ≤ o ∧ o < p + us.length then us[o - p]? else G.st r' o }

theorem st_lt {G : Gh} {h : Heap} {ρ : Rho} {w : World} (m : Mem G h ρ w) {r o : Nat} (k : G.st r o ≠ none) : r < w.heap.size := by
  cases hs : G.st r o with
  | none => exact absurd hs k
  | some v => exact cell_lt (by rw [(m.st r o v hs).1]; rfl)
theorem own_lt {G : Gh} {h : Heap} {ρ : Rho} {w : World} (m : Mem G h ρ w) {x : Ow} {r lo hi o : Nat} (k : ρ x = some (r, lo, hi)) (h1 : lo ≤ o) (h2 : o < hi) : r < w.heap.size :=
  cell_lt (m.own x r lo hi k o h1 h2).1

section
variable {G : Gh} {h : Heap} {ρ : Rho} {w : World}

theorem push_nc {w : World} {x o : Obj} {r : Nat} (h : w.heap[r]? = some o) : (w.evPush x).heap[r]? = some o := by
  rw [push_heap _ _ _ (by
    rcases Nat.lt_or_ge r w.heap.size with c | c
    · exact c
    · rw [Array.getElem?_eq_none c] at h; cases h)]
  exact h
theorem setCell_nc {w : World} {a : Addr} {v : Value} {o : Obj} {r : Nat} (h : w.heap[r]? = some o) (n : noCells o = true) : (w.setCell a v).heap[r]? = some o := by
  simp only [World.setCell, Array.getElem?_modify]
  split
  · rw [h]
    cases o <;> first | rfl | (simp [noCells] at n; done)
  · exact h
theorem setCells_nc {o : Obj} {r b : Nat} (n : noCells o = true) : ∀ (us : List Value) (p : Nat) (w : World), w.heap[r]? = some o → (w.setCells b p us).heap[r]? = some o
  | [], _, _, h => h
  | u :: us, p, w, h => by
    rw [World.setCells]
    exact setCells_nc n us (p + 1) _ (setCell_nc h n)
theorem reg_none {G : Gh} {h : Heap} {w : World} (m : ObsOk G h w) {b r : Nat} (hb : G.ob b = some r) {x : Reg} : (G.addReg h.length x).reg b = none := by
  have := m b r hb
  simp only [Gh.addReg]
  rw [if_neg (by omega)]
  exact this.2.1

theorem setCells_fz (b : Nat) : ∀ (vs : List Value) (o : Nat) (w : World) (x : Addr), (w.setCells b o vs).fz x = w.fz x
  | [], _, _, _ => rfl
  | v :: r, o, w, x => by rw [World.setCells, setCells_fz b r, setCell_frozen]

/-- A new block of the model's that is lasting. -/
theorem Mem.push_st (m : Mem G h ρ w) (cs : Array Value) (t : Nat) (hone : ∀ u ∈ cs.toList, u.oneCell' = true) :
    Mem (G.addSt w.heap.size 0 cs.toList) h ρ (w.evPush (.cells cs t (0, 0))) ∧ Fr G ρ w (G.addSt w.heap.size 0 cs.toList) ρ (w.evPush (.cells cs t (0, 0))) := by
  have hle' : G.le (G.addSt w.heap.size 0 cs.toList) := by
    refine ⟨fun r o v hv => ?_, fun _ _ k => k, fun _ _ k => k⟩
    have : r < w.heap.size := st_lt m (by rw [hv]; simp)
    simp only [Gh.addSt]
    rw [if_neg (by omega)]
    exact hv
  refine ⟨⟨?_, ?_, m.lt, ?_, m.dis, m.ob, m.obs.keep (fun _ => rfl) (fun b r hb => (m.obs b r hb).2.1) hle' (Nat.le_refl _) (fun _ _ h _ => push_nc h) (fun _ _ _ _ h => h)⟩, ⟨hle', by simp [World.evPush], rfl, rfl, rfl, ?_, ?_, fun _ _ k => .inl k, ?_, fun _ _ k => .inl k⟩⟩
  · intro r o v hv
    simp only [Gh.addSt] at hv
    split at hv
    · rename_i hc
      obtain ⟨rfl, h1, h2⟩ := hc
      rw [Nat.sub_zero] at hv
      rw [push_new]
      exact ⟨by simpa using hv, hone v (List.mem_of_getElem? hv)⟩
    · rw [push_cell _ _ _ _ (st_lt m (by rw [hv]; simp))]
      exact m.st r o v hv
  · intro b bs hb hob
    obtain ⟨r, lo, hi, h1, h2, h3, h4⟩ := m.blk b bs hb hob
    refine ⟨r, lo, hi, h1, h2, h3, fun j hj => ?_⟩
    obtain ⟨v, h5, h6, h7⟩ := h4 j hj
    exact ⟨v, by rw [push_cell _ _ _ _ (cell_lt (by rw [h5]; rfl))]; exact h5, h6.mono hle', h7⟩
  · intro x r lo hi hx o h1 h2
    have hlt := own_lt m hx h1 h2
    obtain ⟨a, b, c⟩ := m.own x r lo hi hx o h1 h2
    refine ⟨by rw [push_cell _ _ _ _ hlt]; exact a, by rw [push_frozen _ _ _ _ hlt]; exact b, ?_⟩
    simp only [Gh.addSt]
    rw [if_neg (by omega)]
    exact c
  · intro r o hr _
    exact ⟨push_cell _ _ _ _ hr, push_frozen _ _ _ _ hr⟩
  · intro r hr _ _
    exact push_heap _ _ _ hr
  · intro r o hs
    simp only [Gh.addSt] at hs
    split at hs
    · rename_i hc; exact .inr (.inr (by omega))
    · exact .inl hs

/-- A new block of the model's, a stretch of which is lasting, the rest nobody's. -/
theorem Mem.push_pl (m : Mem G h ρ w) (cs : Array Value) (t : Nat) (f1 f2 : Nat) (us : List Value) (n : Nat) (hn : us.length = n) (hle : n ≤ cs.size)
    (hus : ∀ j, j < n → us[j]? = cs[j]?) (hone : ∀ u ∈ us, u.oneCell' = true) :
    Mem (G.addSt w.heap.size 0 us) h ρ (w.evPush (.cells cs t (f1, f2))) ∧
    Fr G ρ w (G.addSt w.heap.size 0 us) ρ (w.evPush (.cells cs t (f1, f2))) := by
  have hle' : G.le (G.addSt w.heap.size 0 us) := by
    refine ⟨fun r o v hv => ?_, fun _ _ k => k, fun _ _ k => k⟩
    have : r < w.heap.size := st_lt m (by rw [hv]; simp)
    simp only [Gh.addSt]
    rw [if_neg (by omega)]
    exact hv
  have hat : At (w.evPush (.cells cs t (f1, f2))) w.heap.size 0 us := fun j v hv => by
    have hj : j < n := by
      rw [← hn]
      exact (List.getElem?_eq_some_iff.1 hv).1
    rw [push_new, Nat.zero_add, ← hus j hj]
    exact hv
  refine ⟨⟨?_, ?_, m.lt, ?_, m.dis, m.ob, m.obs.keep (fun _ => rfl) (fun b r hb => (m.obs b r hb).2.1) hle' (Nat.le_refl _) (fun _ _ h _ => push_nc h) (fun _ _ _ _ h => h)⟩, ⟨hle', by simp [World.evPush], rfl, rfl, rfl, ?_, ?_, fun _ _ k => .inl k, ?_, fun _ _ k => .inl k⟩⟩
  · intro r o v hv
    simp only [Gh.addSt] at hv
    split at hv
    · rename_i hc
      obtain ⟨rfl, h1, h2⟩ := hc
      have := hat (o - 0) v hv
      exact ⟨by simpa using this, hone v (List.mem_of_getElem? hv)⟩
    · rw [push_cell _ _ _ _ (st_lt m (by rw [hv]; simp))]
      exact m.st r o v hv
  · intro b bs hb hob
    obtain ⟨r, lo, hi, h1, h2, h3, h4⟩ := m.blk b bs hb hob
    refine ⟨r, lo, hi, h1, h2, h3, fun j hj => ?_⟩
    obtain ⟨v, h5, h6, h7⟩ := h4 j hj
    exact ⟨v, by rw [push_cell _ _ _ _ (cell_lt (by rw [h5]; rfl))]; exact h5, h6.mono hle', h7⟩
  · intro x r lo hi hx o h1 h2
    have hlt := own_lt m hx h1 h2
    obtain ⟨a, b, c⟩ := m.own x r lo hi hx o h1 h2
    refine ⟨by rw [push_cell _ _ _ _ hlt]; exact a, by rw [push_frozen _ _ _ _ hlt]; exact b, ?_⟩
    simp only [Gh.addSt]
    rw [if_neg (by omega)]
    exact c
  · intro r o hr _
    exact ⟨push_cell _ _ _ _ hr, push_frozen _ _ _ _ hr⟩
  · intro r hr _ _
    exact push_heap _ _ _ hr
  · intro r o hs
    simp only [Gh.addSt] at hs
    split at hs
    · rename_i hc; exact .inr (.inr (by omega))
    · exact .inl hs

/-- A new block of the model's, a stretch of which is lasting, the rest a slot's. -/
theorem Mem.push_key (m : Mem G h ρ w) (cs : Array Value) (t : Nat) (f1 f2 : Nat) (hf : f1 = f2) (us : List Value) (n : Nat) (hn : us.length = n) (hle : n ≤ cs.size)
    (hus : ∀ j, j < n → us[j]? = cs[j]?) (hone : ∀ u ∈ us, u.oneCell' = true) (s c : Nat) (hk : ρ (.key s c) = none) :
    Mem (G.addSt w.heap.size 0 us) h (ρ.set (.key s c) (some (w.heap.size, n, cs.size))) (w.evPush (.cells cs t (f1, f2))) ∧
    Fr G ρ w (G.addSt w.heap.size 0 us) (ρ.set (.key s c) (some (w.heap.size, n, cs.size))) (w.evPush (.cells cs t (f1, f2))) ∧
    At (w.evPush (.cells cs t (f1, f2))) w.heap.size 0 us := by
  have hle' : G.le (G.addSt w.heap.size 0 us) := by
    refine ⟨fun r o v hv => ?_, fun _ _ k => k, fun _ _ k => k⟩
    have : r < w.heap.size := st_lt m (by rw [hv]; simp)
    simp only [Gh.addSt]
    rw [if_neg (by omega)]
    exact hv
  have hat : At (w.evPush (.cells cs t (f1, f2))) w.heap.size 0 us := fun j v hv => by
    have hj : j < n := by
      rw [← hn]
      exact (List.getElem?_eq_some_iff.1 hv).1
    rw [push_new, Nat.zero_add, ← hus j hj]
    exact hv
  refine ⟨⟨?_, ?_, m.lt, ?_, ?_, ?_, m.obs.keep (fun _ => rfl) (fun b r hb => (m.obs b r hb).2.1) hle' (Nat.le_refl _) (fun _ _ h _ => push_nc h) (fun _ _ _ _ h => h)⟩, ⟨hle', by simp [World.evPush], rfl, rfl, rfl, ?_, ?_, ?_, ?_, fun _ _ k => .inl k⟩, hat⟩
  · intro r o v hv
    simp only [Gh.addSt] at hv
    split at hv
    · rename_i hc
      obtain ⟨rfl, h1, h2⟩ := hc
      have := hat (o - 0) v hv
      exact ⟨by simpa using this, hone v (List.mem_of_getElem? hv)⟩
    · rw [push_cell _ _ _ _ (st_lt m (by rw [hv]; simp))]
      exact m.st r o v hv
  · intro b bs hb hob
    obtain ⟨r, lo, hi, h1, h2, h3, h4⟩ := m.blk b bs hb hob
    refine ⟨r, lo, hi, h1, by simpa [Rho.set] using h2, h3, fun j hj => ?_⟩
    obtain ⟨v, h5, h6, h7⟩ := h4 j hj
    exact ⟨v, by rw [push_cell _ _ _ _ (cell_lt (by rw [h5]; rfl))]; exact h5, h6.mono hle', h7⟩
  · intro x r lo hi hx o h1 h2
    simp only [Rho.set] at hx
    split at hx
    · cases hx
      refine ⟨by rw [push_new]; simp [h2], push_new_frozen _ _ _ _ _ _ hf, ?_⟩
      simp only [Gh.addSt]
      rw [if_neg (by omega)]
      cases hs : G.st w.heap.size o with
      | none => rfl
      | some v => exact absurd (st_lt m (by rw [hs]; simp)) (Nat.lt_irrefl _)
    · have hlt := own_lt m hx h1 h2
      obtain ⟨a, b, c⟩ := m.own x r lo hi hx o h1 h2
      refine ⟨by rw [push_cell _ _ _ _ hlt]; exact a, by rw [push_frozen _ _ _ _ hlt]; exact b, ?_⟩
      simp only [Gh.addSt]
      rw [if_neg (by omega)]
      exact c
  · intro x y r lo hi lo' hi' hne hx hy o h1 h2 h3 h4
    simp only [Rho.set] at hx hy
    split at hx
    · rename_i ex
      split at hy
      · rename_i ey; exact hne (ex.trans ey.symm)
      · cases hx
        exact absurd (own_lt m hy h3 h4) (Nat.lt_irrefl _)
    · split at hy
      · cases hy
        exact absurd (own_lt m hx h1 h2) (Nat.lt_irrefl _)
      · exact m.dis x y r lo hi lo' hi' hne hx hy o h1 h2 h3 h4
  · intro b hb
    simp only [Rho.set] at hb
    rw [if_neg (by simp)] at hb
    exact m.ob b hb
  · intro r o hr _
    exact ⟨push_cell _ _ _ _ hr, push_frozen _ _ _ _ hr⟩
  · intro r hr _ _
    exact push_heap _ _ _ hr
  · rintro r o ⟨x, lo, hi, hx, h1, h2⟩
    simp only [Rho.set] at hx
    split at hx
    · cases hx; exact .inr (Nat.le_refl _)
    · exact .inl ⟨x, lo, hi, hx, h1, h2⟩
  · intro r o hs
    simp only [Gh.addSt] at hs
    split at hs
    · rename_i hc; exact .inr (.inr (by omega))
    · exact .inl hs

/-- A new block of the model's for a new abstract block. -/
theorem Mem.push_blk (m : Mem G h ρ w) (cs : Array Value) (t : Nat) (vs : List V) (hl : vs.length ≤ cs.size) (hr : Rels G (cs.toList.take vs.length) vs) (hone : ∀ u ∈ cs.toList.take vs.length, u.oneCell' = true) :
    Mem (G.addReg h.length (w.heap.size, 0, cs.size)) (h ++ [some vs]) (ρ.set (.blk h.length) (some (w.heap.size, 0, cs.size))) (w.evPush (.cells cs t)) ∧
    Fr G ρ w (G.addReg h.length (w.heap.size, 0, cs.size)) (ρ.set (.blk h.length) (some (w.heap.size, 0, cs.size))) (w.evPush (.cells cs t)) := by
  have hle' : G.le (G.addReg h.length (w.heap.size, 0, cs.size)) := by
    refine ⟨fun _ _ _ k => k, fun b x k => ?_, fun _ _ k => k⟩
    have := m.lt b x k
    simp only [Gh.addReg]
    rw [if_neg (by omega)]
    exact k
  refine ⟨⟨?_, ?_, ?_, ?_, ?_, ?_, m.obs.keep (fun _ => rfl) (fun b r hb => reg_none m.obs hb) hle' (by simp) (fun _ _ h _ => push_nc h) (fun b r cs hb hc => by rwa [List.getElem?_append_left (m.obs b r hb).1] at hc)⟩, ⟨hle', by simp [World.evPush], rfl, rfl, rfl, ?_, ?_, ?_, fun _ _ k => .inl k, fun _ _ k => .inl k⟩⟩
  · intro r o v hv
    rw [push_cell _ _ _ _ (st_lt m (by rw [show G.st r o = some v from hv]; simp))]
    exact m.st r o v hv
  · intro b bs hb hob
    by_cases hbl : b < h.length
    · rw [List.getElem?_append_left hbl] at hb
      obtain ⟨r, lo, hi, h1, h2, h3, h4⟩ := m.blk b bs hb hob
      refine ⟨r, lo, hi, hle'.r _ _ h1, ?_, h3, fun j hj => ?_⟩
      · simp only [Rho.set]
        rw [if_neg (by simp; omega)]
        exact h2
      · obtain ⟨v, h5, h6, h7⟩ := h4 j hj
        exact ⟨v, by rw [push_cell _ _ _ _ (cell_lt (by rw [h5]; rfl))]; exact h5, h6.mono hle', h7⟩
    · have : b = h.length := by
        have := (List.getElem?_eq_some_iff.1 hb).1
        simp at this; omega
      subst this
      simp at hb
      subst hb
      refine ⟨w.heap.size, 0, cs.size, by simp [Gh.addReg], by simp [Rho.set], by omega, fun j hj => ?_⟩
      have hj' : j < (cs.toList.take vs.length).length := by rw [hr.1]; exact hj
      have hjs : j < cs.size := by omega
      refine ⟨cs[j], by rw [push_new]; simp [hjs], ?_, ?_⟩
      · have := (hr.2 j hj' hj).mono hle'
        simpa using this
      · have := hone _ (List.getElem_mem hj')
        simpa using this
  · intro b x hb
    simp only [Gh.addReg] at hb
    split at hb
    · rename_i e; simp [e]
    · have := m.lt b x hb
      simp; omega
  · intro x r lo hi hx o h1 h2
    simp only [Rho.set] at hx
    split at hx
    · cases hx
      refine ⟨by rw [push_new]; simp [h2], push_new_frozen _ _ _ _ _ _ rfl, ?_⟩
      cases hs : G.st w.heap.size o with
      | none => exact hs
      | some v => exact absurd (st_lt m (by rw [hs]; simp)) (Nat.lt_irrefl _)
    · have hlt := own_lt m hx h1 h2
      obtain ⟨a, b, c⟩ := m.own x r lo hi hx o h1 h2
      exact ⟨by rw [push_cell _ _ _ _ hlt]; exact a, by rw [push_frozen _ _ _ _ hlt]; exact b, c⟩
  · intro x y r lo hi lo' hi' hne hx hy o h1 h2 h3 h4
    simp only [Rho.set] at hx hy
    split at hx
    · rename_i ex
      split at hy
      · rename_i ey; exact hne (ex.trans ey.symm)
      · cases hx
        exact absurd (own_lt m hy h3 h4) (Nat.lt_irrefl _)
    · split at hy
      · cases hy
        exact absurd (own_lt m hx h1 h2) (Nat.lt_irrefl _)
      · exact m.dis x y r lo hi lo' hi' hne hx hy o h1 h2 h3 h4
  · intro b hb
    simp only [Rho.set] at hb
    split at hb
    · rename_i e; simp at e; subst e; simp
    · have := m.ob b hb
      simp; omega
  · intro r o hr _
    exact ⟨push_cell _ _ _ _ hr, push_frozen _ _ _ _ hr⟩
  · intro r hr _ _
    exact push_heap _ _ _ hr
  · rintro r o ⟨x, lo, hi, hx, h1, h2⟩
    simp only [Rho.set] at hx
    split at hx
    · cases hx; exact .inr (Nat.le_refl _)
    · exact .inl ⟨x, lo, hi, hx, h1, h2⟩

/-! ### Stores -/
theorem setCells_heap (r : Nat) : ∀ (us : List Value) (p : Nat) (w : World) (b : Nat), b ≠ r → (w.setCells r p us).heap[b]? = w.heap[b]?
  | [], _, _, _, _ => rfl
  | u :: us, p, w, b, hb => by
    rw [World.setCells, setCells_heap r us (p + 1) _ b hb]
    exact setCell_heap _ _ _ _ hb
theorem setCells_size (r : Nat) : ∀ (us : List Value) (p : Nat) (w : World), (w.setCells r p us).heap.size = w.heap.size
  | [], _, _ => rfl
  | u :: us, p, w => by
    rw [World.setCells, setCells_size r us (p + 1)]
    exact setCell_size _ _ _
theorem setCells_rest (r : Nat) : ∀ (us : List Value) (p : Nat) (w : World), (w.setCells r p us).os = w.os ∧ (w.setCells r p us).tape = w.tape ∧ (w.setCells r p us).output = w.output
  | [], _, _ => ⟨rfl, rfl, rfl⟩
  | u :: us, p, w => by
    rw [World.setCells]
    exact setCells_rest r us (p + 1) _

/-- Cells of one owner are written: what is told of the rest stays. -/
theorem Mem.write (m : Mem G h ρ w) {x : Ow} {r lo hi : Nat} (hx : ρ x = some (r, lo, hi)) (p : Nat) (us : List Value) (h1 : lo ≤ p) (h2 : p + us.length ≤ hi) :
    (∀ r' o', (w.setCells r p us).cell? ⟨r', o', none⟩ = if r' = r ∧ p ≤ o' ∧ o' < p + us.length then us[o' - p]? else w.cell? ⟨r', o', none⟩) ∧
    Fr G ρ w G ρ (w.setCells r p us) := by
  have hin : ∀ j, j < us.length → (w.cell? ⟨r, p + j, none⟩).isSome = true := fun j hj => (m.own x r lo hi hx (p + j) (by omega) (by omega)).1
  have key : ∀ r' o', (w.setCells r p us).cell? ⟨r', o', none⟩ = if r' = r ∧ p ≤ o' ∧ o' < p + us.length then us[o' - p]? else w.cell? ⟨r', o', none⟩ := by
    intro r' o'
    split
    · rename_i hc
      obtain ⟨rfl, a, b⟩ := hc
      have := World.cell?_setCells_in r' us p w hin (o' - p) (by omega)
      rw [show p + (o' - p) = o' by omega] at this
      rw [this, List.getElem?_eq_getElem (by omega)]
    · rename_i hc
      exact World.cell?_setCells_out r us p w ⟨r', o', none⟩ (fun e _ => by
        simp only at e
        subst e
        have : ¬ (p ≤ o' ∧ o' < p + us.length) := fun k => hc ⟨rfl, k⟩
        show o' < p ∨ p + us.length ≤ o'
        omega)
  refine ⟨key, .refl G, by rw [setCells_size]; exact Nat.le_refl _, (setCells_rest r us p w).1, (setCells_rest r us p w).2.1, (setCells_rest r us p w).2.2, ?_, ?_, fun _ _ k => .inl k, fun _ _ k => .inl k, fun _ _ k => .inl k⟩
  · intro r' o' _ hno
    refine ⟨?_, setCells_fz r us p w _⟩
    rw [key, if_neg]
    rintro ⟨rfl, a, b⟩
    exact hno ⟨x, lo, hi, hx, by omega, by omega⟩
  · intro r' _ hno _
    rcases us with _ | ⟨u, us⟩
    · rfl
    · refine setCells_heap r _ p w r' fun e => ?_
      subst e
      exact hno p ⟨x, lo, hi, hx, h1, by simp at h2; omega⟩

/-- Spare cells are written. -/
theorem Mem.write_spare (m : Mem G h ρ w) {x : Ow} {r lo hi : Nat} (hx : ρ x = some (r, lo, hi)) (p : Nat) (us : List Value) (h1 : lo ≤ p) (h2 : p + us.length ≤ hi)
    (hsp : ∀ b cs, x = .blk b → h[b]? = some (some cs) → lo + cs.length ≤ p) :
    Mem G h ρ (w.setCells r p us) := by
  obtain ⟨key, _⟩ := m.write hx p us h1 h2
  have out : ∀ r' o', (∀ (_ : r' = r) (_ : p ≤ o') (_ : o' < p + us.length), False) → (w.setCells r p us).cell? ⟨r', o', none⟩ = w.cell? ⟨r', o', none⟩ := fun r' o' k => by
    rw [key, if_neg fun c => k c.1 c.2.1 c.2.2]
  refine ⟨?_, ?_, m.lt, ?_, m.dis, m.ob, m.obs.keep (fun _ => rfl) (fun b r hb => (m.obs b r hb).2.1) (.refl G) (Nat.le_refl _) (fun _ _ h n => setCells_nc n us p w h) (fun _ _ _ _ h => h)⟩
  · intro r' o v hv
    rw [out]
    · exact m.st r' o v hv
    · rintro rfl a b
      have := (m.own _ r' lo hi hx o (by omega) (by omega)).2.2
      rw [this] at hv; cases hv
  · intro b bs hb hob
    obtain ⟨r', lo', hi', k1, k2, k3, k4⟩ := m.blk b bs hb hob
    refine ⟨r', lo', hi', k1, k2, k3, fun j hj => ?_⟩
    obtain ⟨v, k5, k6, k7⟩ := k4 j hj
    refine ⟨v, ?_, k6, k7⟩
    rw [out]
    · exact k5
    · rintro rfl a c
      by_cases e : x = .blk b
      · subst e
        rw [k2] at hx
        cases hx
        have := hsp b bs rfl hb
        omega
      · exact m.dis _ _ r' lo hi lo' hi' e hx k2 (lo' + j) (by omega) (by omega) (by omega) (by omega)
  · intro y r' lo' hi' hy o a b
    obtain ⟨k1, k2, k3⟩ := m.own y r' lo' hi' hy o a b
    refine ⟨?_, by rw [setCells_fz]; exact k2, k3⟩
    rw [key]
    split
    · rename_i hc
      rw [List.getElem?_eq_getElem (by omega)]; rfl
    · exact k1

theorem Mem.write_key (m : Mem G h ρ w) {s c : Nat} {r lo hi : Nat} (hx : ρ (.key s c) = some (r, lo, hi)) (p : Nat) (us : List Value) (h1 : lo ≤ p) (h2 : p + us.length ≤ hi) :
    Mem G h ρ (w.setCells r p us) := m.write_spare hx p us h1 h2 (fun b cs e => by cases e)

/-- Cells of an abstract block are written. -/
theorem Mem.write_blk (m : Mem G h ρ w) {b : Nat} {cs : List V} (hb : h.row b = some cs) {r lo hi : Nat} (hg : G.reg b = some (r, lo, hi)) (hx : ρ (.blk b) = some (r, lo, hi)) (off : Nat) (us : List Value) (new : List V) (hu : Rels G us new) (hone : ∀ u ∈ us, u.oneCell' = true)
    (h2 : off ≤ cs.length) (h3 : lo + off + new.length ≤ hi) : Mem G (h.set b (some (spliceL cs off new))) ρ (w.setCells r (lo + off) us) ∧ Fr G ρ w G ρ (w.setCells r (lo + off) us) := by
  have hb' : h[b]? = some (some cs) := by
    unfold Heap.row at hb
    cases hh : h[b]? with
    | none => simp [hh] at hb
    | some x => cases x <;> simp_all
  have hbl : b < h.length := (List.getElem?_eq_some_iff.1 hb').1
  obtain ⟨r1, lo1, hi1, k1, k2, k3, k4⟩ := m.blk b cs hb' (m.noOb hg)
  rw [hg] at k1
  cases k1
  have hul := hu.1
  obtain ⟨key, hfr⟩ := m.write hx (lo + off) us (by omega) (by omega)
  have hobs : ObsOk G (h.set b (some (spliceL cs off new))) (w.setCells r (lo + off) us) := m.obs.keep (fun _ => rfl) (fun b r hb => (m.obs b r hb).2.1) (.refl G) (by simp) (fun _ _ h n => setCells_nc n us (lo + off) w h) (fun b' r' cs' hb1 hc => by
    have hne : b' ≠ b := fun e => by
      subst e
      have := m.noOb hg
      rw [this] at hb1; cases hb1
    rwa [List.getElem?_set_ne (fun k => hne k.symm)] at hc)
  refine ⟨⟨?_, ?_, ?_, ?_, m.dis, ?_, hobs⟩, hfr⟩
  · intro r' o v hv
    rw [key, if_neg]
    · exact m.st r' o v hv
    · rintro ⟨rfl, a, b⟩
      have := (m.own _ r' lo hi hx o (by omega) (by omega)).2.2
      rw [this] at hv; cases hv
  · intro b' bs hbs hob
    by_cases e : b' = b
    · subst e
      rw [List.getElem?_set_self hbl] at hbs
      cases hbs
      have hsl : (spliceL cs off new).length = max cs.length (off + new.length) := by simp [spliceL]; omega
      refine ⟨r, lo, hi, hg, hx, by omega, fun j hj => ?_⟩
      rw [hsl] at hj
      rw [key]
      by_cases hin : off ≤ j ∧ j < off + new.length
      · have hj2 : lo + j - (lo + off) = j - off := by omega
        refine ⟨us[j - off]'(by omega), ?_, ?_, hone _ (List.getElem_mem _)⟩
        · rw [if_pos ⟨rfl, by omega, by omega⟩, hj2, List.getElem?_eq_getElem (by omega)]
        · have := hu.2 (j - off) (by omega) (by omega)
          have e2 : (spliceL cs off new)[j]'(by rw [hsl]; exact hj) = new[j - off]'(by omega) := by
            unfold spliceL
            have htl : (List.take off cs).length = off := by simp; omega
            rw [List.getElem_append_left (by simp; omega), List.getElem_append_right (by omega)]
            simp only [htl]
          rw [e2]; exact this
      · have hj' : j < cs.length := by omega
        obtain ⟨v, k5, k6, k7⟩ := k4 j hj'
        refine ⟨v, by rw [if_neg (by omega)]; exact k5, ?_, k7⟩
        have e2 : (spliceL cs off new)[j]'(by rw [hsl]; exact hj) = cs[j] := by
          unfold spliceL
          have htl : (List.take off cs).length = off := by simp; omega
          by_cases hlt : j < off
          · rw [List.getElem_append_left (by simp; omega), List.getElem_append_left (by omega)]
            simp
          · rw [List.getElem_append_right (by simp; omega)]
            simp only [List.length_append, htl, List.getElem_drop]
            congr 1; omega
        rw [e2]; exact k6
    · rw [List.getElem?_set_ne (fun k => e k.symm)] at hbs
      obtain ⟨r', lo', hi', q1, q2, q3, q4⟩ := m.blk b' bs hbs hob
      refine ⟨r', lo', hi', q1, q2, q3, fun j hj => ?_⟩
      obtain ⟨v, q5, q6, q7⟩ := q4 j hj
      refine ⟨v, ?_, q6, q7⟩
      rw [key, if_neg]
      · exact q5
      · rintro ⟨rfl, a, c⟩
        exact m.dis (.blk b) (.blk b') r' lo hi lo' hi' (by simpa using fun k => e k.symm) hx q2 (lo' + j) (by omega) (by omega) (by omega) (by omega)
  · intro b' x hb'
    have := m.lt b' x hb'
    simpa using this
  · intro y r' lo' hi' hy o a c
    obtain ⟨q1, q2, q3⟩ := m.own y r' lo' hi' hy o a c
    refine ⟨?_, by rw [setCells_fz]; exact q2, q3⟩
    rw [key]
    split
    · rename_i hc
      rw [List.getElem?_eq_getElem (by omega)]; rfl
    · exact q1
  · intro b' hb'
    have := m.ob b' hb'
    simpa using this

/-! ### What becomes lasting -/
theorem Mem.last (m : Mem G h ρ w) {x : Ow} {r lo hi : Nat} (hx : ρ x = some (r, lo, hi)) (p : Nat) (us : List Value) (ha : At w r p us) (hone : ∀ u ∈ us, u.oneCell' = true) (h1 : lo ≤ p) (h2 : p + us.length ≤ hi) (h' : Heap) (hl : h'.length = h.length) (ρ' : Rho)
    (hsub : ∀ y r' lo' hi', ρ' y = some (r', lo', hi') → ∃ lo2 hi2, ρ y = some (r', lo2, hi2) ∧ lo2 ≤ lo' ∧ hi' ≤ hi2 ∧ (y = x → p + us.length ≤ lo'))
    (hb : ∀ b cs, h'[b]? = some (some cs) → h[b]? = some (some cs) ∧ ρ' (.blk b) = ρ (.blk b) ∧ Ow.blk b ≠ x) :
    Mem (G.addSt r p us) h' ρ' w ∧ Fr G ρ w (G.addSt r p us) ρ' w := by
  have hle' : G.le (G.addSt r p us) := by
    refine ⟨fun r' o v hv => ?_, fun _ _ k => k, fun _ _ k => k⟩
    simp only [Gh.addSt]
    rw [if_neg]
    · exact hv
    · rintro ⟨rfl, a, b⟩
      have := (m.own x r' lo hi hx o (by omega) (by omega)).2.2
      rw [this] at hv; cases hv
  refine ⟨⟨?_, ?_, ?_, ?_, ?_, ?_, m.obs.keep (fun _ => rfl) (fun b r hb => (m.obs b r hb).2.1) hle' (by omega) (fun _ _ h _ => h) (fun b _ cs _ h => (hb b cs h).1)⟩, ⟨hle', Nat.le_refl _, rfl, rfl, rfl, fun _ _ _ _ => ⟨rfl, rfl⟩, fun _ _ _ _ => rfl, ?_, ?_, fun _ _ k => .inl k⟩⟩
  · intro r' o v hv
    simp only [Gh.addSt] at hv
    split at hv
    · rename_i hc
      obtain ⟨rfl, a, b⟩ := hc
      have := ha _ v hv
      exact ⟨by rwa [show p + (o - p) = o by omega] at this, hone v (List.mem_of_getElem? hv)⟩
    · exact m.st r' o v hv
  · intro b cs hbs hob
    obtain ⟨q1, q2, _⟩ := hb b cs hbs
    obtain ⟨r', lo', hi', k1, k2, k3, k4⟩ := m.blk b cs q1 hob
    refine ⟨r', lo', hi', k1, by rw [q2]; exact k2, k3, fun j hj => ?_⟩
    obtain ⟨v, k5, k6, k7⟩ := k4 j hj
    exact ⟨v, k5, k6.mono hle', k7⟩
  · intro b y hy
    rw [hl]
    exact m.lt b y hy
  · intro y r' lo' hi' hy o a b
    obtain ⟨lo2, hi2, k1, k2, k3, k4⟩ := hsub y r' lo' hi' hy
    obtain ⟨q1, q2, q3⟩ := m.own y r' lo2 hi2 k1 o (by omega) (by omega)
    refine ⟨q1, q2, ?_⟩
    simp only [Gh.addSt]
    rw [if_neg]
    · exact q3
    · rintro ⟨rfl, c, d⟩
      by_cases e : y = x
      · have := k4 e; omega
      · exact m.dis y x r' lo2 hi2 lo hi e k1 hx o (by omega) (by omega) (by omega) (by omega)
  · intro y z r' lo1 hi1 lo2 hi2 hne hy hz o a b c d
    obtain ⟨l1, j1, k1, k2, k3, _⟩ := hsub y r' lo1 hi1 hy
    obtain ⟨l2, j2, q1, q2, q3, _⟩ := hsub z r' lo2 hi2 hz
    exact m.dis y z r' l1 j1 l2 j2 hne k1 q1 o (by omega) (by omega) (by omega) (by omega)
  · intro b hbn
    rw [hl]
    cases hq : ρ' (.blk b) with
    | none => exact absurd hq hbn
    | some y =>
      obtain ⟨r', lo', hi'⟩ := y
      obtain ⟨l1, j1, k1, _⟩ := hsub _ _ _ _ hq
      exact m.ob b (by rw [k1]; simp)
  · rintro r' o ⟨y, lo', hi', hy, a, b⟩
    obtain ⟨l1, j1, k1, k2, k3, _⟩ := hsub y r' lo' hi' hy
    exact .inl ⟨y, l1, j1, k1, by omega, by omega⟩
  · intro r' o hs
    simp only [Gh.addSt] at hs
    split at hs
    · rename_i hc
      obtain ⟨rfl, a, b⟩ := hc
      exact .inr (.inl ⟨x, lo, hi, hx, by omega, by omega⟩)
    · exact .inl hs

/-- A block of the abstract heap goes over into a new one, of the same cells and more of the same stretch. -/
theorem Mem.rebind (m : Mem G h ρ w) {b : Nat} {r lo hi : Nat} (hg : G.reg b = some (r, lo, hi)) (hx : ρ (.blk b) = some (r, lo, hi)) (lo' : Nat) (h1 : lo ≤ lo') (vs : List V) (us : List Value) (hu : Rels G us vs) (ha : At w r lo' us) (hone : ∀ u ∈ us, u.oneCell' = true) (h2 : lo' + vs.length ≤ hi) :
    Mem (G.addReg h.length (r, lo', hi)) (h.set b none ++ [some vs]) ((ρ.set (.blk b) none).set (.blk h.length) (some (r, lo', hi))) w ∧
    Fr G ρ w (G.addReg h.length (r, lo', hi)) ((ρ.set (.blk b) none).set (.blk h.length) (some (r, lo', hi))) w := by
  have hbl : b < h.length := m.lt b _ hg
  have hle' : G.le (G.addReg h.length (r, lo', hi)) := by
    refine ⟨fun _ _ _ k => k, fun c x k => ?_, fun _ _ k => k⟩
    have := m.lt c x k
    simp only [Gh.addReg]
    rw [if_neg (by omega)]
    exact k
  have hρ : ∀ y r' l j, ((ρ.set (.blk b) none).set (.blk h.length) (some (r, lo', hi))) y = some (r', l, j) → (y = .blk h.length ∧ r' = r ∧ l = lo' ∧ j = hi) ∨ (y ≠ .blk b ∧ y ≠ .blk h.length ∧ ρ y = some (r', l, j)) := by
    intro y r' l j hy
    simp only [Rho.set] at hy
    split at hy
    · rename_i e; cases hy; exact .inl ⟨e, rfl, rfl, rfl⟩
    · rename_i e
      split at hy
      · cases hy
      · rename_i e2; exact .inr ⟨e2, e, hy⟩
  have hobs : ObsOk (G.addReg h.length (r, lo', hi)) (h.set b none ++ [some vs]) w := m.obs.keep (fun _ => rfl) (fun b r hb => reg_none m.obs hb) hle' (by simp) (fun _ _ h _ => h) (fun b' r' cs' hb1 hc => by
    have hne : b' ≠ b := fun e => by
      subst e
      have := m.noOb hg
      rw [this] at hb1; cases hb1
    rw [List.getElem?_append_left (by simpa using (m.obs b' r' hb1).1), List.getElem?_set_ne (fun k => hne k.symm)] at hc
    exact hc)
  refine ⟨⟨m.st, ?_, ?_, ?_, ?_, ?_, hobs⟩, ⟨hle', Nat.le_refl _, rfl, rfl, rfl, fun _ _ _ _ => ⟨rfl, rfl⟩, fun _ _ _ _ => rfl, ?_, fun _ _ k => .inl k, fun _ _ k => .inl k⟩⟩
  · intro c bs hc hob
    by_cases hcl : c < h.length
    · rw [List.getElem?_append_left (by simpa using hcl)] at hc
      by_cases e : c = b
      · subst e
        rw [List.getElem?_set_self hbl] at hc
        cases hc
      · rw [List.getElem?_set_ne (fun k => e k.symm)] at hc
        obtain ⟨r', l, j, k1, k2, k3, k4⟩ := m.blk c bs hc hob
        refine ⟨r', l, j, hle'.r _ _ k1, ?_, k3, fun q hq => ?_⟩
        · simp only [Rho.set]
          rw [if_neg (by simp; omega), if_neg (by simpa using e)]
          exact k2
        · obtain ⟨v, k5, k6, k7⟩ := k4 q hq
          exact ⟨v, k5, k6.mono hle', k7⟩
    · have : c = h.length := by
        have := (List.getElem?_eq_some_iff.1 hc).1
        simp at this; omega
      subst this
      rw [List.getElem?_append_right (by simp)] at hc
      simp at hc
      subst hc
      refine ⟨r, lo', hi, by simp [Gh.addReg], by simp [Rho.set], h2, fun j hj => ?_⟩
      have hj' : j < us.length := by rw [hu.1]; exact hj
      exact ⟨us[j], ha j _ (List.getElem?_eq_getElem hj'), (hu.2 j hj' hj).mono hle', hone _ (List.getElem_mem hj')⟩
  · intro c x hc
    simp only [Gh.addReg] at hc
    split at hc
    · rename_i e; simp [e]
    · have := m.lt c x hc
      simp; omega
  · intro y r' l j hy o a c
    rcases hρ y r' l j hy with ⟨_, rfl, rfl, rfl⟩ | ⟨_, _, hy⟩
    · exact m.own _ _ lo j hx o (by omega) c
    · exact m.own y r' l j hy o a c
  · intro y z r' l1 j1 l2 j2 hne hy hz o a1 a2 a3 a4
    rcases hρ y r' l1 j1 hy with ⟨ey, rfl, rfl, rfl⟩ | ⟨n1, n2, hy2⟩
    · rcases hρ z _ l2 j2 hz with ⟨ez, _⟩ | ⟨n1, n2, hz2⟩
      · exact hne (ey.trans ez.symm)
      · exact m.dis (.blk b) z _ lo _ l2 j2 (fun e => n1 e.symm) hx hz2 o (by omega) a2 a3 a4
    · rcases hρ z r' l2 j2 hz with ⟨ez, rfl, rfl, rfl⟩ | ⟨n3, n4, hz2⟩
      · exact m.dis y (.blk b) _ l1 j1 lo _ n1 hy2 hx o a1 a2 (by omega) a4
      · exact m.dis y z r' l1 j1 l2 j2 hne hy2 hz2 o a1 a2 a3 a4
  · intro c hc
    simp only [Rho.set] at hc
    split at hc
    · rename_i e; simp at e; subst e; simp
    · split at hc
      · exact absurd rfl hc
      · have := m.ob c hc
        simp; omega
  · rintro r' o ⟨y, l, j, hy, a, c⟩
    rcases hρ y r' l j hy with ⟨_, rfl, rfl, rfl⟩ | ⟨_, _, hy⟩
    · exact .inl ⟨_, lo, _, hx, by omega, c⟩
    · exact .inl ⟨y, l, j, hy, a, c⟩

/-- A block of the abstract heap is given up. -/
theorem Mem.kill (m : Mem G h ρ w) (b : Nat) : Mem G (h.set b none) (ρ.set (.blk b) none) w ∧ Fr G ρ w G (ρ.set (.blk b) none) w := by
  have hsub : Rho.sub (ρ.set (.blk b) none) ρ := fun y => by
    simp only [Rho.set]
    split
    · exact .inl rfl
    · exact .inr rfl
  refine ⟨⟨m.st, fun c bs hc hob => ?_, fun c x hc => by simpa using m.lt c x hc, fun x r lo hi hx => ?_, fun x y r lo hi lo' hi' hne hx hy => ?_, fun c hc => ?_, m.obs.keep (fun _ => rfl) (fun b r hb => (m.obs b r hb).2.1) (.refl G) (by simp) (fun _ _ h _ => h) (fun b' r' cs' hb1 hc => by
    by_cases e : b' = b
    · subst e
      rw [List.getElem?_set_self (m.obs b' r' hb1).1] at hc; cases hc
    · rwa [List.getElem?_set_ne (fun k => e k.symm)] at hc)⟩, Fr.drop hsub⟩
  · by_cases e : c = b
    · subst e
      rcases Nat.lt_or_ge c h.length with k | k
      · rw [List.getElem?_set_self k] at hc; cases hc
      · rw [List.getElem?_eq_none (by simpa using k)] at hc; cases hc
    · rw [List.getElem?_set_ne (fun k => e k.symm)] at hc
      obtain ⟨r, lo, hi, k1, k2, k3⟩ := m.blk c bs hc hob
      exact ⟨r, lo, hi, k1, by simpa [Rho.set, e] using k2, k3⟩
  · rcases hsub x with k | k
    · rw [k] at hx; cases hx
    · exact m.own x r lo hi (k ▸ hx)
  · rcases hsub x with k | k
    · rw [k] at hx; cases hx
    · rcases hsub y with k' | k'
      · rw [k'] at hy; cases hy
      · exact m.dis x y r lo hi lo' hi' hne (k ▸ hx) (k' ▸ hy)
  · rcases hsub (.blk c) with k | k
    · exact absurd k hc
    · simpa using m.ob c (k ▸ hc)

/-- A slot's stretch becomes a block of the abstract heap. -/
theorem Mem.bind_key (m : Mem G h ρ w) {s c : Nat} {r lo hi : Nat} (hx : ρ (.key s c) = some (r, lo, hi)) (vs : List V) (us : List Value) (hu : Rels G us vs) (ha : At w r lo us) (hone : ∀ u ∈ us, u.oneCell' = true) (h2 : lo + vs.length ≤ hi) :
    Mem (G.addReg h.length (r, lo, hi)) (h ++ [some vs]) ((ρ.set (.key s c) none).set (.blk h.length) (some (r, lo, hi))) w ∧
    Fr G ρ w (G.addReg h.length (r, lo, hi)) ((ρ.set (.key s c) none).set (.blk h.length) (some (r, lo, hi))) w := by
  have hle' : G.le (G.addReg h.length (r, lo, hi)) := by
    refine ⟨fun _ _ _ k => k, fun b x k => ?_, fun _ _ k => k⟩
    have := m.lt b x k
    simp only [Gh.addReg]
    rw [if_neg (by omega)]
    exact k
  have hρ : ∀ y r' l j, ((ρ.set (.key s c) none).set (.blk h.length) (some (r, lo, hi))) y = some (r', l, j) → (y = .blk h.length ∧ r' = r ∧ l = lo ∧ j = hi) ∨ (y ≠ .key s c ∧ y ≠ .blk h.length ∧ ρ y = some (r', l, j)) := by
    intro y r' l j hy
    simp only [Rho.set] at hy
    split at hy
    · rename_i e; cases hy; exact .inl ⟨e, rfl, rfl, rfl⟩
    · rename_i e
      split at hy
      · cases hy
      · rename_i e2; exact .inr ⟨e2, e, hy⟩
  refine ⟨⟨m.st, ?_, ?_, ?_, ?_, ?_, m.obs.keep (fun _ => rfl) (fun b r hb => reg_none m.obs hb) hle' (by simp) (fun _ _ h _ => h) (fun b r cs hb hc => by rwa [List.getElem?_append_left (m.obs b r hb).1] at hc)⟩, ⟨hle', Nat.le_refl _, rfl, rfl, rfl, fun _ _ _ _ => ⟨rfl, rfl⟩, fun _ _ _ _ => rfl, ?_, fun _ _ k => .inl k, fun _ _ k => .inl k⟩⟩
  · intro b bs hb hob
    by_cases hbl : b < h.length
    · rw [List.getElem?_append_left hbl] at hb
      obtain ⟨r', l, j, k1, k2, k3, k4⟩ := m.blk b bs hb hob
      refine ⟨r', l, j, hle'.r _ _ k1, ?_, k3, fun q hq => ?_⟩
      · simp only [Rho.set]
        rw [if_neg (by simp; omega), if_neg (by simp)]
        exact k2
      · obtain ⟨v, k5, k6, k7⟩ := k4 q hq
        exact ⟨v, k5, k6.mono hle', k7⟩
    · have : b = h.length := by
        have := (List.getElem?_eq_some_iff.1 hb).1
        simp at this; omega
      subst this
      rw [List.getElem?_append_right (by simp)] at hb
      simp at hb
      subst hb
      refine ⟨r, lo, hi, by simp [Gh.addReg], by simp [Rho.set], h2, fun j hj => ?_⟩
      have hj' : j < us.length := by rw [hu.1]; exact hj
      exact ⟨us[j], ha j _ (List.getElem?_eq_getElem hj'), (hu.2 j hj' hj).mono hle', hone _ (List.getElem_mem hj')⟩
  · intro b x hb
    simp only [Gh.addReg] at hb
    split at hb
    · rename_i e; simp [e]
    · have := m.lt b x hb
      simp; omega
  · intro y r' l j hy o a b
    rcases hρ y r' l j hy with ⟨_, rfl, rfl, rfl⟩ | ⟨_, _, hy2⟩
    · exact m.own _ _ l j hx o a b
    · exact m.own y r' l j hy2 o a b
  · intro y z r' l1 j1 l2 j2 hne hy hz o a1 a2 a3 a4
    rcases hρ y r' l1 j1 hy with ⟨ey, rfl, rfl, rfl⟩ | ⟨n1, n2, hy2⟩
    · rcases hρ z _ l2 j2 hz with ⟨ez, _⟩ | ⟨n1, n2, hz2⟩
      · exact hne (ey.trans ez.symm)
      · exact m.dis (.key s c) z _ _ _ l2 j2 (fun e => n1 e.symm) hx hz2 o a1 a2 a3 a4
    · rcases hρ z r' l2 j2 hz with ⟨ez, rfl, rfl, rfl⟩ | ⟨n3, n4, hz2⟩
      · exact m.dis y (.key s c) _ l1 j1 _ _ n1 hy2 hx o a1 a2 a3 a4
      · exact m.dis y z r' l1 j1 l2 j2 hne hy2 hz2 o a1 a2 a3 a4
  · intro b hb
    simp only [Rho.set] at hb
    split at hb
    · rename_i e; simp at e; subst e; simp
    · split at hb
      · exact absurd rfl hb
      · have := m.ob b hb
        simp; omega
  · rintro r' o ⟨y, l, j, hy, a, b⟩
    rcases hρ y r' l j hy with ⟨_, rfl, rfl, rfl⟩ | ⟨_, _, hy2⟩
    · exact .inl ⟨_, _, _, hx, a, b⟩
    · exact .inl ⟨y, l, j, hy2, a, b⟩
end
end Ev

/-! Ev, part L: the operations that make or write memory. -/
namespace Ev
open Go

/-- A slice's spare cells. -/
def OwnVal : Value → V → Option Reg → Prop
  | .slice none _ _, .ps _ _, r => r = none
  | .slice (some a) n cap, .ps s _, r => r = some (a.block, a.off + n * s, a.off + cap * s)
  | .slice _ _ _, .hs _ _ _ _, r => r = none
  | .slice _ _ _, .hc _ _ _ _ _, r => r = none
  | .slice _ _ _, .hn _, r => r = none
  | _, _, _ => False

section
variable {P : Program} {G : Gh} {h : Heap} {ρ : Rho} {w : World}

theorem addSt_st (G : Gh) (r p : Nat) (us : List Value) (j : Nat) (hj : j < us.length) : (G.addSt r p us).st r (p + j) = some (us.getD j undef) := by
  have hc : r = r ∧ p ≤ p + j ∧ p + j < p + us.length := ⟨rfl, by omega, by omega⟩
  show (if r = r ∧ p ≤ p + j ∧ p + j < p + us.length then us[p + j - p]? else G.st r (p + j)) = _
  rw [if_pos hc, show p + j - p = j by omega, List.getElem?_eq_getElem hj]
  simp [List.getD, List.getElem?_eq_getElem hj]

/-- A plain slice over cells that have become lasting. -/
theorem rel_ps_new {G' : Gh} {r p n cap s : Nat} {us : List Value} {xs : List V} (hst : ∀ j, j < us.length → G'.st r (p + j) = some (us.getD j undef)) (hn : xs.length = n) (hc : n ≤ cap) (hs : ∀ x ∈ xs, x.cells.length = s)
    (hu : Rels G' us (flat xs)) : Rel G' (.slice (some ⟨r, p, none⟩) n cap) (.ps s xs) := by
  refine .ps r p n cap s xs (fun j => us.getD j undef) hn hc hs (fun j hj => hst j (by rw [hu.1]; exact hj)) fun j hj => ?_
  have := hu.2 j (by rw [hu.1]; exact hj) hj
  simpa [List.getD, List.getElem?_eq_getElem (show j < us.length by rw [hu.1]; exact hj)] using this

/-- The step that makes a plain slice: a new block whose first cells are its elements. -/
theorem make_ps (m : Mem G h ρ w) (cs : Array Value) (t f1 f2 : Nat) (hf : f1 = f2) (s n cap : Nat) (xs : List V) (hn : xs.length = n) (hc : n ≤ cap) (hcs : cs.size = cap * s) (hs : ∀ x ∈ xs, x.cells.length = s)
    (hr : Rels G (cs.toList.take (n * s)) (flat xs)) (hone : ∀ u ∈ cs.toList.take (n * s), u.oneCell' = true) (d c : Nat) (hk : ρ (.key d c) = none) :
    ∃ G' ρ', Mem G' h ρ' (w.evPush (.cells cs t (f1, f2))) ∧ Fr G ρ w G' ρ' (w.evPush (.cells cs t (f1, f2))) ∧ Rel G' (.slice (some ⟨w.heap.size, 0, none⟩) n cap) (.ps s xs) ∧
      (∀ y, y ≠ .key d c → ρ' y = ρ y) ∧ OwnVal (.slice (some ⟨w.heap.size, 0, none⟩) n cap) (.ps s xs) (ρ' (.key d c)) := by
  have hns : n * s ≤ cs.size := by rw [hcs]; exact Nat.mul_le_mul_right _ hc
  have hlen : (cs.toList.take (n * s)).length = n * s := by simp; omega
  obtain ⟨m', f', a'⟩ := m.push_key cs t f1 f2 hf (cs.toList.take (n * s)) (n * s) hlen hns (fun j hj => by rw [List.getElem?_take]; simp [hj]) hone d c hk
  refine ⟨_, _, m', f', rel_ps_new (fun j hj => addSt_st _ _ _ _ _ hj) hn hc hs (hr.mono f'.le), fun y hy => ?_, ?_⟩
  · simp [Rho.set, hy]
  · simp [OwnVal, Rho.set, hcs]

/-- The same, where the spare cells are nobody's. -/
theorem make_pl (m : Mem G h ρ w) (cs : Array Value) (t f1 f2 : Nat) (s n cap : Nat) (xs : List V) (hn : xs.length = n) (hc : n ≤ cap) (hcs : cs.size = cap * s) (hs : ∀ x ∈ xs, x.cells.length = s)
    (hr : Rels G (cs.toList.take (n * s)) (flat xs)) (hone : ∀ u ∈ cs.toList.take (n * s), u.oneCell' = true) :
    ∃ G', Mem G' h ρ (w.evPush (.cells cs t (f1, f2))) ∧ Fr G ρ w G' ρ (w.evPush (.cells cs t (f1, f2))) ∧ Rel G' (.slice (some ⟨w.heap.size, 0, none⟩) n cap) (.ps s xs) := by
  have hns : n * s ≤ cs.size := by rw [hcs]; exact Nat.mul_le_mul_right _ hc
  have hlen : (cs.toList.take (n * s)).length = n * s := by simp; omega
  obtain ⟨m', f'⟩ := m.push_pl cs t f1 f2 (cs.toList.take (n * s)) (n * s) hlen hns (fun j hj => by rw [List.getElem?_take]; simp [hj]) hone
  exact ⟨_, m', f', rel_ps_new (fun j hj => addSt_st _ _ _ _ _ hj) hn hc hs (hr.mono f'.le)⟩

theorem run_newRow (t : Nat) (cs : Array Value) : (newRow t cs).run P w = .ok ⟨w.heap.size, 0, none⟩ (w.evPush (.cells cs t)) := by
  simp [newRow, World.evPush]

/-! #### alloc, box -/
def zeroCellsIs (P : Program) (t : Nat) (z : List V) : Bool :=
  match (P.info? t).bind (·.zero) with
  | some u => cOks z u.cells.toList
  | none => false

theorem zeroCells_run {t : Nat} {z : List V} (hz : zeroCellsIs P t z = true) (G : Gh) : ∃ u, (zeroValue t).run P w = .ok u w ∧ Rels G u.cells.toList z := by
  unfold zeroCellsIs at hz
  cases hi : P.info? t with
  | none => simp [hi] at hz
  | some i =>
    cases hzz : i.zero with
    | none => simp [hi, hzz] at hz
    | some u =>
      simp [hi, hzz] at hz
      exact ⟨u, by simp [zeroValue, typeInfo, hi, hzz], cOks_rel G _ _ hz⟩

/-- A new variable. -/
theorem var_m (m : Mem G h ρ w) (t : Nat) (u : Value) (vs : List V) (hr : Rels G u.cells.toList vs) (hone : ∀ y ∈ u.cells.toList, y.oneCell' = true) :
    ∃ G' ρ' w', (newVar t u).run P w = .ok ⟨w.heap.size, 0, none⟩ w' ∧ Mem G' (h ++ [some vs]) ρ' w' ∧ Fr G ρ w G' ρ' w' ∧ Rel G' (.pointer (some ⟨w.heap.size, 0, none⟩)) (.ptr h.length 0) ∧ (∀ s c, ρ' (.key s c) = ρ (.key s c)) := by
  have hl : vs.length = u.cells.size := by simpa using hr.1.symm
  obtain ⟨m', f'⟩ := m.push_blk u.cells t vs (by omega) (by rw [hl, ← Array.length_toList, List.take_length]; exact hr) (by rw [hl, ← Array.length_toList, List.take_length]; exact hone)
  refine ⟨_, _, _, run_newRow _ _, m', f', ?_, fun s c => by simp [Rho.set]⟩
  have := Rel.ptr (G := G.addReg h.length (w.heap.size, 0, u.cells.size)) h.length 0 w.heap.size 0 u.cells.size (by simp [Gh.addReg])
  simpa using this

/-- A new variable that is never written. -/
theorem varf_m (m : Mem G h ρ w) (t : Nat) (u : Value) (vs : List V) (hr : Rels G u.cells.toList vs) (hone : ∀ y ∈ u.cells.toList, y.oneCell' = true) :
    ∃ G' w', (newVar t u).run P w = .ok ⟨w.heap.size, 0, none⟩ w' ∧ Mem G' h ρ w' ∧ Fr G ρ w G' ρ w' ∧ Rel G' (.pointer (some ⟨w.heap.size, 0, none⟩)) (.rp vs) := by
  obtain ⟨m', f'⟩ := m.push_st u.cells t hone
  refine ⟨_, _, run_newRow _ _, m', f', ?_⟩
  refine .rp w.heap.size 0 vs (fun j => u.cells.toList.getD j undef) (fun j hj => ?_) (fun j hj => ?_)
  · exact addSt_st G w.heap.size 0 u.cells.toList j (by rw [hr.1]; exact hj)
  · have hj' : j < u.cells.toList.length := by rw [hr.1]; exact hj
    have := (hr.2 j hj' hj).mono f'.le
    simpa [List.getD, List.getElem?_eq_getElem hj'] using this

/-! #### buildSlice -/
theorem fill_all (s : Nat) : ∀ (us : List Value) (i : Nat) (pre rest : List Value) (cells : Array Value), (∀ u ∈ us, u.cells.size = s) → cells.toList = pre ++ rest → pre.length = i * s → rest.length = us.length * s →
    ∃ cs, Instr.fill (fun i => some (i * s, s)) cells ((us.zipIdx i).map fun (u, j) => (j, u)) = some cs ∧ cs.toList = pre ++ us.flatMap (fun u => u.cells.toList)
  | [], i, pre, rest, cells, _, hc, _, hr => by
    have : rest = [] := List.length_eq_zero_iff.1 (by simpa using hr)
    exact ⟨cells, rfl, by simp [hc, this]⟩
  | u :: us, i, pre, rest, cells, hu, hc, hp, hr => by
    have hus := hu u (by simp)
    have hr' : rest.length = us.length * s + s := by rw [hr, List.length_cons, Nat.succ_mul]
    have hsz : cells.size = pre.length + rest.length := by rw [← Array.length_toList, hc]; simp
    have e : (u.cells.zipIdx.foldl (fun cs (c, j) => cs.setIfInBounds (i * s + j) c) cells).toList = (pre ++ u.cells.toList) ++ rest.drop s := by
      rw [← Array.foldl_toList, Array.toList_zipIdx]
      have := fill_fold (i * s) u.cells.toList 0 cells (by simp; omega)
      simp only [Nat.add_zero] at this
      rw [this, hc, ← hp, List.take_left, show u.cells.toList.length = s by simpa using hus, ← List.drop_drop, List.drop_left]
    obtain ⟨cs, h1, h2⟩ := fill_all s us (i + 1) (pre ++ u.cells.toList) (rest.drop s) (u.cells.zipIdx.foldl (fun cs (c, j) => cs.setIfInBounds (i * s + j) c) cells) (fun x hx => hu x (by simp [hx])) e
      (by simp [hp, hus, Nat.succ_mul]) (by simp [hr'])
    refine ⟨cs, ?_, by rw [h2]; simp⟩
    rw [List.zipIdx_cons, List.map_cons]
    simp only [Instr.fill]
    rw [if_neg (by simp [hus]; omega)]
    exact h1

def chkIdx : Nat → List (Nat × Operand) → Bool
  | _, [] => true
  | i, (j, _) :: r => i == j && chkIdx (i + 1) r
theorem chkIdx_eq (f : Operand → Value) : ∀ (i : Nat) (l : List (Nat × Operand)), chkIdx i l = true → l.map (fun q => (q.1, f q.2)) = ((l.map fun q => f q.2).zipIdx i).map fun (u, j) => (j, u)
  | _, [], _ => rfl
  | i, (j, x) :: r, h => by
    simp [chkIdx] at h
    obtain ⟨rfl, h⟩ := h
    have := chkIdx_eq f (i + 1) r h
    simp [this]

theorem rels_flat : ∀ (us : List Value) (vs : List V), Rels G us vs → Rels G (us.flatMap fun u => u.cells.toList) (flat vs)
  | [], [], _ => .nil
  | [], _ :: _, h => by have := h.1; simp at this
  | _ :: _, [], h => by have := h.1; simp at this
  | u :: us, v :: vs, h => by
    have := (h.head.cells).append (rels_flat us vs h.tail)
    simpa [flat] using this

def chkBsl (P : Program) (s : Nat) (xs : List A) (t len : Nat) (ps : List (Nat × Operand)) : Bool :=
  match P.underlying t with
  | some (.slice el) => sizeIs P el s && ps.length == len && decide (len * s ≤ 16777216) && chkIdx 0 ps && chkAs xs (ps.map (·.2)) && ((P.info? el).bind (·.zero)).isSome
  | _ => false

theorem bsl_run {a : Act} {e : Env} (he : EnvRel G a.tmps e) {s : Nat} {xs : List A} {t len : Nat} {ps : Array (Nat × Operand)} (hc : chkBsl P s xs t len ps.toList = true) {vs : List V} (hv : A.evs e xs = some vs)
    (hs : ∀ v ∈ vs, v.cells.length = s) :
    ∃ el cs, (Instr.buildSlice t len (ps.map fun (i, x) => (i, a.eval x))).run P w = .ok (.slice (some ⟨w.heap.size, 0, none⟩) len len) (w.evPush (.cells cs el)) ∧ vs.length = len ∧ cs.size = len * s ∧ Rels G cs.toList (flat vs) := by
  unfold chkBsl at hc
  cases hd : P.underlying t with
  | none => simp [hd] at hc
  | some d =>
    cases d <;> simp [hd] at hc
    rename_i el
    obtain ⟨⟨⟨⟨⟨c1, c2⟩, c3⟩, c4⟩, c5⟩, c6⟩ := hc
    have hu := run_underlying P w t _ hd
    have hsz := sizeIs_run (w := w) c1
    obtain ⟨z, hz⟩ : ∃ z, (zeroValue el).run P w = .ok z w := by
      cases hi : P.info? el with
      | none => simp [hi] at c6
      | some i =>
        cases hzz : i.zero with
        | none => simp [hi, hzz] at c6
        | some z => exact ⟨z, by simp [zeroValue, typeInfo, hi, hzz]⟩
    have hr := As_rel he xs (ps.toList.map (·.2)) c5 vs hv
    have hmm : ((ps.toList.map (·.2)).map a.eval) = ps.toList.map fun q => a.eval q.2 := by simp
    rw [hmm] at hr
    have hl : vs.length = len := by have := hr.1; simp at this; omega
    have hus : ∀ u ∈ ps.toList.map (fun q => a.eval q.2), u.cells.size = s := fun u hu' => by
      obtain ⟨j, hj, rfl⟩ := List.mem_iff_getElem.1 hu'
      have hj' : j < vs.length := by rw [← hr.1]; exact hj
      have := (hr.2 j hj hj').cells.1
      have k := hs _ (List.getElem_mem hj')
      simp only [Array.length_toList] at this
      omega
    have fin : ∀ (init : Array Value), init.size = len * s → ∃ cs : Array Value, Instr.fill (fun i => some (i * s, s)) init (ps.toList.map fun (q : Nat × Operand) => (q.1, a.eval q.2)) = some cs ∧ cs.size = len * s ∧ Rels G cs.toList (flat vs) := by
      intro init hin
      rw [chkIdx_eq a.eval 0 _ c4]
      obtain ⟨cs, f1, f2⟩ := fill_all s (ps.toList.map fun q => a.eval q.2) 0 [] init.toList init hus (by simp) (by simp) (by simp [hin, c2])
      have hrf := rels_flat _ _ hr
      refine ⟨cs, f1, ?_, ?_⟩
      · have : cs.toList.length = (flat vs).length := by rw [f2]; simpa using hrf.1
        rw [Array.length_toList] at this
        rw [this, flat_length s vs hs, hl]
      · rw [f2]; simpa using hrf
    by_cases h0 : len * s = 0
    · obtain ⟨cs, f1, f2, f3⟩ := fin ((Array.range (len * s)).map (fun i => (#[] : Array Value)[i % (#[] : Array Value).size]!)) (by simp)
      refine ⟨el, cs, ?_, hl, f2, f3⟩
      simp only [Instr.buildSlice, Sem.run_bind, hu, Result.andThen_ok, hsz]
      rw [if_neg (by omega), if_pos h0]
      simp only [pure_bind, Sem.run_bind, Sem.run_pure, Result.andThen_ok, Array.toList_map]
      rw [f1]
      simp [run_newRow]
    · obtain ⟨cs, f1, f2, f3⟩ := fin ((Array.range (len * s)).map (fun i => z.cells[i % z.cells.size]!)) (by simp)
      refine ⟨el, cs, ?_, hl, f2, f3⟩
      simp only [Instr.buildSlice, Sem.run_bind, hu, Result.andThen_ok, hsz]
      rw [if_neg (by omega), if_neg h0]
      simp only [pure_bind, Sem.run_bind, Sem.run_pure, Result.andThen_ok, Array.toList_map, hz]
      rw [f1]
      simp [run_newRow]
end
end Ev

/-! Ev, part M: append, make, copy, bytes of a string. -/
namespace Ev
open Go

section
variable {P : Program} {G : Gh} {h : Heap} {ρ : Rho} {w : World}

theorem byteV_rel (G : Gh) (s : ByteArray) (n : Nat) (hn : n = s.size) : Rels G (((s.extract 0 n).data.map fun b => (Value.int .u8 b.toNat)).toList) (s.data.toList.map byteV) := by
  subst hn
  have : (s.extract 0 s.size).data.toList = s.data.toList := by
    rw [Lib.extract_data]; exact List.take_of_length_le (by simp)
  rw [Array.toList_map, this]
  generalize s.data.toList = l
  induction l with
  | nil => exact .nil
  | cons c l ih => exact .cons (.int _ _) ih

/-- The cells that are appended, or copied. -/
theorem new_run (m : Mem G h ρ w) {s : Nat} {uy : Value} {y : V} {cs : List V} (ry : Rel G uy y) (hc : newCells h s y = some cs) :
    ∃ n us, (Builtin.lenOf uy).run P w = .ok n w ∧ (Builtin.firstCells s n uy).run P w = .ok us w ∧ Rels G us.toList cs ∧ cs.length = n * s ∧
      ∀ k, k ≤ n → ∃ us', (∀ w', w'.heap = w.heap → (Builtin.firstCells s k uy).run P w' = .ok us' w') ∧ Rels G us'.toList (cs.take (k * s)) ∧ ∀ u ∈ us'.toList, u.oneCell' = true := by
  have full : ∀ {r o : Nat} {us : List Value} {n cap : Nat}, Rels G us cs → At w r o us → (∀ u ∈ us, u.oneCell' = true) → cs.length = n * s → ∀ k, k ≤ n →
      ∃ us', (∀ w', w'.heap = w.heap → (Builtin.firstCells s k (.slice (some ⟨r, o, none⟩) n cap)).run P w' = .ok us' w') ∧ Rels G us'.toList (cs.take (k * s)) ∧ ∀ u ∈ us'.toList, u.oneCell' = true := by
    intro r o us n cap hu ha hone hl k hk
    have hks : k * s ≤ n * s := Nat.mul_le_mul_right _ hk
    refine ⟨(us.take (k * s)).toArray, fun w' hw' => ?_, by simpa using hu.take (k * s), fun u hu' => hone u (List.mem_of_mem_take (by simpa using hu'))⟩
    have hrun := run_loadCells_list (P := P) w' ⟨r, o, none⟩ (us.take (k * s)) (fun j v hv => by rw [addr_add]; have := ha.take _ j v hv; simpa [World.cell?, hw'] using this)
    rw [List.length_take, hu.1, hl, Nat.min_eq_left hks] at hrun
    simpa [Builtin.firstCells] using hrun
  unfold newCells at hc
  cases y <;> try (cases hc; done)
  case hn s' =>
    simp only at hc
    split at hc
    · rename_i e; subst e
      cases hc
      cases ry with
      | hn _ p =>
      have hz : ∀ w', (Builtin.firstCells s 0 (.slice p 0 0)).run P w' = .ok #[] w' := fun w' => by
        cases p with
        | none => simp [Builtin.firstCells]
        | some a =>
          have := run_loadCells_list (P := P) (w := w') a [] (fun j v hv => by simp at hv)
          simpa [Builtin.firstCells] using this
      refine ⟨0, #[], by simp [Builtin.lenOf], hz w, Rels.nil, by simp, fun k hk => ?_⟩
      have : k = 0 := by omega
      subst this
      exact ⟨#[], fun w' _ => hz w', by simpa using Rels.nil, by simp⟩
    · cases hc
  case ps s' xs =>
    simp only at hc
    split at hc
    · rename_i e; subst e
      cases hc
      have ry' := ry
      cases ry with
      | ps0 s p =>
        have hz : ∀ w', (Builtin.firstCells s 0 (.slice p 0 0)).run P w' = .ok #[] w' := fun w' => by
          cases p with
          | none => simp [Builtin.firstCells]
          | some a =>
            have := run_loadCells_list (P := P) (w := w') a [] (fun j v hv => by simp at hv)
            simpa [Builtin.firstCells] using this
        refine ⟨0, #[], by simp [Builtin.lenOf], hz w, by simpa [flat] using Rels.nil, by simp [flat], fun k hk => ?_⟩
        have : k = 0 := by omega
        subst this
        exact ⟨#[], fun w' _ => hz w', by simpa [flat] using Rels.nil, by simp⟩
      | ps r o n cap s xs uu hn hcc hss hst hk =>
        obtain ⟨us, hu, ha, hone⟩ := m.ps ry'
        have hl : (flat xs).length = n * s := by rw [flat_length s xs hss, hn]
        have hf := full (cap := cap) hu ha hone hl
        obtain ⟨us', h1, h2, _⟩ := hf n (Nat.le_refl _)
        rw [← hl, List.take_length] at h2
        exact ⟨n, us', by simp [Builtin.lenOf], h1 w rfl, h2, hl, hf⟩
    · cases hc
  case str l =>
    simp only at hc
    split at hc
    · rename_i e; subst e
      cases hc
      obtain ⟨sb, rfl, rfl⟩ := rel_str ry
      have hb := byteV_rel G sb sb.size rfl
      refine ⟨sb.size, _, by simp [Builtin.lenOf], by simp only [Builtin.firstCells, Sem.run_pure], hb, by simp, fun k hk => ?_⟩
      refine ⟨_, fun w' _ => by simp only [Builtin.firstCells, Sem.run_pure]; rfl, ?_, fun u hu => by
        simp only [Array.toList_map, List.mem_map] at hu
        obtain ⟨_, _, rfl⟩ := hu
        rfl⟩
      have e : (((sb.extract 0 k).data.map fun b => (Value.int .u8 b.toNat)).toList) = (((sb.extract 0 sb.size).data.map fun b => (Value.int .u8 b.toNat)).toList).take (k * 1) := by
        simp only [Array.toList_map, Lib.extract_data, List.drop_zero, Nat.sub_zero, Nat.mul_one]
        rw [← List.map_take, List.take_take, Nat.min_eq_left hk]
      rw [e]
      exact hb.take _
    · cases hc
  case hs s' b off len =>
    simp only at hc
    split at hc
    · rename_i e; subst e
      obtain ⟨r, o, cap, us, rfl, hu, ha, hcap, hone⟩ := m.hs ry hc
      have hl : cs.length = len * s := by
        unfold hsCells at hc
        simp only [Option.bind_eq_some_iff] at hc
        obtain ⟨row, _, h2⟩ := hc
        split at h2
        · cases h2; simp; omega
        · cases h2
      have hf := full (cap := cap) hu ha hone hl
      obtain ⟨us', h1, h2, _⟩ := hf len (Nat.le_refl _)
      rw [← hl, List.take_length] at h2
      exact ⟨len, us', by simp [Builtin.lenOf], h1 w rfl, h2, hl, hf⟩
    · cases hc

theorem newEls_cells {s : Nat} {y : V} {ys : List V} {uy : Value} (ry : Rel G uy y) (hy : newEls h s y = some ys) :
    newCells h s y = some (flat ys) ∧ ∀ x ∈ ys, x.cells.length = s := by
  unfold newEls at hy
  unfold newCells
  cases y <;> try (cases hy; done)
  case hn s' =>
    simp only at hy ⊢
    split at hy
    · rename_i e; subst e
      cases hy
      exact ⟨by simp [flat], by simp⟩
    · cases hy
  case ps s' xs =>
    simp only at hy ⊢
    split at hy
    · rename_i e; subst e
      cases hy
      refine ⟨by simp, ?_⟩
      cases ry with
      | ps0 s p => simp
      | ps r o n cap s xs uu hn hcc hss hst hk => exact hss
    · cases hy
  case str l =>
    simp only at hy ⊢
    split at hy
    · rename_i e; subst e
      cases hy
      have : ∀ l : List UInt8, flat (l.map byteV) = l.map byteV := fun l => by
        induction l with
        | nil => rfl
        | cons c l ih =>
          unfold flat at ih ⊢
          rw [List.map_cons, List.flatMap_cons, ih]; rfl
      exact ⟨by simp [this], fun x hx => by obtain ⟨c, _, rfl⟩ := List.mem_map.1 hx; rfl⟩
    · cases hy
  case hs s' b off len =>
    simp only at hy ⊢
    split at hy
    · rename_i e
      obtain ⟨e1, e2⟩ := e
      subst e1
      simp only [Option.bind_eq_some_iff] at hy
      obtain ⟨cs, hy, h1⟩ := hy
      split at h1
      case isFalse => cases h1
      rename_i h1'
      cases h1
      have h1 := h1'
      rw [if_pos rfl, hy]
      have hc : ∀ x ∈ ys, x.cells = [x] := fun x hx => by
        have := List.all_eq_true.1 h1 x hx
        cases x <;> simp [V.one] at this <;> rfl
      refine ⟨?_, fun x hx => by rw [hc x hx]; simpa using e2.symm⟩
      congr 1
      clear hy h1 h1'
      induction ys with
      | nil => rfl
      | cons y ys ih =>
        have := ih (fun x hx => hc x (by simp [hx]))
        unfold flat at this ⊢
        rw [List.flatMap_cons, hc y (by simp), ← this]; rfl
    · cases hy

/-- A slot's stretch goes to another slot. -/
theorem Mem.move (m : Mem G h ρ w) (k0 d : Nat × Nat) (hd : ρ (.key d.1 d.2) = none ∨ d = k0) :
    Mem G h ((ρ.set (.key k0.1 k0.2) none).set (.key d.1 d.2) (ρ (.key k0.1 k0.2))) w ∧ Fr G ρ w G ((ρ.set (.key k0.1 k0.2) none).set (.key d.1 d.2) (ρ (.key k0.1 k0.2))) w := by
  obtain ⟨s0, c0⟩ := k0
  obtain ⟨s, c⟩ := d
  simp only at hd ⊢
  have hρ : ∀ y r l j, ((ρ.set (.key s0 c0) none).set (.key s c) (ρ (.key s0 c0))) y = some (r, l, j) → (y = .key s c ∧ ρ (.key s0 c0) = some (r, l, j)) ∨ (y ≠ .key s c ∧ y ≠ .key s0 c0 ∧ ρ y = some (r, l, j)) := by
    intro y r l j hy
    simp only [Rho.set] at hy
    split at hy
    · exact .inl ⟨by assumption, hy⟩
    · split at hy
      · cases hy
      · exact .inr ⟨by assumption, by assumption, hy⟩
  refine ⟨⟨m.st, fun b bs hb hob => ?_, m.lt, fun y r l j hy => ?_, fun y z r l1 j1 l2 j2 hne hy hz => ?_, fun b hb => ?_, m.obs⟩, ⟨.refl G, Nat.le_refl _, rfl, rfl, rfl, fun _ _ _ _ => ⟨rfl, rfl⟩, fun _ _ _ _ => rfl, ?_, fun _ _ k => .inl k, fun _ _ k => .inl k⟩⟩
  · obtain ⟨r, lo, hi, k1, k2, k3⟩ := m.blk b bs hb hob
    exact ⟨r, lo, hi, k1, by simpa [Rho.set] using k2, k3⟩
  · rcases hρ y r l j hy with ⟨_, k⟩ | ⟨_, _, k⟩
    · exact m.own _ r l j k
    · exact m.own _ r l j k
  · rcases hρ y r l1 j1 hy with ⟨e1, k1⟩ | ⟨n1, n2, k1⟩
    · rcases hρ z r l2 j2 hz with ⟨e2, k2⟩ | ⟨n3, n4, k2⟩
      · exact absurd (e1.trans e2.symm) hne
      · exact m.dis _ _ r l1 j1 l2 j2 (fun e => n4 e.symm) k1 k2
    · rcases hρ z r l2 j2 hz with ⟨e2, k2⟩ | ⟨n3, n4, k2⟩
      · exact m.dis _ _ r l1 j1 l2 j2 n2 k1 k2
      · exact m.dis _ _ r l1 j1 l2 j2 hne k1 k2
  · refine m.ob b fun e => hb ?_
    simpa [Rho.set] using e
  · rintro r o ⟨y, l, j, hy, a, b⟩
    rcases hρ y r l j hy with ⟨_, k⟩ | ⟨_, _, k⟩
    · exact .inl ⟨_, l, j, k, a, b⟩
    · exact .inl ⟨_, l, j, k, a, b⟩

theorem sub_set_none (ρ : Rho) (x : Ow) : Rho.sub (ρ.set x none) ρ := fun y => by
  simp only [Rho.set]
  split
  · exact .inl rfl
  · exact .inr rfl

def chkApp (P : Program) (s bytes : Nat) (ats : Array Nat) : Bool :=
  match ats[0]?, ats[1]? with
  | some t, some t' => (match P.underlying t, P.underlying t' with
    | some (.slice el), some d' => (match d' with | .slice _ | .string => true | _ => false) && sizeIs P el s && (P.info? el).map (·.bytes) == some bytes && (decide (0 < bytes) && decide (0 < s)) &&
        (match (P.info? el).bind (·.zero) with | some z => z.cells.size == s | none => false)
    | _, _ => false)
  | _, _ => false

theorem append_run {s bytes : Nat} {ats : Array Nat} {ty : Nat} (hc : chkApp P s bytes ats = true) {ux uy : Value} {base : Option Addr} {n cap k : Nat} (hx : ux = .slice base n cap) {old new : Array Value}
    (hn : (Builtin.lenOf uy).run P w = .ok k w) (hnew : ∀ w', w'.heap = w.heap → (Builtin.firstCells s k uy).run P w' = .ok new w') (hold : ∀ w', w'.heap = w.heap → (Builtin.firstCells s n ux).run P w' = .ok old w')
    (hb : (n + k) * bytes ≤ 140737488355328) (hos : old.size = n * s) (hns : new.size = k * s) :
    (n + k ≤ cap ∧ (Builtin.append_ ats ty #[ux, uy]).run P w = (match base with | some a => ((storeCells (a.add (n * s)) new.toList).run P w).andThen fun _ w => .ok (.slice base (n + k) cap) w | none => .ok (.slice base (n + k) cap) w)) ∨
    (cap < n + k ∧ ∃ cap' el rest, n + k ≤ cap' ∧ (old ++ new ++ rest).size = cap' * s ∧
      (Builtin.append_ ats ty #[ux, uy]).run P w = .ok (.slice (some ⟨w.heap.size, 0, none⟩) (n + k) cap') (({ w with drawn := w.drawn + 1 } : World).evPush (.cells (old ++ new ++ rest) el))) := by
  subst hx
  unfold chkApp at hc
  cases ht : ats[0]? with
  | none => simp [ht] at hc
  | some t =>
    cases ht' : ats[1]? with
    | none => simp [ht, ht'] at hc
    | some t' =>
      simp only [ht, ht'] at hc
      cases hd : P.underlying t with
      | none => simp [hd] at hc
      | some d =>
        cases hd' : P.underlying t' with
        | none => cases d <;> simp [hd, hd'] at hc
        | some d' =>
          cases d <;> simp only [hd, hd'] at hc <;> try (cases hc; done)
          rename_i el
          simp only [Bool.and_eq_true, decide_eq_true_eq] at hc
          obtain ⟨⟨⟨⟨c1, c2⟩, c3⟩, ⟨c4, _⟩⟩, c5⟩ := hc
          have hu := run_underlying P w t _ hd
          have hu' := run_underlying P w t' _ hd'
          obtain ⟨ti, hti, hsz⟩ := sizeIs_iff c2
          have hby : ti.bytes = bytes := by simpa [hti] using c3
          obtain ⟨z, hz, hzs⟩ : ∃ z, ti.zero = some z ∧ z.cells.size = s := by
            cases hz : ti.zero with
            | none => simp [hti, hz] at c5
            | some z => exact ⟨z, rfl, by simpa [hti, hz] using c5⟩
          have hinfo : ∀ w, (typeInfo el).run P w = .ok ti w := fun w => by simp [typeInfo, hti]
          have hsize : ∀ w, (Go.sizeOf el).run P w = .ok s w := fun w => by rw [run_sizeOf P w el ti hti, hsz]
          have hzero : ∀ w, (zeroValue el).run P w = .ok z w := fun w => by simp [zeroValue, typeInfo, hti, hz]
          have hcap := nextslicecap_le (need := n + k) (old := cap)
          have hb0 : n + k ≤ 140737488355328 := Nat.le_trans (Nat.le_mul_of_pos_right _ c4) hb
          have e1 : ¬ (((n + k : Nat) : Int) > IntKind.i64.max ∧ (False ∨ bytes = 0)) := by
            rintro ⟨_, h | h⟩
            · exact h
            · omega
          have e2 : ¬ cap ≥ n + k → ¬ Builtin.nextslicecap (n + k) cap * bytes > 2 ^ 48 := fun hlt => by
            have hb2 : Builtin.nextslicecap (n + k) cap * bytes ≤ 281474976710656 := by
              calc _ ≤ (2 * (n + k)) * bytes := Nat.mul_le_mul_right _ (hcap (by omega))
                _ = 2 * ((n + k) * bytes) := by rw [Nat.mul_assoc]
                _ ≤ _ := by omega
            omega
          have hd2 : (∃ e, d' = .slice e) ∨ d' = .string := by cases d' <;> simp at c1 <;> simp
          by_cases hle : n + k ≤ cap
          · refine .inl ⟨hle, ?_⟩
            rcases hd2 with ⟨e', rfl⟩ | rfl <;> cases base <;>
              simp [Builtin.append_, ht, ht', hu, hu', hsize, hn, hle, hnew w rfl, Result.andThen]
          · refine .inr ⟨by omega, Question.cut (.appendCap (n + k) cap el) (w.tape w.drawn (.appendCap (n + k) cap el)), el, Builtin.zeroCells z.cells (Question.cut (.appendCap (n + k) cap el) (w.tape w.drawn (.appendCap (n + k) cap el)) - (n + k)), by simp [Question.cut], ?_, ?_⟩
            · have : n + k ≤ Question.cut (.appendCap (n + k) cap el) (w.tape w.drawn (.appendCap (n + k) cap el)) := by simp [Question.cut]
              generalize Question.cut (.appendCap (n + k) cap el) (w.tape w.drawn (.appendCap (n + k) cap el)) = cp at this ⊢
              simp [Builtin.zeroCells, hzs, hos, hns]
              rw [← Nat.add_mul, ← Nat.add_mul]
              congr 1; omega
            · have e3 := e2 (by omega)
              have hold' := hold { w with drawn := w.drawn + 1 } rfl
              have hnew' := hnew { w with drawn := w.drawn + 1 } rfl
              rcases hd2 with ⟨e', rfl⟩ | rfl <;>
              · unfold Builtin.append_
                simp only [ht, ht', pure_bind, Sem.run_bind, hu, hu', Result.andThen_ok, hsize, hinfo, Sem.run_pure, hn, List.getElem?_toArray, List.getElem?_cons_zero, List.getElem?_cons_succ]
                simp only [Bool.false_eq_true, if_false, Sem.run_bind, hn, Result.andThen_ok]
                rw [if_neg hle]
                simp only [Sem.run_bind, hinfo, hby, Result.andThen_ok]
                rw [if_neg e1]
                simp only [Sem.run_bind, Sem.run_pure, hinfo, hby, Result.andThen_ok]
                rw [if_neg e3]
                simp only [Sem.run_bind, Sem.run_pure, Result.andThen_ok, run_choose, Question.forced, Bool.false_eq_true, if_false, hinfo, run_askRoom, hold', Bool.not_false, if_true, hnew', hzero, run_newRow]
end
end Ev

/-! Ev, part N: append, for plain slices and for those of the abstract heap. -/
namespace Ev
open Go
section
variable {P : Program} {G : Gh} {h : Heap} {ρ : Rho} {w : World}

theorem chkApp_size {s bytes : Nat} {ats : Array Nat} (hc : chkApp P s bytes ats = true) : 0 < s := by
  unfold chkApp at hc
  split at hc
  · split at hc
    · simp only [Bool.and_eq_true, decide_eq_true_eq] at hc
      exact hc.1.2.2
    · cases hc
  · cases hc

theorem Fr.drew' {G' : Gh} {ρ' : Rho} {w' : World} {n : Nat} (f : Fr G ρ { w with drawn := n } G' ρ' w') : Fr G ρ w G' ρ' w' :=
  (Fr.drew G ρ w n).trans f

theorem OwnVal.none_iff {u : Value} {x : V} {r : Option Reg} (ho : OwnVal u x r) (hn : ∃ n c, u = .slice none n c) : r = none := by
  obtain ⟨n, c, rfl⟩ := hn
  cases x <;> first | exact ho | exact ho.elim

/-- append to a plain slice. -/
theorem appP_sound (m : Mem G h ρ w) {s bytes ty : Nat} {ats : Array Nat} (hc : chkApp P s bytes ats = true) {ux uy : Value} {x y v : V} (rx : Rel G ux x) (ry : Rel G uy y) (hv : appV h s bytes x y = some v)
    (k0 : Nat × Nat) (hk0 : OwnVal ux x (ρ (.key k0.1 k0.2))) (d : Nat × Nat) (hd : ρ (.key d.1 d.2) = none ∨ d = k0) :
    ∃ u w' G' ρ', (Builtin.append_ ats ty #[ux, uy]).run P w = .ok u w' ∧ Mem G' h ρ' w' ∧ Fr G ρ w G' ρ' w' ∧ Rel G' u v ∧ OwnVal u v (ρ' (.key d.1 d.2)) ∧
      (∀ z, z ≠ .key d.1 d.2 → z ≠ .key k0.1 k0.2 → ρ' z = ρ z) ∧ (k0 ≠ d → ρ' (.key k0.1 k0.2) = none) := by
  obtain ⟨s0, c0⟩ := k0
  obtain ⟨ds, dc⟩ := d
  simp only at hk0 hd ⊢
  unfold appV at hv
  cases x <;> try (cases hv; done)
  rename_i s' xs
  simp only at hv
  split at hv
  case isFalse => cases hv
  rename_i e
  subst e
  simp only [Option.bind_eq_some_iff] at hv
  obtain ⟨ys, hys, hv⟩ := hv
  split at hv
  case isFalse => cases hv
  rename_i hb
  cases hv
  obtain ⟨hnc, hysz⟩ := newEls_cells ry hys
  obtain ⟨k, _, hlen, _, _, hl, hfull⟩ := new_run (P := P) m ry hnc
  obtain ⟨new, hnew, hnr, hn1⟩ := hfull k (Nat.le_refl _)
  rw [← hl, List.take_length] at hnr
  have hnl : new.size = k * s := by have := hnr.1; simp at this; omega
  have hspos := chkApp_size hc
  have hyk : ys.length = k := by
    rw [flat_length s ys hysz] at hl
    exact Nat.eq_of_mul_eq_mul_right hspos hl
  obtain ⟨n, _, hlenx, _, _, hlx, hfullx⟩ := new_run (P := P) m rx (show newCells h s (.ps s xs) = some (flat xs) by simp [newCells])
  obtain ⟨old, hold, hor, ho1⟩ := hfullx n (Nat.le_refl _)
  rw [← hlx, List.take_length] at hor
  have hol : old.size = n * s := by have := hor.1; simp at this; omega
  -- a new block
  have grow : ∀ (cap' el : Nat) (rest : Array Value), xs.length = n → (∀ x ∈ xs, x.cells.length = s) → n + k ≤ cap' → (old ++ new ++ rest).size = cap' * s →
      ∃ G' ρ', Mem G' h ρ' (({ w with drawn := w.drawn + 1 } : World).evPush (.cells (old ++ new ++ rest) el)) ∧ Fr G ρ w G' ρ' (({ w with drawn := w.drawn + 1 } : World).evPush (.cells (old ++ new ++ rest) el)) ∧
        Rel G' (.slice (some ⟨w.heap.size, 0, none⟩) (n + k) cap') (.ps s (xs ++ ys)) ∧ OwnVal (.slice (some ⟨w.heap.size, 0, none⟩) (n + k) cap') (.ps s (xs ++ ys)) (ρ' (.key ds dc)) ∧
        (∀ z, z ≠ .key ds dc → z ≠ .key s0 c0 → ρ' z = ρ z) ∧ ((s0, c0) ≠ (ds, dc) → ρ' (.key s0 c0) = none) := by
    intro cap' el rest hxn hxs hc1 hc2
    have hsub := sub_set_none ρ (.key s0 c0)
    have m1 := (m.drop hsub (fun b cs _ => by simp [Rho.set])).drew (w.drawn + 1)
    have hdn : (ρ.set (.key s0 c0) none) (.key ds dc) = none := by
      simp only [Rho.set]
      split
      · rfl
      · rename_i e
        rcases hd with hd | hd
        · exact hd
        · cases hd; exact absurd rfl e
    have htake : (old ++ new ++ rest).toList.take ((n + k) * s) = old.toList ++ new.toList := by
      rw [Array.toList_append, Array.toList_append, List.take_append_of_le_length (by simp [hol, hnl, Nat.add_mul])]
      exact List.take_of_length_le (by simp [hol, hnl, Nat.add_mul])
    obtain ⟨G', ρ', k1, k2, k3, k4, k5⟩ := make_ps m1 (old ++ new ++ rest) el 0 0 rfl s (n + k) cap' (xs ++ ys) (by simp [hxn, hyk]) hc1 hc2
      (fun x hx => (List.mem_append.1 hx).elim (hxs x) (hysz x)) (by rw [htake, flat_append]; exact hor.append hnr) (by rw [htake]; exact fun u hu => (List.mem_append.1 hu).elim (ho1 u) (hn1 u)) ds dc hdn
    refine ⟨G', ρ', k1, ((Fr.drop hsub).trans (Fr.drew G _ w _)).trans k2, k3, k5, fun z h1 h2 => ?_, fun hne => ?_⟩
    · rw [k4 z h1]; simp [Rho.set, h2]
    · rw [k4 _ (by simpa using hne)]; simp [Rho.set]
  cases rx with
  | ps0 s p =>
    have hn0 : n = 0 := by
      have : n * s = 0 := by rw [← hlx]; rfl
      rcases Nat.mul_eq_zero.1 this with h | h
      · exact h
      · omega
    rcases append_run (P := P) (w := w) (ty := ty) hc (uy := uy) (base := p) (n := n) (cap := 0) (k := k) (by rw [hn0]) hlen (hnew) (hold) (by rw [← hyk, hn0]; simpa using hb) hol hnl with ⟨hfit, hrun⟩ | ⟨hgr, cap', el, rest, g1, g2, hrun⟩
    · have hk00 : k = 0 := by omega
      have hys0 : ys = [] := List.length_eq_zero_iff.1 (by omega)
      subst hys0
      rw [hn0, hk00] at hrun
      have hnil : new.toList = [] := List.length_eq_zero_iff.1 (by rw [hk00] at hnl; simpa using hnl)
      have hrun' : (Builtin.append_ ats ty #[Value.slice p 0 0, uy]).run P w = .ok (.slice p 0 0) w := by
        rw [hrun]
        cases p with
        | none => rfl
        | some a => simp [hnil, storeCells]
      obtain ⟨m3, f3⟩ := m.move (s0, c0) (ds, dc) (by
        rcases hd with hd | hd
        · exact .inl hd
        · exact .inr hd)
      refine ⟨_, w, G, _, hrun', m3, f3, .ps0 _ _, ?_, fun z h1 h2 => ?_, fun hne => ?_⟩
      · have : ((ρ.set (.key s0 c0) none).set (.key ds dc) (ρ (.key s0 c0))) (.key ds dc) = ρ (.key s0 c0) := by simp [Rho.set]
        rw [this]
        cases p with
        | none => exact hk0
        | some a => exact hk0
      · simp [Rho.set, h1, h2]
      · have e' : ¬ (s0 = ds ∧ c0 = dc) := fun c => hne (by rw [c.1, c.2])
        simp [Rho.set, e']
    · obtain ⟨G', ρ', k1, k2, k3, k4, k5, k6⟩ := grow cap' el rest (by simp [hn0]) (by simp) g1 g2
      exact ⟨_, _, G', ρ', hrun, k1, k2, k3, k4, k5, k6⟩
  | ps r o n' cap s xs uu hn hcc hss hst hkk =>
    have hn' : n' = n := by
      rw [flat_length s xs hss] at hlx
      rw [← hn]
      exact Nat.eq_of_mul_eq_mul_right hspos hlx
    subst hn'
    have hr0 : ρ (.key s0 c0) = some (r, o + n' * s, o + cap * s) := hk0
    rcases append_run (P := P) (w := w) (ty := ty) hc (uy := uy) (base := some ⟨r, o, none⟩) (n := n') (cap := cap) (k := k) rfl hlen (hnew) (hold) (by rw [← hyk, ← hn]; exact hb) hol hnl with ⟨hfit, hrun⟩ | ⟨hgr, cap', el, rest, g1, g2, hrun⟩
    · have hks : n' * s + k * s ≤ cap * s := by rw [← Nat.add_mul]; exact Nat.mul_le_mul_right _ hfit
      have hnlen : new.toList.length = k * s := by simpa using hnl
      have hst1 := run_storeCells_cells (P := P) r (o + n' * s) new.toList 0 w
        (fun j hj => (m.own _ _ _ _ hr0 (o + n' * s + 0 + j) (by omega) (by omega)).1)
        (fun j hj => have k := m.own _ _ _ _ hr0 (o + n' * s + 0 + j) (by omega) (by omega); fz_frozen k.1 k.2.1) hn1
      simp only [Nat.add_zero] at hst1
      simp only [addr_add] at hrun
      simp only [hst1, Result.andThen_ok] at hrun
      obtain ⟨hkey, hfr⟩ := m.write hr0 (o + n' * s) new.toList (Nat.le_refl _) (by omega)
      have m1 := m.write_key hr0 (o + n' * s) new.toList (Nat.le_refl _) (by omega)
      have hat : At (w.setCells r (o + n' * s) new.toList) r (o + n' * s) new.toList := fun j v hv => by
        have hj : j < new.toList.length := (List.getElem?_eq_some_iff.1 hv).1
        rw [hkey, if_pos ⟨rfl, by omega, by omega⟩, show o + n' * s + j - (o + n' * s) = j by omega]
        exact hv
      obtain ⟨m2, f2⟩ := m1.last hr0 (o + n' * s) new.toList hat hn1 (Nat.le_refl _) (by omega) h rfl (ρ.set (.key s0 c0) (some (r, o + (n' + k) * s, o + cap * s)))
        (fun y r' lo' hi' hy => by
          simp only [Rho.set] at hy
          split at hy
          · rename_i e
            cases hy
            rw [e]
            exact ⟨_, _, hr0, by rw [Nat.add_mul]; omega, Nat.le_refl _, fun _ => by rw [hnlen, Nat.add_mul]; omega⟩
          · rename_i e
            exact ⟨_, _, hy, Nat.le_refl _, Nat.le_refl _, fun c => absurd c e⟩)
        (fun b cs hbc => ⟨hbc, by simp [Rho.set], by simp⟩)
      obtain ⟨m3, f3⟩ := m2.move (s0, c0) (ds, dc) (by
        rcases hd with hd | hd
        · by_cases e : (ds, dc) = (s0, c0)
          · exact .inr e
          · refine .inl ?_
            have e' : ¬ (ds = s0 ∧ dc = c0) := fun c => e (by rw [c.1, c.2])
            simp [Rho.set, e', hd]
        · exact .inr hd)
      refine ⟨_, _, _, _, hrun, m3, (hfr.trans f2).trans f3, ?_, ?_, fun z h1 h2 => ?_, fun hne => ?_⟩
      · have hfx := flat_length s xs hss
        refine .ps r o (n' + k) cap s (xs ++ ys) (fun j => if j < n' * s then uu j else new.toList.getD (j - n' * s) undef) (by simp [hn, hyk]) hfit (fun x hx => (List.mem_append.1 hx).elim (hss x) (hysz x)) (fun j hj => ?_) (fun j hj => ?_)
        · rw [flat_append, List.length_append, hfx, hn, hl] at hj
          by_cases hjn : j < n' * s
          · rw [if_pos hjn]
            exact f2.le.1 _ _ _ (hst j (by rw [hfx, hn]; exact hjn))
          · rw [if_neg hjn]
            have := addSt_st G r (o + n' * s) new.toList (j - n' * s) (by omega)
            rwa [show o + n' * s + (j - n' * s) = o + j by omega] at this
        · have hj2 := hj
          rw [flat_append, List.length_append, hfx, hn, hl] at hj2
          by_cases hjn : j < n' * s
          · simp only [if_pos hjn]
            have := (hkk j (by rw [hfx, hn]; exact hjn)).mono (f2.le)
            simpa [flat_append, List.getElem_append_left (show j < (flat xs).length by rw [hfx, hn]; exact hjn)] using this
          · simp only [if_neg hjn]
            have hlt : j - n' * s < new.toList.length := by omega
            have hlt2 : j - n' * s < (flat ys).length := by omega
            have := (hnr.2 (j - n' * s) hlt hlt2).mono (f2.le)
            have e1 : new.toList.getD (j - n' * s) undef = new.toList[j - n' * s] := by simp [List.getD, List.getElem?_eq_getElem hlt]
            have e2 : (flat (xs ++ ys))[j] = (flat ys)[j - n' * s] := by
              simp only [flat_append]
              rw [List.getElem_append_right (by rw [hfx, hn]; omega)]
              congr 1
              rw [hfx, hn]
            rw [e1, e2]; exact this
      · simp [OwnVal, Rho.set]
      · simp [Rho.set, h1, h2]
      · have e' : ¬ (s0 = ds ∧ c0 = dc) := fun c => hne (by rw [c.1, c.2])
        simp [Rho.set, e']
    · obtain ⟨G', ρ', k1, k2, k3, k4, k5, k6⟩ := grow cap' el rest hn hss g1 g2
      exact ⟨_, _, G', ρ', hrun, k1, k2, k3, k4, k5, k6⟩
end
end Ev

/-! Ev, part O: append to a slice of the abstract heap. -/
namespace Ev
open Go
section
variable {P : Program} {G : Gh} {h : Heap} {ρ : Rho} {w : World}

/-- append, where the result is a block of the abstract heap. -/
theorem appH_sound (m : Mem G h ρ w) {s bytes ty : Nat} {ats : Array Nat} (hc : chkApp P s bytes ats = true) {ux uy : Value} {x y v : V} {h' : Heap} (rx : Rel G ux x) (ry : Rel G uy y) (hv : appH h s bytes x y = some (v, h')) :
    ∃ u w' G' ρ', (Builtin.append_ ats ty #[ux, uy]).run P w = .ok u w' ∧ Mem G' h' ρ' w' ∧ Fr G ρ w G' ρ' w' ∧ Rel G' u v ∧ (∀ s c, ρ' (.key s c) = ρ (.key s c)) := by
  have hspos := chkApp_size hc
  unfold appH at hv
  cases x <;> try (cases hv; done)
  case hn s' =>
    simp only at hv
    split at hv
    case isFalse => cases hv
    rename_i e
    subst e
    simp only [Option.bind_eq_some_iff] at hv
    obtain ⟨nc, hnc, hv⟩ := hv
    obtain ⟨k, _, hlen, _, _, hl, hfull⟩ := new_run (P := P) m ry hnc
    obtain ⟨new, hnew, hnr, hn1⟩ := hfull k (Nat.le_refl _)
    rw [← hl, List.take_length] at hnr
    have hnl : new.size = k * s := by have := hnr.1; simp at this; omega
    have hdiv : nc.length / s = k := by rw [hl]; exact Nat.mul_div_cancel _ hspos
    have hbk : (0 + k) * bytes ≤ 140737488355328 := by
      by_cases hn0 : nc.length = 0
      · have hk0 : k = 0 := by
          rcases Nat.eq_zero_or_pos k with e | e
          · exact e
          · have := Nat.mul_pos e hspos
            omega
        rw [hk0]
        simp
      · rw [if_neg hn0] at hv
        split at hv
        · rename_i hb
          refine Nat.le_trans (Nat.mul_le_mul_right _ ?_) hb
          rw [Nat.zero_add, hl]; exact Nat.le_mul_of_pos_right _ hspos
        · cases hv
    cases rx with
    | hn _ p =>
    have hz : ∀ w', (Builtin.firstCells s 0 (.slice p 0 0)).run P w' = .ok #[] w' := fun w' => by
      cases p with
      | none => simp [Builtin.firstCells]
      | some a =>
        have := run_loadCells_list (P := P) (w := w') a [] (fun j v hv => by simp at hv)
        simpa [Builtin.firstCells] using this
    rcases append_run (P := P) (w := w) (ty := ty) hc (uy := uy) (base := p) (n := 0) (cap := 0) (k := k) (old := #[]) (new := new) rfl hlen (hnew) (fun w' _ => hz w') hbk (by simp) hnl with ⟨hfit, hrun⟩ | ⟨hgr, cap', el, rest, g1, g2, hrun⟩
    · have hk0 : k = 0 := by omega
      have hn0 : nc.length = 0 := by rw [hl, hk0]; simp
      rw [if_pos hn0] at hv
      cases hv
      have hnew0 : new = #[] := Array.eq_empty_of_size_eq_zero (by rw [hnl, hk0]; simp)
      refine ⟨.slice p 0 0, w, G, ρ, ?_, m, .refl _ _ _, .hn s p, fun _ _ => rfl⟩
      rw [hrun, hk0, hnew0]
      cases p with
      | none => rfl
      | some a => simp [storeCells]
    · have hk0 : 0 < k := by omega
      have hn0 : ¬ nc.length = 0 := by rw [hl]; have := Nat.mul_pos hk0 hspos; omega
      rw [if_neg hn0] at hv
      have hb : nc.length * bytes ≤ 140737488355328 := by
        by_cases hb : nc.length * bytes ≤ 140737488355328
        · exact hb
        · rw [if_neg hb] at hv; cases hv
      rw [if_pos hb, hdiv] at hv
      cases hv
      have m1 := m.drew (w.drawn + 1)
      have htake : (#[] ++ new ++ rest).toList.take nc.length = new.toList := by
        rw [hl, Array.toList_append, Array.toList_append, List.take_append_of_le_length (by simp [hnl])]
        exact List.take_of_length_le (by simp [hnl])
      obtain ⟨m2, f2⟩ := m1.push_blk (#[] ++ new ++ rest) el nc (by rw [hl, g2]; exact Nat.mul_le_mul_right _ (by omega)) (by rw [htake]; exact hnr) (by rw [htake]; exact hn1)
      refine ⟨_, _, _, _, hrun, m2, (Fr.drew G _ w _).trans f2, ?_, fun s c => by simp [Rho.set]⟩
      have := Rel.hs (G := G.addReg h.length (w.heap.size, 0, (#[] ++ new ++ rest).size)) s h.length 0 (0 + k) cap' w.heap.size 0 (#[] ++ new ++ rest).size (by simp [Gh.addReg]) (by rw [g2]; omega) g1
      simpa using this
  case hs s' b off len =>
    simp only at hv
    split at hv
    case isFalse => cases hv
    rename_i e
    subst e
    simp only [Option.bind_eq_some_iff] at hv
    obtain ⟨row, hrow, nc, hnc, hv⟩ := hv
    split at hv
    case isFalse => cases hv
    rename_i hb
    obtain ⟨hend, hb⟩ := hb
    cases hv
    obtain ⟨k, _, hlen, _, _, hl, hfull⟩ := new_run (P := P) m ry hnc
    obtain ⟨new, hnew, hnr, hn1⟩ := hfull k (Nat.le_refl _)
    rw [← hl, List.take_length] at hnr
    have hnl : new.size = k * s := by have := hnr.1; simp at this; omega
    have hdiv : nc.length / s = k := by rw [hl]; exact Nat.mul_div_cancel _ hspos
    have hcells : hsCells h s b off len = some (row.drop off) := by
      unfold hsCells
      rw [hrow, Option.bind_some, if_pos (by omega), List.take_of_length_le (by simp; omega)]
    obtain ⟨n, _, hlenx, _, _, hlx, hfullx⟩ := new_run (P := P) m rx (show newCells h s (.hs s b off len) = some (row.drop off) by simp [newCells, hcells])
    obtain ⟨old, hold, hor, ho1⟩ := hfullx n (Nat.le_refl _)
    rw [← hlx, List.take_length] at hor
    have hol : old.size = n * s := by have := hor.1; rw [hlx] at this; simpa using this
    have hnlen' : n = len := by
      have : (row.drop off).length = len * s := by simp; omega
      rw [this] at hlx
      exact (Nat.eq_of_mul_eq_mul_right hspos hlx).symm
    subst hnlen'
    have hbk : (n + k) * bytes ≤ 140737488355328 := by
      refine Nat.le_trans (Nat.mul_le_mul_right _ ?_) hb
      have h1 : n ≤ n * s := Nat.le_mul_of_pos_right _ hspos
      have h2 : k ≤ k * s := Nat.le_mul_of_pos_right _ hspos
      omega
    rw [hdiv]
    have hbl : b < h.length := by
      unfold Heap.row at hrow
      cases hh : h[b]? with
      | none => simp [hh] at hrow
      | some z => exact (List.getElem?_eq_some_iff.1 hh).1
    cases rx with
    | hs s b off n cap r lo hi hg hhi hcap =>
      rcases append_run (P := P) (w := w) (ty := ty) hc (uy := uy) (base := some ⟨r, lo + off, none⟩) (n := n) (cap := cap) (k := k) rfl hlen (hnew) (hold) hbk hol hnl with ⟨hfit, hrun⟩ | ⟨hgr, cap', el, rest, g1, g2, hrun⟩
      · have hks : n * s + k * s ≤ cap * s := by rw [← Nat.add_mul]; exact Nat.mul_le_mul_right _ hfit
        have hnlen : new.toList.length = k * s := by simpa using hnl
        obtain ⟨r', lo', hi', us, q1, q2, q3, q4, q5, q6⟩ := blkRow m hrow ⟨_, hg⟩
        rw [hg] at q1
        cases q1
        have hst1 := run_storeCells_cells (P := P) r (lo + off + n * s) new.toList 0 w
          (fun j hj => (m.own _ _ _ _ q2 (lo + off + n * s + 0 + j) (by omega) (by omega)).1)
          (fun j hj => have k := m.own _ _ _ _ q2 (lo + off + n * s + 0 + j) (by omega) (by omega); fz_frozen k.1 k.2.1) hn1
        simp only [Nat.add_zero] at hst1
        simp only [addr_add] at hrun
        simp only [hst1, Result.andThen_ok] at hrun
        obtain ⟨hkey, hfr⟩ := m.write q2 (lo + off + n * s) new.toList (by omega) (by omega)
        have m1 := m.write_spare q2 (lo + off + n * s) new.toList (by omega) (by omega) (fun b' cs e hcs => by
          cases e
          have : h.row b = some cs := by unfold Heap.row; rw [hcs]; rfl
          rw [hrow] at this
          cases this
          omega)
        have hat : At (w.setCells r (lo + off + n * s) new.toList) r (lo + off) (us.drop off ++ new.toList) := fun j v hv => by
          have hdl : (us.drop off).length = n * s := by rw [List.length_drop, q4.1]; omega
          by_cases hj : j < n * s
          · rw [List.getElem?_append_left (by omega)] at hv
            rw [hkey, if_neg (by omega)]
            exact (q5.drop off) j v hv
          · rw [List.getElem?_append_right (by omega)] at hv
            have hj2 : j - (us.drop off).length < new.toList.length := (List.getElem?_eq_some_iff.1 hv).1
            rw [hkey, if_pos ⟨rfl, by omega, by omega⟩, show lo + off + j - (lo + off + n * s) = j - (us.drop off).length by omega]
            exact hv
        obtain ⟨m2, f2⟩ := m1.rebind hg q2 (lo + off) (by omega) (row.drop off ++ nc) (us.drop off ++ new.toList) ((q4.drop off).append hnr) hat
          (fun u hu => (List.mem_append.1 hu).elim (fun c => q6 u (List.mem_of_mem_drop c)) (hn1 u)) (by simp; omega)
        refine ⟨_, _, _, _, hrun, m2, hfr.trans f2, ?_, fun s c => ?_⟩
        · have := Rel.hs (G := G.addReg h.length (r, lo + off, hi)) s h.length 0 (n + k) cap r (lo + off) hi (by simp [Gh.addReg]) (by omega) (by omega)
          simpa using this
        · simp [Rho.set]
      · obtain ⟨m1, f1⟩ := m.kill b
        have m1 := m1.drew (w.drawn + 1)
        have hlen2 : (row.drop off ++ nc).length = (n + k) * s := by simp; rw [Nat.add_mul]; omega
        have htake : (old ++ new ++ rest).toList.take (row.drop off ++ nc).length = old.toList ++ new.toList := by
          rw [hlen2, Array.toList_append, Array.toList_append, List.take_append_of_le_length (by simp [hol, hnl, Nat.add_mul])]
          exact List.take_of_length_le (by simp [hol, hnl, Nat.add_mul])
        obtain ⟨m2, f2⟩ := m1.push_blk (old ++ new ++ rest) el (row.drop off ++ nc) (by rw [hlen2, g2]; exact Nat.mul_le_mul_right _ g1) (by rw [htake]; exact hor.append hnr) (by rw [htake]; exact fun u hu => (List.mem_append.1 hu).elim (ho1 u) (hn1 u))
        rw [List.length_set] at m2 f2
        refine ⟨_, _, _, _, hrun, m2, (f1.trans (Fr.drew G _ w _)).trans f2, ?_, fun s c => ?_⟩
        · have := Rel.hs (G := G.addReg h.length (w.heap.size, 0, (old ++ new ++ rest).size)) s h.length 0 (n + k) cap' w.heap.size 0 (old ++ new ++ rest).size (by simp [Gh.addReg]) (by rw [g2]; omega) g1
          simpa using this
        · simp [Rho.set]
end
end Ev

/-! Ev, part P: make, bytes of a string, store, copy. -/
namespace Ev
open Go
section
variable {P : Program} {G : Gh} {h : Heap} {ρ : Rho} {w : World}

theorem cyc_eq {α : Type} [Inhabited α] (zs : List α) (s : Nat) (hs : zs.length = s) (h0 : 0 < s) : ∀ l, (List.range (l * s)).map (fun j => zs[j % s]!) = (List.replicate l zs).flatten
  | 0 => by simp
  | l + 1 => by
    rw [Nat.succ_mul, List.range_add, List.map_append, cyc_eq zs s hs h0 l, List.replicate_succ', List.flatten_append]
    congr 1
    simp only [List.map_map, List.flatten_cons, List.flatten_nil, List.append_nil]
    apply List.ext_getElem
    · simp [hs]
    · intro i h1 h2
      simp only [List.length_map, List.length_range] at h1
      simp only [List.getElem_map, Function.comp, List.getElem_range]
      have e : (l * s + i) % s = i := by rw [Nat.add_comm, Nat.add_mul_mod_self_right]; exact Nat.mod_eq_of_lt h1
      rw [e]
      exact getElem!_pos zs i h2

theorem rels_rep {us : List Value} {vs : List V} (hr : Rels G us vs) : ∀ l, Rels G (List.replicate l us).flatten (List.replicate l vs).flatten
  | 0 => .nil
  | l + 1 => by simpa [List.replicate_succ] using hr.append (rels_rep hr l)

theorem flat_rep (z : V) (l : Nat) : flat (List.replicate l z) = (List.replicate l z.cells).flatten := by
  unfold flat
  induction l with
  | zero => rfl
  | succ l ih => simp [List.replicate_succ, ih]

theorem arr_get (a : Array Value) (i : Nat) : a[i]! = a.toList[i]! := by
  simp [getElem!_def]

def chkMk (P : Program) (s bytes : Nat) (z : V) (t : Nat) : Bool :=
  match P.underlying t with
  | some (.slice el) => sizeIs P el s && (P.info? el).map (·.bytes) == some bytes && decide (0 < s) && zeroIs P el z && z.cells.all V.one
  | _ => false

theorem one_of_rels {us : List Value} {vs : List V} (hr : Rels G us vs) (ho : vs.all V.one = true) : ∀ u ∈ us, u.oneCell' = true := by
  intro u hu
  obtain ⟨j, hj, rfl⟩ := List.mem_iff_getElem.1 hu
  have hj' : j < vs.length := by rw [← hr.1]; exact hj
  have h1 := List.all_eq_true.1 ho _ (List.getElem_mem hj')
  have := (hr.2 j hj hj').one h1
  cases hq : us[j] <;> simp_all [Value.oneCell']

theorem mksl_run {s bytes t : Nat} {z : V} (hc : chkMk P s bytes z t = true) {ul uc : Value} {vl vc : V} (rl : Rel G ul vl) (rc : Rel G uc vc) {ln cn : Nat} (hv : mkslV s bytes z vl vc = some (ln, cn)) :
    ∃ cs el, (Instr.makeSlice t ul uc).run P w = .ok (.slice (some ⟨w.heap.size, 0, none⟩) ln cn) (w.evPush (.cells cs el)) ∧ cs.size = cn * s ∧ ln ≤ cn ∧ Rels G (cs.toList.take (ln * s)) (flat (List.replicate ln z)) ∧
      (∀ u ∈ cs.toList.take (ln * s), u.oneCell' = true) ∧ z.cells.length = s := by
  unfold chkMk at hc
  cases hd : P.underlying t with
  | none => simp [hd] at hc
  | some d =>
    cases d <;> simp only [hd] at hc <;> try (cases hc; done)
    rename_i el
    simp only [Bool.and_eq_true, decide_eq_true_eq] at hc
    obtain ⟨⟨⟨⟨c1, c2⟩, c3⟩, c4⟩, c5⟩ := hc
    have hu := run_underlying P w t _ hd
    obtain ⟨ti, hti, hsz⟩ := sizeIs_iff c1
    have hby : ti.bytes = bytes := by simpa [hti] using c2
    have hinfo : (typeInfo el).run P w = .ok ti w := by simp [typeInfo, hti]
    have hsize : (Go.sizeOf el).run P w = .ok s w := by rw [run_sizeOf P w el ti hti, hsz]
    obtain ⟨zu, hzr, hzz⟩ := zero_run (w := w) c4 G
    unfold mkslV at hv
    cases vl <;> try (cases hv; done)
    cases vc <;> try (cases hv; done)
    rename_i k1 l k2 c
    simp only at hv
    split at hv
    case isFalse => cases hv
    rename_i hcond
    obtain ⟨h0, h1, h2, h3, h4⟩ := hcond
    cases hv
    cases rl
    cases rc
    have wl : IntKind.i64.wrap l = l := by simp [IntKind.wrap, IntKind.bits, IntKind.signed]; omega
    have wc : IntKind.i64.wrap c = c := by simp [IntKind.wrap, IntKind.bits, IntKind.signed]; omega
    have hbc : ¬ ((bytes : Int) * c > 2 ^ 48) := by rw [Int.mul_comm]; omega
    have hzc := hzz.cells
    have hzl : zu.cells.size = s := by have := hzc.1; simp at this; omega
    have hln : l.toNat * s ≤ c.toNat * s := Nat.mul_le_mul_right _ (by omega)
    refine ⟨(Array.range (c.toNat * s)).map (fun i => zu.cells[i % zu.cells.size]!), el, ?_, by simp, by omega, ?_, ?_, h4⟩
    · have e1 : (decide (c < 0) || decide ((bytes : Int) * c > 2 ^ 48)) = false := by simp; omega
      unfold Instr.makeSlice
      simp only [Sem.run_bind, hu, Result.andThen_ok, asInt, asIntOf, pure_bind, hinfo, hby, wl, wc, Sem.run_pure]
      rw [if_neg (by simp; omega)]
      simp only [Sem.run_bind, run_askRoom, Result.andThen_ok, hsize, Sem.run_pure, pure_bind]
      by_cases hz : c.toNat * s = 0
      · rw [if_pos hz]
        simp only [Sem.run_pure, Result.andThen_ok, Sem.run_bind, run_newRow, hz]
        have : ∀ f g : Nat → Value, (Array.range 0).map f = (Array.range 0).map g := fun f g => by simp
        rw [this (fun i => zu.cells[i % zu.cells.size]!)]
      · rw [if_neg hz]
        simp only [Sem.run_pure, Result.andThen_ok, Sem.run_bind, run_newRow, hzr]
    · rw [Array.toList_map, Array.toList_range, ← List.map_take, List.take_range, Nat.min_eq_left hln, hzl]
      have e : (List.range (l.toNat * s)).map (fun i => zu.cells[i % s]!) = (List.range (l.toNat * s)).map (fun i => zu.cells.toList[i % s]!) := List.map_congr_left fun i _ => arr_get _ _
      rw [e, cyc_eq _ s (by simpa using hzl) c3, flat_rep]
      exact rels_rep hzc _
    · rw [Array.toList_map, Array.toList_range, ← List.map_take, List.take_range, Nat.min_eq_left hln, hzl]
      have e : (List.range (l.toNat * s)).map (fun i => zu.cells[i % s]!) = (List.range (l.toNat * s)).map (fun i => zu.cells.toList[i % s]!) := List.map_congr_left fun i _ => arr_get _ _
      rw [e, cyc_eq _ s (by simpa using hzl) c3]
      intro u hu
      obtain ⟨q, hq, hu⟩ := List.mem_flatten.1 hu
      rw [List.eq_of_mem_replicate hq] at hu
      exact one_of_rels hzc c5 u hu

/-! #### bytes of a string -/
def chkSb (P : Program) (s d : Nat) : Bool :=
  match P.underlying s, P.underlying d with
  | some .string, some (.slice el) => (match P.underlying el with | some (.int .u8) => true | _ => false)
  | _, _ => false
theorem sb_run {s d : Nat} (hc : chkSb P s d = true) (sb : ByteArray) : ∃ cap cs el, sb.size ≤ cap ∧ cs.size = cap ∧ cs.toList.take sb.size = sb.data.toList.map (fun b => Value.int .u8 b.toNat) ∧
    (convert s d (.string sb)).run P w = .ok (.slice (some ⟨w.heap.size, 0, none⟩) sb.size cap) (({ w with drawn := w.drawn + 1 } : World).evPush (.cells cs el (cap, cap + 1))) := by
  unfold chkSb at hc
  cases hs : P.underlying s with
  | none => simp [hs] at hc
  | some ds =>
    cases hd : P.underlying d with
    | none => cases ds <;> simp [hs, hd] at hc
    | some dd =>
      cases ds <;> cases dd <;> simp [hs, hd] at hc
      rename_i el
      cases hel : P.underlying el with
      | none => simp [hel] at hc
      | some de =>
        have hde : de = .int .u8 := by
          cases de <;> simp [hel] at hc
          rename_i kk; cases kk <;> simp at hc; rfl
        subst hde
        have hus := run_underlying P w s _ hs
        have hud := run_underlying P w d _ hd
        have hue := run_underlying P w el _ hel
        let q : Question := .appendCap sb.size 0 el
        let cap : Nat := q.cut (w.tape w.drawn q)
        have hcap : sb.size ≤ cap := by simp [cap, q, Question.cut]
        let elems : Array Value := sb.data.map fun b => .int .u8 b.toNat
        let cs : Array Value := elems ++ Array.replicate (cap - sb.size) (.int .u8 0)
        have hes : elems.size = sb.size := by simp [elems]
        have hcs : cs.size = cap := by simp [cs, hes]; omega
        refine ⟨cap, cs, el, hcap, hcs, ?_, ?_⟩
        · simp only [cs, Array.toList_append]
          rw [List.take_append_of_le_length (by simp [hes]), List.take_of_length_le (by simp [hes])]
          simp [elems]
        · have hfz : (({ w with drawn := w.drawn + 1 } : World).evPush (.cells cs el)).freeze ⟨w.heap.size, cs.size, none⟩ 1 = ({ w with drawn := w.drawn + 1 } : World).evPush (.cells cs el (cap, cap + 1)) := by
            simp only [World.freeze, World.evPush, Nat.one_ne_zero, if_false]
            congr 1
            apply Array.ext
            · simp
            · intro i h1 h2
              simp only [Array.getElem_modify, Array.getElem_push]
              simp at h1
              by_cases e : i < w.heap.size
              · have : ¬ w.heap.size = i := by omega
                simp [e, this]
              · have : w.heap.size = i := by omega
                simp [this, hcs]
          have hsh : (({ w with drawn := w.drawn + 1 } : World).evPush (.cells cs el)).shape? w.heap.size = some (el, cs.size) := by
            simp [World.shape?, World.evPush]
          have hrun : (Conv.stringToBytes el sb).run P w = .ok (.slice (some ⟨w.heap.size, 0, none⟩) sb.size cap) (({ w with drawn := w.drawn + 1 } : World).evPush (.cells cs el (cap, cap + 1))) := by
            unfold Conv.stringToBytes markStringish
            simp only [Sem.run_bind, run_choose, Question.forced, Bool.false_eq_true, if_false, Result.andThen_ok, run_newRow, run_shape]
            have e0 : Question.cut (.appendCap sb.size 0 el) (w.tape w.drawn (.appendCap sb.size 0 el)) = cap := rfl
            simp only [e0]
            change ((match (({ w with drawn := w.drawn + 1 } : World).evPush (.cells cs el)).shape? w.heap.size with
              | some (_, n) => freeze { block := w.heap.size, off := n } 1
              | _ => pure () : Sem Unit).run P (({ w with drawn := w.drawn + 1 } : World).evPush (.cells cs el))).andThen _ = _
            rw [hsh]
            simp only [run_freeze, Result.andThen_ok, Sem.run_pure, hfz]
          rw [← hrun]
          simp only [convert, Sem.run_bind, hus, hud, hue, Result.andThen_ok]

/-! #### store -/
theorem store_m (m : Mem G h ρ w) {t n : Nat} (hc : sizeIs P t n = true) {ua ux : Value} {a x : V} {h' : Heap} (ra : Rel G ua a) (rx : Rel G ux x) (hv : storeV h n a x = some h') :
    ∃ w', (Instr.storeAt t ua ux).run P w = .ok () w' ∧ Mem G h' ρ w' ∧ Fr G ρ w G ρ w' := by
  unfold storeV at hv
  cases a <;> try (cases hv; done)
  rename_i b off
  simp only [Option.bind_eq_some_iff] at hv
  obtain ⟨cs, hrow, hv⟩ := hv
  split at hv
  case isFalse => cases hv
  rename_i hcond
  obtain ⟨h1, h2, h3⟩ := hcond
  cases hv
  obtain ⟨r, lo, hi, us, q1, q2, q3, q4, q5, q6⟩ := blkRow m hrow (regOf_ptr ra)
  have hxc := rx.cells
  have hxs : ux.cells.size = n := by have := hxc.1; simp at this; omega
  cases ra with
  | ptr b off r' lo' hi' hg =>
    rw [q1] at hg
    cases hg
    obtain ⟨m', f'⟩ := m.write_blk hrow q1 q2 off ux.cells.toList x.cells hxc (one_of_rels hxc h3) (by omega) (by omega)
    refine ⟨_, ?_, m', f'⟩
    have hul : ux.cells.toList.length = n := by simpa using hxs
    have hst := run_storeCells_cells (P := P) r (lo + off) ux.cells.toList 0 w
      (fun j hj => (m.own _ _ _ _ q2 (lo + off + 0 + j) (by omega) (by omega)).1)
      (fun j hj => have k := m.own _ _ _ _ q2 (lo + off + 0 + j) (by omega) (by omega); fz_frozen k.1 k.2.1) (one_of_rels hxc h3)
    simp only [Nat.add_zero] at hst
    simp [Instr.storeAt, Instr.sureAddr, storeVar, sizeIs_run hc, hxs, hst]

/-! #### copy -/
def chkCopy (P : Program) (s : Nat) (ats : Array Nat) : Bool :=
  match ats[0]? with
  | some t => (match P.underlying t with
    | some (.slice el) => sizeIs P el s && decide (0 < s)
    | _ => false)
  | _ => false

/-- What is copied is read. -/
theorem src_run (m : Mem G h ρ w) {s len : Nat} (hs : 0 < s) {uy : Value} {y : V} {new : List V} (ry : Rel G uy y) (hc : copySrc h s len y = some new) :
    ∃ n us, (Builtin.lenOf uy).run P w = .ok n w ∧ (∀ w', w'.heap = w.heap → (Builtin.firstCells s (min n len) uy).run P w' = .ok us w') ∧ Rels G us.toList new ∧ (∀ u ∈ us.toList, u.oneCell' = true) ∧ new.length = min n len * s := by
  have gen : ∀ nc, newCells h s y = some nc → nc.take (min (nc.length / s) len * s) = new →
      ∃ n us, (Builtin.lenOf uy).run P w = .ok n w ∧ (∀ w', w'.heap = w.heap → (Builtin.firstCells s (min n len) uy).run P w' = .ok us w') ∧ Rels G us.toList new ∧ (∀ u ∈ us.toList, u.oneCell' = true) ∧ new.length = min n len * s := fun nc hnc e => by
    obtain ⟨n, _, hlen, _, _, hl, hfull⟩ := new_run (P := P) m ry hnc
    have hdiv : nc.length / s = n := by rw [hl]; exact Nat.mul_div_cancel _ hs
    rw [hdiv] at e
    obtain ⟨us, k1, k2, k3⟩ := hfull (min n len) (Nat.min_le_left _ _)
    rw [e] at k2
    refine ⟨n, us, hlen, k1, k2, k3, ?_⟩
    rw [← e, List.length_take, hl]
    exact Nat.min_eq_left (Nat.mul_le_mul_right _ (Nat.min_le_left _ _))
  unfold copySrc at hc
  cases y
  case hs s' b off n0 =>
    simp only at hc
    split at hc
    case isFalse => cases hc
    rename_i e
    subst e
    cases ry with
    | hs _ _ _ _ cap r lo hi hg hh hcap =>
    have r' : Rel G (.slice (some ⟨r, lo + off, none⟩) (min n0 len) cap) (.hs s b off (min n0 len)) := .hs s b off _ cap r lo hi hg hh (by omega)
    obtain ⟨n, _, hlen, _, _, hl, hfull⟩ := new_run (P := P) m r' (show newCells h s (.hs s b off (min n0 len)) = some new by simp [newCells, hc])
    have hn : n = min n0 len := by
      simp [Builtin.lenOf] at hlen
      exact hlen.symm
    subst hn
    obtain ⟨us, k1, k2, k3⟩ := hfull (min n0 len) (Nat.le_refl _)
    rw [← hl, List.take_length] at k2
    exact ⟨n0, us, by simp [Builtin.lenOf], k1, k2, k3, hl⟩
  all_goals
    simp only [Option.map_eq_some_iff] at hc
    obtain ⟨nc, h1, h2⟩ := hc
    exact gen nc h1 h2
theorem copy_m (m : Mem G h ρ w) {s ty : Nat} {ats : Array Nat} (hc : chkCopy P s ats = true) {ux uy : Value} {x y v : V} {h' : Heap} (rx : Rel G ux x) (ry : Rel G uy y) (hv : copyV h s x y = some (v, h')) :
    ∃ u w', (Builtin.copy_ ats ty #[ux, uy]).run P w = .ok u w' ∧ Mem G h' ρ w' ∧ Fr G ρ w G ρ w' ∧ Rel G u v := by
  unfold chkCopy at hc
  cases ht : ats[0]? with
  | none => simp [ht] at hc
  | some t =>
    cases hd : P.underlying t with
    | none => simp [ht, hd] at hc
    | some d =>
      cases d <;> simp [ht, hd] at hc
      rename_i el
      obtain ⟨c1, c2⟩ := hc
      have hu := run_underlying P w t _ hd
      have hsz := sizeIs_run (w := w) c1
      unfold copyV at hv
      cases x <;> try (cases hv; done)
      rename_i s' b off len
      simp only at hv
      split at hv
      case isFalse => cases hv
      rename_i e
      subst e
      simp only [Option.bind_eq_some_iff] at hv
      obtain ⟨cs, hrow, nc, hnc, hv⟩ := hv
      split at hv
      case isFalse => cases hv
      rename_i hcond
      cases hv
      obtain ⟨k, new, hlen, hnew, hnr, hn1, hl⟩ := src_run (P := P) m c2 ry hnc
      have hdiv : nc.length / s = min k len := by rw [hl]; exact Nat.mul_div_cancel _ c2
      rw [hdiv]
      obtain ⟨r, lo, hi, us, q1, q2, q3, q4, q5, q6⟩ := blkRow m hrow (regOf_hs rx)
      have hml : min k len * s ≤ len * s := Nat.mul_le_mul_right _ (Nat.min_le_right _ _)
      cases rx with
      | hs s b off len cap r' lo' hi' hg hhi hcap =>
        rw [q1] at hg
        cases hg
        have hcs : len * s ≤ cap * s := Nat.mul_le_mul_right _ hcap
        obtain ⟨m', f'⟩ := m.write_blk hrow q1 q2 off new.toList _ hnr hn1 hcond (by omega)
        refine ⟨.int .i64 (min k len : Nat), _, ?_, m', f', .int _ _⟩
        have hul : new.toList.length = min k len * s := by rw [hnr.1, hl]
        have hst := run_storeCells_cells (P := P) r (lo + off) new.toList 0 w
          (fun j hj => (m.own _ _ _ _ q2 (lo + off + 0 + j) (by omega) (by omega)).1)
          (fun j hj => have k := m.own _ _ _ _ q2 (lo + off + 0 + j) (by omega) (by omega); fz_frozen k.1 k.2.1) hn1
        simp only [Nat.add_zero] at hst
        have e : Nat.min k len = min k len := rfl
        simp [Builtin.copy_, ht, hu, hlen, hsz, e, hnew w rfl, hst, goInt]

/-! #### clear -/
def chkClr (P : Program) (s : Nat) (z : List V) (ats : Array Nat) : Bool :=
  match ats[0]? with
  | some t => (match P.underlying t with
    | some (.slice el) => zeroCellsIs P el z && z.all V.one && decide (z.length = s) && decide (0 < s)
    | _ => false)
  | _ => false
theorem repZ_len (n : Nat) (z : List V) : (repZ n z).length = n * z.length := by simp [repZ]
theorem repZ_one (n : Nat) (z : List V) (h : z.all V.one = true) (h0 : 0 < z.length) : (repZ n z).all V.one = true := by
  rw [List.all_eq_true] at h ⊢
  intro x hx
  obtain ⟨i, _, rfl⟩ := List.mem_map.1 hx
  have hi := Nat.mod_lt i h0
  rw [List.getD_eq_getElem?_getD, List.getElem?_eq_getElem hi]
  exact h _ (List.getElem_mem hi)
theorem zeroCells_rel {u : Array Value} {z : List V} (h : Rels G u.toList z) (h0 : 0 < z.length) (n : Nat) : Rels G (Builtin.zeroCells u n).toList (repZ n z) := by
  have hl : u.size = z.length := by simpa using h.1
  refine ⟨by simp [Builtin.zeroCells, repZ, hl], fun j h1 h2 => ?_⟩
  have hi := Nat.mod_lt j h0
  have := h.2 (j % z.length) (by simpa [hl] using hi) hi
  have e1 : (Builtin.zeroCells u n).toList[j] = u[j % z.length]'(by omega) := by
    simp [Builtin.zeroCells, hl]
    rw [getElem!_pos u (j % z.length) (by omega)]
  have e2 : (repZ n z)[j] = z[j % z.length] := by
    simp [repZ, List.getElem?_eq_getElem hi]
  rw [e1, e2]
  simpa using this
theorem clr_m (m : Mem G h ρ w) {s ty : Nat} {z : List V} {ats : Array Nat} (hc : chkClr P s z ats = true) {ux : Value} {x v : V} {h' : Heap} (rx : Rel G ux x) (hv : clrV h s z x = some (v, h')) :
    ∃ u w', (Builtin.clear_ ats ty #[ux]).run P w = .ok u w' ∧ Mem G h' ρ w' ∧ Fr G ρ w G ρ w' ∧ Rel G u v := by
  unfold chkClr at hc
  cases ht : ats[0]? with
  | none => simp [ht] at hc
  | some t =>
    cases hd : P.underlying t with
    | none => simp [ht, hd] at hc
    | some d =>
      cases d <;> simp [ht, hd] at hc
      rename_i el
      obtain ⟨⟨⟨c1, c2⟩, c3⟩, c4⟩ := hc
      have hu := run_underlying P w t _ hd
      unfold clrV at hv
      cases x <;> try (cases hv; done)
      rename_i s' b off len
      simp only at hv
      split at hv
      case isFalse => cases hv
      rename_i e
      obtain ⟨e, _⟩ := e
      subst e
      simp only [Option.bind_eq_some_iff] at hv
      obtain ⟨cs, hrow, hv⟩ := hv
      split at hv
      case isFalse => cases hv
      rename_i hcond
      cases hv
      obtain ⟨r, lo, hi, us, q1, q2, q3, q4, q5, q6⟩ := blkRow m hrow (regOf_hs rx)
      obtain ⟨zu, hzr, hzz⟩ := zeroCells_run (w := w) c1 G
      have hnr := zeroCells_rel hzz (by omega) len
      have zl := repZ_len len z
      rw [c3] at zl
      have hn1 := one_of_rels hnr (repZ_one len z (by simpa using c2) (by omega))
      cases rx with
      | hs s b off len cap r' lo' hi' hg hhi hcap =>
        rw [q1] at hg
        cases hg
        obtain ⟨m', f'⟩ := m.write_blk hrow q1 q2 off (Builtin.zeroCells zu.cells len).toList _ hnr hn1 (by omega) (by omega)
        have hul : (Builtin.zeroCells zu.cells len).toList.length = len * s := by rw [hnr.1, zl]
        have hst := run_storeCells_cells (P := P) r (lo + off) (Builtin.zeroCells zu.cells len).toList 0 w
          (fun j hj => (m.own _ _ _ _ q2 (lo + off + 0 + j) (by omega) (by omega)).1)
          (fun j hj => have k := m.own _ _ _ _ q2 (lo + off + 0 + j) (by omega) (by omega); fz_frozen k.1 k.2.1) hn1
        simp only [Nat.add_zero] at hst
        refine ⟨.tuple #[], _, ?_, m', f', Rels.toTup (cs := #[]) Rels.nil⟩
        cases len with
        | zero =>
          have e0 : (Builtin.zeroCells zu.cells 0).toList = [] := List.eq_nil_of_length_eq_zero (by rw [hul, Nat.zero_mul])
          rw [e0] at hst ⊢
          simp [Builtin.clear_, ht, hu, World.setCells]
        | succ len =>
          simp [Builtin.clear_, ht, hu, hzr, hst]
end
end Ev

/-! Ev, part Po: walks over strings, and maps. -/
namespace Ev
open Go
section
variable {P : Program} {G : Gh} {h : Heap} {ρ : Rho} {w : World}

def Gh.addOb (G : Gh) (b r : Nat) : Gh := { G with ob := fun c => if c = b then some r else G.ob c }
theorem Mem.heap_lt {r : Nat} {o : Obj} (h : w.heap[r]? = some o) : r < w.heap.size := by
  rcases Nat.lt_or_ge r w.heap.size with c | c
  · exact c
  · rw [Array.getElem?_eq_none c] at h; cases h
/-- A new object. -/
theorem Mem.push_ob (m : Mem G h ρ w) (o : Obj) (hn : noCells o = true) (cs : List V) (hi : ObjIs G o cs) :
    Mem (G.addOb h.length w.heap.size) (h ++ [some cs]) ρ (w.evPush o) ∧ Fr G ρ w (G.addOb h.length w.heap.size) ρ (w.evPush o) := by
  have hold : ∀ b r, G.ob b = some r → b < h.length ∧ r < w.heap.size := fun b r hb => by
    obtain ⟨h1, _, ⟨o1, h2, _⟩, _⟩ := m.obs b r hb
    exact ⟨h1, Mem.heap_lt h2⟩
  have hle : G.le (G.addOb h.length w.heap.size) := ⟨fun _ _ _ k => k, fun _ _ k => k, fun b r k => by
    have := hold b r k
    simp only [Gh.addOb]
    rw [if_neg (by omega)]
    exact k⟩
  refine ⟨⟨?_, ?_, ?_, ?_, m.dis, ?_, ?_⟩, ⟨hle, by simp [World.evPush], rfl, rfl, rfl, ?_, ?_, fun _ _ k => .inl k, fun _ _ k => .inl k, ?_⟩⟩
  · intro r o' v hv
    rw [push_cell _ _ _ _ (st_lt m (by rw [show G.st r o' = some v from hv]; simp))]
    exact m.st r o' v hv
  · intro b bs hb hob
    have hob2 : (if b = h.length then some w.heap.size else G.ob b) = none := hob
    have hne : b ≠ h.length := fun e => by rw [if_pos e] at hob2; cases hob2
    rw [if_neg hne] at hob2
    have hbl : b < h.length := by
      have := (List.getElem?_eq_some_iff.1 hb).1
      simp at this; omega
    rw [List.getElem?_append_left hbl] at hb
    obtain ⟨r, lo, hi, h1, h2, h3, h4⟩ := m.blk b bs hb hob2
    refine ⟨r, lo, hi, h1, h2, h3, fun j hj => ?_⟩
    obtain ⟨v, h5, h6, h7⟩ := h4 j hj
    exact ⟨v, by rw [push_cell _ _ _ _ (cell_lt (by rw [h5]; rfl))]; exact h5, h6.mono hle, h7⟩
  · intro b x hb
    have := m.lt b x hb
    simp; omega
  · intro x r lo hi hx o' h1 h2
    have hlt := own_lt m hx h1 h2
    obtain ⟨a, b, c⟩ := m.own x r lo hi hx o' h1 h2
    exact ⟨by rw [push_cell _ _ _ _ hlt]; exact a, by rw [push_frozen _ _ _ _ hlt]; exact b, c⟩
  · intro b hb
    have := m.ob b hb
    simp; omega
  · intro b r hb
    have hb2 : (if b = h.length then some w.heap.size else G.ob b) = some r := hb
    by_cases e : b = h.length
    · rw [if_pos e] at hb2
      cases hb2
      subst e
      refine ⟨by simp, ?_, ⟨o, ?_, hn, fun cs' hc => ?_⟩, fun b' hb' => ?_⟩
      · cases q : G.reg h.length with
        | none => exact q
        | some x => exact absurd (m.lt _ _ q) (Nat.lt_irrefl _)
      · show (w.heap.push o)[w.heap.size]? = some o
        simp
      · simp at hc
        subst hc
        exact hi.mono hle
      · have hb3 : (if b' = h.length then some w.heap.size else G.ob b') = some w.heap.size := hb'
        by_cases e : b' = h.length
        · exact e
        · rw [if_neg e] at hb3
          exact absurd (hold _ _ hb3).2 (Nat.lt_irrefl _)
    · rw [if_neg e] at hb2
      obtain ⟨h1, h2, ⟨o1, h3, h4, h5⟩, h6⟩ := m.obs b r hb2
      refine ⟨by simp; omega, h2, ⟨o1, push_nc h3, h4, fun cs' hc => (h5 cs' (by rwa [List.getElem?_append_left h1] at hc)).mono hle⟩, fun b' hb' => ?_⟩
      have hb3 : (if b' = h.length then some w.heap.size else G.ob b') = some r := hb'
      by_cases e : b' = h.length
      · rw [if_pos e] at hb3
        cases hb3
        exact absurd (hold _ _ hb2).2 (Nat.lt_irrefl _)
      · rw [if_neg e] at hb3
        exact h6 b' hb3
  · intro r o' hr _
    exact ⟨push_cell _ _ _ _ hr, push_frozen _ _ _ _ hr⟩
  · intro r hr _ _
    exact push_heap _ _ _ hr
  · intro b r hb
    have hb2 : (if b = h.length then some w.heap.size else G.ob b) = some r := hb
    by_cases e : b = h.length
    · rw [if_pos e] at hb2
      cases hb2
      exact .inr (Nat.le_refl _)
    · rw [if_neg e] at hb2
      exact .inl hb2

def _root_.Go.World.evSet (w : World) (r : Nat) (o : Obj) : World := { w with heap := w.heap.setIfInBounds r o }
theorem set_heap {r r' : Nat} {o : Obj} (h : r' ≠ r) : (w.evSet r o).heap[r']? = w.heap[r']? := by
  show (w.heap.setIfInBounds r o)[r']? = _
  rw [Array.getElem?_setIfInBounds]
  rw [if_neg (fun e => h e.symm)]
theorem set_heap_eq {r : Nat} {o o' : Obj} (h : w.heap[r]? = some o') : (w.evSet r o).heap[r]? = some o := by
  show (w.heap.setIfInBounds r o)[r]? = _
  rw [Array.getElem?_setIfInBounds]
  rw [if_pos rfl, if_pos (Mem.heap_lt h)]
theorem nocell {r : Nat} {o : Obj} (h : w.heap[r]? = some o) (n : noCells o = true) (i : Nat) : w.cell? ⟨r, i, none⟩ = none ∧ w.fz ⟨r, i, none⟩ = false := by
  unfold World.cell? World.fz
  simp only [h]
  cases o <;> first | exact ⟨rfl, rfl⟩ | (simp [noCells] at n; done)
theorem set_cell {r : Nat} {o o' : Obj} (h : w.heap[r]? = some o') (n : noCells o = true) (n' : noCells o' = true) (r' i : Nat) : (w.evSet r o).cell? ⟨r', i, none⟩ = w.cell? ⟨r', i, none⟩ ∧ (w.evSet r o).fz ⟨r', i, none⟩ = w.fz ⟨r', i, none⟩ := by
  by_cases e : r' = r
  · subst e
    have h1 := nocell h n' i
    have h2 := nocell (set_heap_eq (o := o) h) n i
    exact ⟨h2.1.trans h1.1.symm, h2.2.trans h1.2.symm⟩
  · unfold World.cell? World.fz
    simp only [set_heap (w := w) (o := o) e, and_self]
/-- An object is written. -/
theorem Mem.set_ob (m : Mem G h ρ w) {b r : Nat} (hb : G.ob b = some r) {o o' : Obj} (ho : w.heap[r]? = some o) (hn : noCells o = true) (hn' : noCells o' = true) {cs : List V} (hi : ObjIs G o' cs) :
    Mem G (h.set b (some cs)) ρ (w.evSet r o') ∧ Fr G ρ w G ρ (w.evSet r o') := by
  have sc := fun r' i => set_cell ho hn' hn r' i
  obtain ⟨b1, _, _, b4⟩ := m.obs b r hb
  refine ⟨⟨?_, ?_, ?_, ?_, m.dis, ?_, ?_⟩, ⟨.refl G, by simp [World.evSet], rfl, rfl, rfl, ?_, ?_, fun _ _ k => .inl k, fun _ _ k => .inl k, fun _ _ k => .inl k⟩⟩
  · intro r' i v hv
    rw [(sc r' i).1]
    exact m.st r' i v hv
  · intro b' bs hb' hob
    have hne : b' ≠ b := fun e => by subst e; rw [hb] at hob; cases hob
    rw [List.getElem?_set_ne (fun k => hne k.symm)] at hb'
    obtain ⟨r', lo, hi, h1, h2, h3, h4⟩ := m.blk b' bs hb' hob
    refine ⟨r', lo, hi, h1, h2, h3, fun j hj => ?_⟩
    obtain ⟨v, h5, h6, h7⟩ := h4 j hj
    exact ⟨v, by rw [(sc r' _).1]; exact h5, h6, h7⟩
  · intro b' x hx
    have := m.lt b' x hx
    simpa using this
  · intro x r' lo hi hx i h1 h2
    obtain ⟨k1, k2, k3⟩ := m.own x r' lo hi hx i h1 h2
    exact ⟨by rw [(sc r' i).1]; exact k1, by rw [(sc r' i).2]; exact k2, k3⟩
  · intro b' hb'
    have := m.ob b' hb'
    simpa using this
  · intro b' r' hb'
    obtain ⟨h1, h2, ⟨o1, h3, h4, h5⟩, h6⟩ := m.obs b' r' hb'
    refine ⟨by simpa using h1, h2, ?_, h6⟩
    by_cases e : b' = b
    · subst e
      rw [hb] at hb'
      cases hb'
      refine ⟨o', set_heap_eq ho, hn', fun cs' hc => ?_⟩
      rw [List.getElem?_set_self h1] at hc
      cases hc
      exact hi
    · have hr : r' ≠ r := fun e2 => by subst e2; exact e (b4 b' hb')
      refine ⟨o1, by rw [set_heap hr]; exact h3, h4, fun cs' hc => h5 cs' ?_⟩
      rwa [List.getElem?_set_ne (fun k => e k.symm)] at hc
  · intro r' i _ _
    exact sc r' i
  · intro r' _ _ hob
    exact set_heap (fun e => by subst e; exact hob b hb)

theorem row_get {b : Nat} {cs : List V} (hb : h.row b = some cs) : h[b]? = some (some cs) := by
  unfold Heap.row at hb
  cases hh : h[b]? with
  | none => simp [hh] at hb
  | some x => cases x <;> simp_all
theorem run_getObj_it {r : Nat} {s : ByteArray} {p : Nat} (hb : w.heap[r]? = some (.stringIter s p)) : (getObj r).run P w = .ok (.stringIter s p) w := by
  simp [getObj, Sem.run, hb]
theorem run_setObj_it {r : Nat} {s : ByteArray} {p : Nat} (o : Obj) (hb : w.heap[r]? = some (.stringIter s p)) : (setObj r o).run P w = .ok () (w.evSet r o) := by
  simp [setObj, Sem.run, hb, World.evSet]
theorem run_setObj_mp {r : Nat} {es : Array MapEntry} {clock : Nat} (o : Obj) (hb : w.heap[r]? = some (.map es clock)) : (setObj r o).run P w = .ok () (w.evSet r o) := MapKept.run_setObj_map o hb
/-! #### walks over strings -/
def chkRng (P : Program) (t : Nat) : Bool := match P.underlying t with | some .string => true | _ => false
theorem rng_run {t : Nat} (hc : chkRng P t = true) (s : ByteArray) : (Instr.range t (.string s)).run P w = .ok (.pointer (some ⟨w.heap.size, 0, none⟩)) (w.evPush (.stringIter s 0)) := by
  unfold chkRng at hc
  cases hd : P.underlying t with
  | none => simp [hd] at hc
  | some d =>
    cases d <;> simp only [hd] at hc <;> try (cases hc; done)
    unfold Instr.range
    simp [run_underlying P w t _ hd, Result.andThen, World.evPush]
def chkRngM (P : Program) (t : Nat) : Bool := match P.underlying t with | some (.map _ _) => true | _ => false
theorem nxt_run (m : Mem G h ρ w) {ux : Value} {x v : V} {h' : Heap} (rx : Rel G ux x) (hv : nxtV h x = some (v, h')) (ty : Nat) :
    ∃ u w', (Instr.next ux true ty).run P w = .ok u w' ∧ Rel G u v ∧ Mem G h' ρ w' ∧ Fr G ρ w G ρ w' := by
  unfold nxtV at hv
  cases x <;> try (cases hv; done)
  rename_i b
  simp only at hv
  rw [Option.bind_eq_some_iff] at hv
  obtain ⟨cs, hrow, hv⟩ := hv
  cases rx with
  | itr _ r hob =>
    obtain ⟨_, _, ⟨o, ho, hn, hoi⟩, _⟩ := m.obs b r hob
    have hoi := hoi cs (row_get hrow)
    cases hoi with
    | it s l pos hs =>
      simp only at hv
      split at hv
      · cases hv
      · have e0 : ((pos : Int)).toNat = pos := by omega
        rw [e0] at hv
        have hsz : l.length = s.size := by rw [← hs, Array.length_toList]; rfl
        have hsl : (⟨l.toArray⟩ : ByteArray) = s := by
          have : l.toArray = s.data := by rw [← hs]
          rw [this]
        rw [hsl, hsz] at hv
        split at hv
        · rename_i hlt
          cases hv
          have hi : ObjIs G (.stringIter s (pos + (Utf8.decode s pos).2)) [.str l, .int .i64 ((pos + (Utf8.decode s pos).2 : Nat) : Int)] := .it s l _ hs
          obtain ⟨m1, f1⟩ := m.set_ob hob ho hn rfl hi
          refine ⟨.tuple #[.bool true, goInt pos, .int .i32 (Utf8.decode s pos).1], _, ?_, ?_, m1, f1⟩
          · unfold Instr.next
            simp [run_getObj_it ho, Result.andThen, hlt, run_setObj_it _ ho]
          · exact Rels.toTup (Rels.cons (.bool _) (Rels.cons (.int _ _) (Rels.cons (.int _ _) Rels.nil)))
        · rename_i hlt
          cases hv
          refine ⟨.tuple #[.bool false], w, ?_, Rels.toTup (Rels.cons (.bool _) Rels.nil), m, .refl _ _ _⟩
          unfold Instr.next
          simp [run_getObj_it ho, Result.andThen, hlt]
    | mi b' r' since last seen hob' => simp at hv
    | mi0 since last => simp at hv
    | mp es clock _ hk _ =>
      generalize es.toList = el at hk
      split at hv
      · cases hk
      · cases hv
/-! #### walks over maps -/
theorem run_getObj_mi {r : Nat} {o : Option Nat} {a b : Nat} {seen : Array Nat} (hb : w.heap[r]? = some (.mapIter o a seen b)) : (getObj r).run P w = .ok (.mapIter o a seen b) w := by
  simp [getObj, Sem.run, hb]
theorem KvRel.born {i : Nat} {es : List MapEntry} {kvs : List V} (h : KvRel G i es kvs) : ∀ e, e ∈ es → i ≤ e.born ∧ e.born < i + kvs.length ∧ ∃ k v, kvs[e.born - i]? = some (.tup [k, v]) ∧ Rel G e.key k ∧ Rel G e.val v := by
  induction h with
  | nil i => intro e he; cases he
  | tomb h0 ih =>
    rename_i i es kvs
    intro e he
    obtain ⟨h1, h2, k, v, h3, h4⟩ := ih e he
    refine ⟨by omega, by simp; omega, k, v, ?_, h4⟩
    rw [show e.born - i = (e.born - (i + 1)) + 1 by omega, List.getElem?_cons_succ]
    exact h3
  | cons a b c h0 ih =>
    rename_i i e0 es k v kvs
    intro e he
    rcases List.mem_cons.1 he with rfl | he
    · exact ⟨by omega, by simp; omega, k, v, by rw [c]; simp, a, b⟩
    · obtain ⟨h1, h2, k, v, h3, h4⟩ := ih e he
      refine ⟨by omega, by simp; omega, k, v, ?_, h4⟩
      rw [show e.born - i = (e.born - (i + 1)) + 1 by omega, List.getElem?_cons_succ]
      exact h3
theorem KvRel.nodup {i : Nat} {es : List MapEntry} {kvs : List V} (h : KvRel G i es kvs) : (es.map (·.born)).Nodup := by
  induction h with
  | nil i => simp
  | tomb _ ih => exact ih
  | cons a b c h0 ih =>
    rename_i i e0 es k v kvs
    rw [List.map_cons, List.nodup_cons]
    refine ⟨fun hm => ?_, ih⟩
    obtain ⟨e, he, hb⟩ := List.mem_map.1 hm
    have := (h0.born e he).1
    omega
theorem KvRel.has {i : Nat} {es : List MapEntry} {kvs : List V} (h : KvRel G i es kvs) : ∀ j x, kvs[j]? = some (.tup x) → ∃ e, e ∈ es ∧ e.born = i + j := by
  induction h with
  | nil i => intro j x hj; simp at hj
  | tomb h0 ih =>
    intro j x hj
    cases j with
    | zero => simp at hj
    | succ j =>
      obtain ⟨e, h1, h2⟩ := ih j x (by simpa using hj)
      exact ⟨e, h1, by omega⟩
  | cons a b c h0 ih =>
    intro j x hj
    cases j with
    | zero => exact ⟨_, List.mem_cons_self, by omega⟩
    | succ j =>
      obtain ⟨e, h1, h2⟩ := ih j x (by simpa using hj)
      exact ⟨e, List.mem_cons_of_mem _ h1, by omega⟩
theorem Fr.drawn {ρ : Rho} (w : World) : Fr G ρ w G ρ w.drew := Fr.drew G ρ w (w.drawn + 1)
/-- ONE STEP OF A WALK OVER A MAP. -/
theorem picks_run (m : Mem G h ρ w) {ux : Value} {x : V} {l : List Heap} (rx : Rel G ux x) (hv : picks h x = some l) (ty : Nat) :
    (l = [] ∧ (Instr.next ux false ty).run P w = .ok (.tuple #[.bool false]) w) ∨
    ∃ h1, h1 ∈ l ∧ ∃ k v w', (Instr.next ux false ty).run P w = .ok (.tuple #[.bool true, k, v]) w' ∧ Mem G h1 ρ w' ∧ Fr G ρ w G ρ w' := by
  unfold picks at hv
  cases x <;> try (cases hv; done)
  rename_i b
  simp only at hv
  rw [Option.bind_eq_some_iff] at hv
  obtain ⟨cs, hrow, hv⟩ := hv
  cases rx with
  | itr _ r hob =>
    obtain ⟨_, _, ⟨o, ho, hn, hoi⟩, _⟩ := m.obs b r hob
    have hoi := hoi cs (row_get hrow)
    cases hoi with
    | it s l pos hs => simp at hv
    | mp es clock _ hk _ =>
      generalize es.toList = el at hk
      split at hv
      · cases hk
      · cases hk
      · cases hv
    | mi0 since last =>
      simp only at hv
      cases hv
      refine .inl ⟨rfl, ?_⟩
      unfold Instr.next
      simp [run_getObj_mi ho, Result.andThen]
    | mi b' r' since last seen hob' =>
      simp only [seenV] at hv
      rw [Option.bind_eq_some_iff] at hv
      obtain ⟨kvs, hrow', hv⟩ := hv
      split at hv
      case isFalse => cases hv
      rename_i hc
      simp only [Bool.and_eq_true, decide_eq_true_eq] at hc
      obtain ⟨⟨hkv, hcl⟩, hsl⟩ := hc
      cases hv
      obtain ⟨_, _, ⟨o', ho', hn', hoi'⟩, _⟩ := m.obs b' r' hob'
      have hoi' := hoi' kvs (row_get hrow')
      cases hoi' with
      | it s l pos hs => simp [isKvs] at hkv
      | mi b' r' since last seen hob' => simp [isKvs] at hkv
      | mi0 since last => simp [isKvs] at hkv
      | mp es clock _ hk hcc =>
        have hold : ∀ e ∈ es.toList, e.born < since := fun e he => by
          have := (hk.born e he).2.1
          omega
        rcases run_next_at (P := P) w ty r r' since last seen.toArray es clock ho ho' hold hsl with ⟨h0, hrun⟩ | ⟨e, he, w1, hal, hrun⟩
        · refine .inl ⟨?_, hrun⟩
          have : cands (seen.map fun j => V.ptr j 0) kvs 0 = [] := by
            refine List.eq_nil_iff_forall_not_mem.2 fun p hp => ?_
            obtain ⟨_, ⟨x, hx⟩, hs⟩ := (mem_cands kvs 0 p).1 hp
            obtain ⟨e, he, hb⟩ := hk.has p x (by simpa using hx)
            have hes : e ∈ leftOf es seen.toArray := by
              unfold leftOf
              rw [Array.mem_filter]
              refine ⟨by simpa using he, ?_⟩
              rw [seenHas_iff] at hs
              rw [hb]
              simpa using hs
            have : leftOf es seen.toArray = #[] := Array.eq_empty_of_size_eq_zero h0
            rw [this] at hes
            simp at hes
          rw [this]
          rfl
        · refine .inr ⟨_, List.mem_map.2 ⟨e.born, (mem_cands kvs 0 e.born).2 ?_, rfl⟩, e.key, e.val, _, hrun, ?_⟩
          · have hee : e ∈ es.toList ∧ seen.contains e.born = false := by
              have := Array.mem_toList_iff.1 he
              unfold leftOf at this
              rw [Array.mem_filter] at this
              exact ⟨by simpa using this.1, by simpa using this.2⟩
            obtain ⟨_, _, k, v, h3, _⟩ := hk.born e hee.1
            exact ⟨by omega, ⟨_, by simpa using h3⟩, by rw [seenHas_iff]; exact hee.2⟩
          · have hi : ObjIs G (.mapIter (some r') since (seen.toArray.push e.born) clock) [.mp b', .ptr since kvs.length, .tup (seen.map (fun j => V.ptr j 0) ++ [.ptr e.born 0])] := by
              have := ObjIs.mi (G := G) b' r' since clock (seen ++ [e.born]) hob'
              rw [hcc] at this
              rw [hcc]
              simpa [seenV] using this
            rcases hal with rfl | rfl
            · exact m.set_ob hob ho hn rfl hi
            · obtain ⟨m2, f2⟩ := (m.drew (w.drawn + 1)).set_ob hob (o := .mapIter (some r') since seen.toArray last) ho hn rfl hi
              exact ⟨m2, (Fr.drawn w).trans f2⟩
theorem lastV_snoc (l : List V) (j : Nat) : lastV (l ++ [.ptr j 0]) = some j := by
  induction l with
  | nil => rfl
  | cons a l ih =>
    cases l with
    | nil => cases a <;> rfl
    | cons b l => cases a <;> exact ih
theorem ent_run (m : Mem G h ρ w) {ux : Value} {x v : V} (rx : Rel G ux x) (hv : entV h x = some v) : ∃ u, (Instr.entry ux).run P w = .ok u w ∧ Rel G u v := by
  unfold entV at hv
  cases x <;> try (cases hv; done)
  rename_i b
  simp only at hv
  rw [Option.bind_eq_some_iff] at hv
  obtain ⟨cs, hrow, hv⟩ := hv
  cases rx with
  | itr _ r hob =>
    obtain ⟨_, _, ⟨o, ho, hn, hoi⟩, _⟩ := m.obs b r hob
    have hoi := hoi cs (row_get hrow)
    cases hoi with
    | it s l pos hs => simp at hv
    | mp es clock _ hk _ =>
      generalize es.toList = el at hk
      split at hv
      · cases hk
      · cases hv
    | mi0 since last => simp at hv
    | mi b' r' since last seen hob' =>
      simp only [seenV] at hv
      rw [Option.bind_eq_some_iff] at hv
      obtain ⟨kvs, hrow', hv⟩ := hv
      split at hv
      case isFalse => cases hv
      rename_i hc
      simp only [Bool.and_eq_true, beq_iff_eq] at hc
      obtain ⟨hkv, hlast⟩ := hc
      rw [Option.bind_eq_some_iff] at hv
      obtain ⟨j, hj, hv⟩ := hv
      obtain ⟨_, _, ⟨o', ho', hn', hoi'⟩, _⟩ := m.obs b' r' hob'
      have hoi' := hoi' kvs (row_get hrow')
      cases hoi' with
      | it s l pos hs => simp [isKvs] at hkv
      | mi b' r' since last seen hob' => simp [isKvs] at hkv
      | mi0 since last => simp [isKvs] at hkv
      | mp es clock _ hk hcc =>
        split at hv
        case h_2 => cases hv
        rename_i k v' hkj
        cases hv
        obtain ⟨e, he, hb⟩ := hk.has j _ hkj
        obtain ⟨_, _, k2, v2, h3, h4, h5⟩ := hk.born e he
        have hj0 : e.born - 0 = j := by omega
        rw [hj0, hkj] at h3
        cases h3
        -- what was told last
        have hsplit : ∃ s0, seen = s0 ++ [j] := by
          rcases List.eq_nil_or_concat seen with h0 | ⟨s0, a, h0⟩
          · subst h0; simp [lastV] at hj
          · rw [List.concat_eq_append] at h0
            subst h0
            rw [List.map_append, List.map_cons, List.map_nil, lastV_snoc] at hj
            cases hj
            exact ⟨s0, rfl⟩
        obtain ⟨s0, rfl⟩ := hsplit
        have hbj : e.born = j := by omega
        have hcl : clock = last := by rw [hcc, hlast]
        refine ⟨.tuple #[e.key, e.val], ?_, Rels.toTup (Rels.cons h4 (Rels.cons h5 Rels.nil))⟩
        refine run_entry_at w r r' since s0.toArray es clock e ?_ ho' he hk.nodup
        rw [ho, hbj, hcl]
        simp
theorem rngS_run (m : Mem G h ρ w) {ux : Value} {x v : V} {s : Bool} {h' : Heap} {t : Nat} (rx : Rel G ux x) (hv : rngS h s x = some (v, h')) (hc : (if s then chkRng P t else chkRngM P t) = true) :
    ∃ u w' G', (Instr.range t ux).run P w = .ok u w' ∧ Rel G' u v ∧ Mem G' h' ρ w' ∧ Fr G ρ w G' ρ w' := by
  cases s with
  | true =>
    cases x <;> simp only [rngS] at hv <;> try (cases hv; done)
    cases hv
    obtain ⟨sb, hsb, hl⟩ := rel_str rx
    obtain ⟨m1, f1⟩ := m.push_ob (.stringIter sb 0) rfl [.str _, .int .i64 0] (.it sb _ 0 hl)
    have hr := rng_run (P := P) (w := w) (by simpa using hc) sb
    rw [← hsb] at hr
    exact ⟨_, _, _, hr, .itr h.length w.heap.size (by simp [Gh.addOb]), m1, f1⟩
  | false =>
    simp only [Bool.false_eq_true, if_false] at hc
    unfold chkRngM at hc
    cases hd : P.underlying t with
    | none => simp [hd] at hc
    | some d =>
      cases d <;> simp only [hd] at hc <;> try (cases hc; done)
      cases x <;> simp only [rngS] at hv <;> try (cases hv; done)
      case mp b =>
        rw [Option.bind_eq_some_iff] at hv
        obtain ⟨kvs, hrow, hv⟩ := hv
        split at hv
        · rename_i hkv
          cases hv
          cases rx with
          | mp _ r hob =>
            obtain ⟨_, _, ⟨o, ho, hn, hoi⟩, _⟩ := m.obs b r hob
            have hoi := hoi kvs (row_get hrow)
            cases hoi with
            | it s l pos hs => simp [isKvs] at hkv
            | mi b' r' since last seen hob' => simp [isKvs] at hkv
            | mi0 since last => simp [isKvs] at hkv
            | mp es clock _ hkk hcc =>
              subst hcc
              obtain ⟨m1, f1⟩ := m.push_ob (.mapIter (some r) kvs.length #[] kvs.length) rfl [.mp b, .ptr kvs.length kvs.length, .tup []] (.mi b r kvs.length kvs.length [] hob)
              refine ⟨.pointer (some ⟨w.heap.size, 0, none⟩), _, _, ?_, .itr h.length w.heap.size (by simp [Gh.addOb]), m1, f1⟩
              unfold Instr.range
              simp [run_underlying P w t _ hd, MapKept.run_getObj_map ho, Result.andThen, World.evPush]
        · cases hv
      case mpn =>
        cases hv
        cases rx
        obtain ⟨m1, f1⟩ := m.push_ob (.mapIter none 0 #[] 0) rfl [.mpn, .nilp] (.mi0 0 0)
        refine ⟨.pointer (some ⟨w.heap.size, 0, none⟩), _, _, ?_, .itr h.length w.heap.size (by simp [Gh.addOb]), m1, f1⟩
        unfold Instr.range
        simp [run_underlying P w t _ hd, Result.andThen, World.evPush]
theorem nxsV_run (m : Mem G h ρ w) {ux : Value} {x v : V} {s : Bool} {h' : Heap} (rx : Rel G ux x) (hv : nxsV h s x = some (v, h')) (ty : Nat) :
    ∃ u w', (Instr.next ux s ty).run P w = .ok u w' ∧ Rel G u v ∧ Mem G h' ρ w' ∧ Fr G ρ w G ρ w' := by
  cases s with
  | true => exact nxt_run m rx hv ty
  | false =>
    have hv : nxmV h x = some (v, h') := hv
    unfold nxmV at hv
    rw [Option.bind_eq_some_iff] at hv
    obtain ⟨l, hl, hv⟩ := hv
    split at hv
    · rename_i he
      cases hv
      have he : l = [] := List.isEmpty_iff.1 he
      subst he
      rcases picks_run (P := P) m rx hl ty with ⟨_, hr⟩ | ⟨h1, hm, _⟩
      · exact ⟨.tuple #[.bool false], w, hr, Rels.toTup (Rels.cons (.bool _) Rels.nil), m, .refl _ _ _⟩
      · cases hm
    · cases hv
/-! #### maps -/
def chkMap (P : Program) (q : EqK) (t : Nat) : Option Nat := match P.underlying t with
  | some (.map kt et) => (match P.underlying kt, q with
    | some (.int _), .int => some et
    | some .string, .str => some et
    | some .bool, .bool => some et
    | _, _ => none)
  | _ => none
theorem chkMap_spec {q : EqK} {t et : Nat} (hc : chkMap P q t = some et) : ∃ kt d, P.underlying t = some (.map kt et) ∧ P.underlying kt = some d ∧
    ((∃ k, d = .int k ∧ q = .int) ∨ (d = .string ∧ q = .str) ∨ (d = .bool ∧ q = .bool)) := by
  unfold chkMap at hc
  split at hc
  · rename_i kt et' hd
    split at hc
    · rename_i k hk
      cases hc
      exact ⟨kt, _, hd, hk, .inl ⟨k, rfl, rfl⟩⟩
    · rename_i hk
      cases hc
      exact ⟨kt, _, hd, hk, .inr (.inl ⟨rfl, rfl⟩)⟩
    · rename_i hk
      cases hc
      exact ⟨kt, _, hd, hk, .inr (.inr ⟨rfl, rfl⟩)⟩
    · cases hc
  · cases hc
theorem same_rel {q : EqK} {d : TypeDesc} (hq : (∃ k, d = .int k ∧ q = .int) ∨ (d = .string ∧ q = .str) ∨ (d = .bool ∧ q = .bool)) {ua ub : Value} {a b : V} (ra : Rel G ua a) (rb : Rel G ub b) {t : Bool} (hv : keyEq q a b = some t) :
    Instr.sameNow d ua ub = some t ∧ (t = true → ua = ub) := by
  rcases hq with ⟨k, rfl, rfl⟩ | ⟨rfl, rfl⟩ | ⟨rfl, rfl⟩
  · cases a <;> cases b <;> simp [keyEq] at hv
    obtain ⟨e1, e2⟩ := hv
    cases ra; cases rb
    subst e1
    simp only [Instr.sameNow, if_true]
    exact ⟨by rw [← e2], fun ht => by rw [ht] at e2; simp at e2; rw [e2]⟩
  · cases a <;> cases b <;> simp [keyEq] at hv
    obtain ⟨s1, rfl, rfl⟩ := rel_str ra
    obtain ⟨s2, rfl, rfl⟩ := rel_str rb
    simp only [Instr.sameNow]
    have hb : (s1 == s2) = decide (s1.data.toList = s2.data.toList) := by
      rw [Bool.eq_iff_iff, MapKept.bytes_beq]
      constructor
      · intro e; subst e; simp
      · intro e
        have e := of_decide_eq_true e
        obtain ⟨x⟩ := s1; obtain ⟨y⟩ := s2
        have : x = y := by simpa using e
        rw [this]
    rw [hb]
    refine ⟨by rw [← hv]; congr 1; exact Bool.eq_iff_iff.2 ⟨fun h => beq_iff_eq.2 (of_decide_eq_true h), fun h => decide_eq_true (beq_iff_eq.1 h)⟩, fun ht => ?_⟩
    rw [ht] at hv
    have e : s1.data.toList = s2.data.toList := by simpa using hv
    obtain ⟨x⟩ := s1; obtain ⟨y⟩ := s2
    have : x = y := by simpa using e
    rw [this]
  · cases a <;> cases b <;> simp [keyEq] at hv
    cases ra; cases rb
    simp only [Instr.sameNow]
    exact ⟨by rw [← hv], fun ht => by rw [ht] at hv; simp at hv; rw [hv]⟩
theorem key_check {q : EqK} {kt : Nat} {d : TypeDesc} (hd : P.underlying kt = some d) (hq : (∃ k, d = .int k ∧ q = .int) ∨ (d = .string ∧ q = .str) ∨ (d = .bool ∧ q = .bool)) (em : Bool) (uk : Value) : (Instr.checkKey em 10000 kt uk).run P w = .ok () w := by
  unfold Instr.checkKey
  simp only [Sem.run_bind, run_underlying P w kt _ hd, Result.andThen]
  rcases hq with ⟨k, rfl, rfl⟩ | ⟨rfl, rfl⟩ | ⟨rfl, rfl⟩ <;> cases uk <;> rfl
theorem KvRel.append {i : Nat} {es es2 : List MapEntry} {kvs kvs2 : List V} (h : KvRel G i es kvs) (h2 : KvRel G (i + kvs.length) es2 kvs2) : KvRel G i (es ++ es2) (kvs ++ kvs2) := by
  induction h with
  | nil i => simpa using h2
  | tomb h0 ih =>
    rename_i i es kvs
    exact .tomb (ih (by rw [show i + 1 + kvs.length = i + (V.nilp :: kvs).length by simp; omega]; exact h2))
  | cons a b c h0 ih =>
    rename_i i e0 es k v kvs
    exact .cons a b c (ih (by rw [show i + 1 + kvs.length = i + (V.tup [k, v] :: kvs).length by simp; omega]; exact h2))
theorem find_rel {q : EqK} {d : TypeDesc} (hq : (∃ k, d = .int k ∧ q = .int) ∨ (d = .string ∧ q = .str) ∨ (d = .bool ∧ q = .bool)) {uk : Value} {k : V} (rk : Rel G uk k) {n : Nat} {es : List MapEntry} {kvs : List V} (hkv : KvRel G n es kvs) : ∀ (i i' : Nat) (r : Option (Nat × V)),
    kvFind q k kvs i = some r →
    (r = none ∧ Instr.findNow d uk es i' = some none) ∨ ∃ es1 e es2 kvs1 v kvs2, es = es1 ++ e :: es2 ∧ (∃ k', kvs = kvs1 ++ .tup [k', v] :: kvs2) ∧ KvRel G n es1 kvs1 ∧ KvRel G (n + kvs1.length + 1) es2 kvs2 ∧ e.born = n + kvs1.length ∧
      r = some (i + kvs1.length, v) ∧ Instr.findNow d uk es i' = some (some (i' + es1.length, e.val)) ∧ Rel G e.val v ∧ e.key = uk := by
  induction hkv with
  | nil n =>
    intro i i' r hf
    simp [kvFind] at hf
    exact .inl ⟨hf.symm, rfl⟩
  | tomb h ih =>
    rename_i n es kvs
    intro i i' r hf
    simp only [kvFind] at hf
    rcases ih (i + 1) i' r hf with ⟨q1, q2⟩ | ⟨es1, e, es2, kvs1, v, kvs2, q1, ⟨k', q2⟩, q3, q4, q5, q6, q7, q8, q9⟩
    · exact .inl ⟨q1, q2⟩
    · refine .inr ⟨es1, e, es2, .nilp :: kvs1, v, kvs2, q1, ⟨k', by rw [q2]; rfl⟩, .tomb q3, ?_, ?_, ?_, q7, q8, q9⟩
      · rw [show n + (V.nilp :: kvs1).length + 1 = n + 1 + kvs1.length + 1 by simp; omega]; exact q4
      · simp; omega
      · rw [q6]; congr 2; simp; omega
  | cons a b c h ih =>
    rename_i n e es k' v kvs
    intro i i' r hf
    simp only [kvFind] at hf
    rw [Option.bind_eq_some_iff] at hf
    obtain ⟨t, ht, hf⟩ := hf
    obtain ⟨s1, s2⟩ := same_rel hq rk a ht
    cases t with
    | true =>
      simp at hf
      subst hf
      exact .inr ⟨[], e, es, [], v, kvs, rfl, ⟨k', rfl⟩, .nil n, by simpa using h, by simpa using c, by simp, by simp [Instr.findNow, s1], b, (s2 rfl).symm⟩
    | false =>
      simp at hf
      rcases ih (i + 1) (i' + 1) r hf with ⟨q1, q2⟩ | ⟨es1, e', es2, kvs1, v', kvs2, q1, ⟨k2, q2⟩, q3, q4, q5, q6, q7, q8, q9⟩
      · exact .inl ⟨q1, by simp [Instr.findNow, s1, q2]⟩
      · refine .inr ⟨e :: es1, e', es2, .tup [k', v] :: kvs1, v', kvs2, by rw [q1]; rfl, ⟨k2, by rw [q2]; rfl⟩, .cons a b c q3, ?_, ?_, ?_, ?_, q8, q9⟩
        · rw [show n + (V.tup [k', v] :: kvs1).length + 1 = n + 1 + kvs1.length + 1 by simp; omega]; exact q4
        · simp; omega
        · rw [q6]; congr 2; simp; omega
        · simp [Instr.findNow, s1, q7]; omega
/-- What lies in a map. -/
theorem kvs_rel (m : Mem G h ρ w) {um : Value} {x : V} {kvs : List V} (rx : Rel G um x) (hk : kvsOf h x = some kvs) (hf : isKvs kvs = true) :
    (um = .map none ∧ x = .mpn ∧ kvs = []) ∨ ∃ b r es clock, x = .mp b ∧ um = .map (some r) ∧ G.ob b = some r ∧ w.heap[r]? = some (.map es clock) ∧ clock = kvs.length ∧ KvRel G 0 es.toList kvs := by
  unfold kvsOf at hk
  cases x <;> try (cases hk; done)
  case mpn => cases hk; cases rx; exact .inl ⟨rfl, rfl, rfl⟩
  case mp b =>
    simp only at hk
    cases rx with
    | mp _ r hob =>
      obtain ⟨_, _, ⟨o, ho, hn, hoi⟩, _⟩ := m.obs b r hob
      have hoi := hoi kvs (row_get hk)
      cases hoi with
      | it s l pos hs => simp [isKvs] at hf
      | mi b' r' since last seen hob' => simp [isKvs] at hf
      | mi0 since last => simp [isKvs] at hf
      | mp es clock _ hkk hcc => exact .inr ⟨b, r, es, clock, rfl, rfl, hob, ho, hcc, hkk⟩
theorem kvFind_is {q : EqK} {k : V} {kvs : List V} {r : Option (Nat × V)} (hf : kvFind q k kvs 0 = some r) : isKvs kvs = true := by
  cases kvs with
  | nil => rfl
  | cons x kvs => cases x <;> first | rfl | (simp [kvFind] at hf; done)
theorem look_run (m : Mem G h ρ w) {q : EqK} {t et : Nat} (hc : chkMap P q t = some et) {z : V} (hz : zeroIs P et z = true) {um uk : Value} {x k v : V} {ok : Bool} (rx : Rel G um x) (rk : Rel G uk k) (hv : lookV h q x k z ok = some v) :
    ∃ u, (Instr.lookup t um uk ok).run P w = .ok u w ∧ Rel G u v := by
  obtain ⟨kt, d, hd, hkd, hq⟩ := chkMap_spec hc
  unfold lookV at hv
  rw [Option.bind_eq_some_iff] at hv; obtain ⟨kvs, hkv, hv⟩ := hv
  rw [Option.bind_eq_some_iff] at hv; obtain ⟨_, _, hv⟩ := hv
  rw [Option.bind_eq_some_iff] at hv; obtain ⟨r, hf, hv⟩ := hv
  obtain ⟨uz, hzr, rz⟩ := zero_run (w := w) hz G
  have hm := run_underlying P w t _ hd
  have hu := run_underlying P w kt _ hkd
  rcases kvs_rel m rx hkv (kvFind_is hf) with ⟨rfl, rfl, rfl⟩ | ⟨b, ro, es, clock, rfl, rfl, hob, ho, hl, hkk⟩
  · simp [kvFind] at hf
    subst hf
    cases ok with
    | true =>
      simp at hv; subst hv
      refine ⟨.tuple #[uz, .bool false], ?_, Rels.toTup (Rels.cons rz (Rels.cons (.bool _) Rels.nil))⟩
      simp [Instr.lookup, hm, key_check hkd hq, Instr.findKey, hu, Instr.findNow, hzr, Result.andThen]
    | false =>
      simp at hv; subst hv
      refine ⟨uz, ?_, rz⟩
      simp [Instr.lookup, hm, key_check hkd hq, Instr.findKey, hu, Instr.findNow, hzr, Result.andThen]
  · have hg := MapKept.run_getObj_map (P := P) ho
    rcases find_rel hq rk hkk 0 0 r hf with ⟨rfl, hn⟩ | ⟨es1, e, es2, kvs1, v', kvs2, he, _, _, _, _, rfl, hn, rv, _⟩
    · cases ok with
      | true =>
        simp at hv; subst hv
        refine ⟨.tuple #[uz, .bool false], ?_, Rels.toTup (Rels.cons rz (Rels.cons (.bool _) Rels.nil))⟩
        simp [Instr.lookup, hm, hg, key_check hkd hq, Instr.findKey, hu, hn, hzr, Result.andThen]
      | false =>
        simp at hv; subst hv
        refine ⟨uz, ?_, rz⟩
        simp [Instr.lookup, hm, hg, key_check hkd hq, Instr.findKey, hu, hn, hzr, Result.andThen]
    · cases ok with
      | true =>
        simp at hv; subst hv
        refine ⟨.tuple #[e.val, .bool true], ?_, Rels.toTup (Rels.cons rv (Rels.cons (.bool _) Rels.nil))⟩
        simp [Instr.lookup, hm, hg, key_check hkd hq, Instr.findKey, hu, hn, Result.andThen]
      | false =>
        simp at hv; subst hv
        refine ⟨e.val, ?_, rv⟩
        simp [Instr.lookup, hm, hg, key_check hkd hq, Instr.findKey, hu, hn, Result.andThen]
theorem keep_key {q : EqK} {d : TypeDesc} (hq : (∃ k, d = .int k ∧ q = .int) ∨ (d = .string ∧ q = .str) ∨ (d = .bool ∧ q = .bool)) {uk : Value} {k : V} (rk : Rel G uk k) {t : Bool} (hk : keyEq q k k = some t) : (Instr.keyThatStays uk uk).run P w = .ok uk w := by
  have : Instr.sameBits 10000 uk uk = true := by
    rcases hq with ⟨_, rfl, rfl⟩ | ⟨rfl, rfl⟩ | ⟨rfl, rfl⟩
    · cases k <;> simp [keyEq] at hk
      cases rk
      simp [Instr.sameBits]
    · cases k <;> simp [keyEq] at hk
      obtain ⟨s1, rfl, rfl⟩ := rel_str rk
      simp only [Instr.sameBits]
      exact (MapKept.bytes_beq _ _).2 rfl
    · cases k <;> simp [keyEq] at hk
      cases rk
      simp [Instr.sameBits]
  unfold Instr.keyThatStays
  rw [if_pos this]
  rfl
theorem modify_mid {α : Type} (f : α → α) (e : α) (es2 : List α) : ∀ es1 : List α, (es1 ++ e :: es2).modify es1.length f = es1 ++ f e :: es2
  | [] => by simp
  | a :: l => by simp [modify_mid f e es2 l]
theorem mset_run (m : Mem G h ρ w) {q : EqK} {t et : Nat} (hc : chkMap P q t = some et) {um uk ux : Value} {x k v : V} {h' : Heap} (rx : Rel G um x) (rk : Rel G uk k) (rv : Rel G ux v) (hv : msetV h q x k v = some h') :
    ∃ w', (Instr.mapUpdate t um uk ux).run P w = .ok () w' ∧ Mem G h' ρ w' ∧ Fr G ρ w G ρ w' := by
  obtain ⟨kt, d, hd, hkd, hq⟩ := chkMap_spec hc
  unfold msetV at hv
  cases x <;> try (cases hv; done)
  rename_i b0
  simp only at hv
  rw [Option.bind_eq_some_iff] at hv; obtain ⟨kvs, hkv, hv⟩ := hv
  rw [Option.bind_eq_some_iff] at hv; obtain ⟨tt, htt, hv⟩ := hv
  rw [Option.bind_eq_some_iff] at hv; obtain ⟨r, hf, hv⟩ := hv
  have hm := run_underlying P w t _ hd
  have hu := run_underlying P w kt _ hkd
  rcases kvs_rel m rx (show kvsOf h (.mp b0) = some kvs from hkv) (kvFind_is hf) with ⟨rfl, _⟩ | ⟨b, ro, es, clock, hb, rfl, hob, ho, hl, hkk⟩
  · cases rx
  · cases hb
    have hg := MapKept.run_getObj_map (P := P) ho
    rcases find_rel hq rk hkk 0 0 r hf with ⟨rfl, hn⟩ | ⟨es1, e, es2, kvs1, v', kvs2, he, ⟨k', hkvs⟩, hk1, hk2, hbo, rfl, hn, rv', hek⟩
    · simp at hv
      subst hv
      have hi : ObjIs G (.map (es.push { key := uk, val := ux, born := clock }) (clock + 1)) (kvs ++ [.tup [k, v]]) := by
        refine .mp _ _ _ ?_ (by simp [hl])
        rw [Array.toList_push]
        exact hkk.append (.cons rk rv (by simp [hl]) (.nil _))
      obtain ⟨m1, f1⟩ := m.set_ob hob ho rfl rfl hi
      refine ⟨_, ?_, m1, f1⟩
      simp [Instr.mapUpdate, hm, hg, key_check hkd hq, Instr.findKey, hu, hn, run_setObj_mp _ ho, Result.andThen]
    · simp at hv
      subst hv
      have hj : es[es1.length]? = some e := by
        rw [← Array.getElem?_toList, he]
        simp
      have hi : ObjIs G (.map (es.modify es1.length fun e => { e with key := uk, val := ux }) clock) (kvs.set kvs1.length (.tup [k, v])) := by
        refine .mp _ _ _ ?_ (by simp [hl])
        rw [Array.toList_modify, he, hkvs]
        have e1 : (es1 ++ e :: es2).modify es1.length (fun e => { e with key := uk, val := ux }) = es1 ++ { e with key := uk, val := ux } :: es2 := by
          exact modify_mid _ _ _ es1
        rw [e1, List.set_append_right _ _ (Nat.le_refl _)]
        simp only [Nat.sub_self, List.set_cons_zero]
        exact hk1.append (.cons rk rv hbo hk2)
      obtain ⟨m1, f1⟩ := m.set_ob hob ho rfl rfl hi
      refine ⟨_, ?_, m1, f1⟩
      have hkeep := keep_key (P := P) (w := w) hq rk htt
      simp [Instr.mapUpdate, hm, hg, key_check hkd hq, Instr.findKey, hu, hn, hj, hek, hkeep, run_setObj_mp _ ho, Result.andThen]
theorem mdel_run (m : Mem G h ρ w) {q : EqK} {t et kt' ty : Nat} (hc : chkMap P q t = some et) {um uk : Value} {x k : V} {h' : Heap} (rx : Rel G um x) (rk : Rel G uk k) (hv : mdelV h q x k = some h') :
    ∃ w', (Builtin.delete_ #[t, kt'] ty #[um, uk]).run P w = .ok (.tuple #[]) w' ∧ Mem G h' ρ w' ∧ Fr G ρ w G ρ w' := by
  obtain ⟨kt, d, hd, hkd, hq⟩ := chkMap_spec hc
  have hm := run_underlying P w t _ hd
  have hu := run_underlying P w kt _ hkd
  unfold mdelV at hv
  cases x <;> try (cases hv; done)
  case mpn =>
    simp only at hv
    rw [Option.bind_eq_some_iff] at hv; obtain ⟨_, _, hv⟩ := hv
    cases hv
    cases rx
    refine ⟨w, ?_, m, .refl _ _ _⟩
    simp [Builtin.delete_, hm, key_check hkd hq, Result.andThen]
  rename_i b0
  simp only at hv
  rw [Option.bind_eq_some_iff] at hv; obtain ⟨kvs, hkv, hv⟩ := hv
  rw [Option.bind_eq_some_iff] at hv; obtain ⟨tt, htt, hv⟩ := hv
  rw [Option.bind_eq_some_iff] at hv; obtain ⟨r, hf, hv⟩ := hv
  rcases kvs_rel m rx (show kvsOf h (.mp b0) = some kvs from hkv) (kvFind_is hf) with ⟨rfl, _⟩ | ⟨b, ro, es, clock, hb, rfl, hob, ho, hl, hkk⟩
  · cases rx
  · cases hb
    have hg := MapKept.run_getObj_map (P := P) ho
    rcases find_rel hq rk hkk 0 0 r hf with ⟨rfl, hn⟩ | ⟨es1, e, es2, kvs1, v', kvs2, he, ⟨k', hkvs⟩, hk1, hk2, hbo, rfl, hn, rv', hek⟩
    · simp at hv
      subst hv
      refine ⟨w.evSet ro (.map es clock), ?_, ?_⟩
      · simp [Builtin.delete_, hm, hg, key_check hkd hq, Instr.findKey, hu, hn, run_setObj_mp _ ho, Result.andThen]
      · have : w.evSet ro (.map es clock) = w := by
          unfold World.evSet
          have hlt := Mem.heap_lt ho
          have : w.heap.setIfInBounds ro (.map es clock) = w.heap := by
            apply Array.ext_getElem?
            intro i
            rw [Array.getElem?_setIfInBounds]
            split
            · rename_i e; subst e; first | exact ho.symm | (rw [if_pos hlt]; exact ho.symm)
            · rfl
          rw [this]
        rw [this]
        exact ⟨m, .refl _ _ _⟩
    · simp at hv
      subst hv
      have hi : ObjIs G (.map (es.eraseIdxIfInBounds es1.length) clock) (kvs.set kvs1.length .nilp) := by
        refine .mp _ _ _ ?_ (by simp [hl])
        have hlt : es1.length < es.size := by
          have := congrArg List.length he
          simp at this; omega
        have e1 : (es.eraseIdxIfInBounds es1.length).toList = es1 ++ es2 := by
          unfold Array.eraseIdxIfInBounds
          rw [dif_pos hlt]
          rw [Array.toList_eraseIdx, he, List.eraseIdx_append_of_length_le (Nat.le_refl _)]
          simp
        rw [e1, hkvs, List.set_append_right _ _ (Nat.le_refl _)]
        simp only [Nat.sub_self, List.set_cons_zero]
        exact hk1.append (.tomb hk2)
      obtain ⟨m1, f1⟩ := m.set_ob hob ho rfl rfl hi
      refine ⟨_, ?_, m1, f1⟩
      simp [Builtin.delete_, hm, hg, key_check hkd hq, Instr.findKey, hu, hn, run_setObj_mp _ ho, Result.andThen]
theorem KvRel.count {i : Nat} {es : List MapEntry} {kvs : List V} (h : KvRel G i es kvs) : kvCount kvs = some es.length := by
  induction h with
  | nil i => rfl
  | tomb h0 ih => exact ih
  | cons a b c h0 ih => simp [kvCount, ih]
theorem kvCount_is {kvs : List V} {n : Nat} (h : kvCount kvs = some n) : isKvs kvs = true := by
  cases kvs with
  | nil => rfl
  | cons x kvs => cases x <;> first | rfl | (simp [kvCount] at h; done)
def chkMlen (P : Program) (ats : Array Nat) : Bool := match ats[0]? with
  | some t => (match P.underlying t with | some (.map _ _) => true | _ => false)
  | none => false
theorem mlen_run (m : Mem G h ρ w) {ats : Array Nat} {ty : Nat} (hc : chkMlen P ats = true) {um : Value} {x v : V} (rx : Rel G um x) (hv : mlenV h x = some v) :
    ∃ u, (Builtin.len_ ats ty #[um]).run P w = .ok u w ∧ Rel G u v := by
  unfold chkMlen at hc
  cases h0 : ats[0]? with
  | none => simp [h0] at hc
  | some t =>
    cases hd : P.underlying t with
    | none => simp [h0, hd] at hc
    | some d =>
      cases d <;> simp [h0, hd] at hc
      rename_i kt et
      have hm := run_underlying P w t _ hd
      unfold mlenV at hv
      rw [Option.bind_eq_some_iff] at hv
      obtain ⟨kvs, hkv, hv⟩ := hv
      rw [Option.map_eq_some_iff] at hv
      obtain ⟨n, hn, rfl⟩ := hv
      rcases kvs_rel m rx hkv (kvCount_is hn) with ⟨rfl, _, rfl⟩ | ⟨b, ro, es, clock, rfl, rfl, hob, ho, hl, hkk⟩
      · simp [kvCount] at hn
        subst hn
        refine ⟨goInt 0, ?_, .int _ _⟩
        simp [Builtin.len_, h0, hm, Result.andThen]
      · have hg := MapKept.run_getObj_map (P := P) ho
        rw [hkk.count] at hn
        cases hn
        refine ⟨goInt es.size, ?_, ?_⟩
        · simp [Builtin.len_, h0, hm, hg, Result.andThen]
        · have : (es.size : Int) = (es.toList.length : Nat) := by simp
          rw [← this]
          exact .int _ _
theorem mkm_run {t : Nat} : (Instr.makeMap t none).run P w = .ok (.map (some w.heap.size)) (w.evPush (.map #[] 0)) := by
  unfold Instr.makeMap
  simp [Result.andThen, World.evPush]
end
end Ev

/-! Ev, part Pi: what slices.Insert asks: capacities, whether slices overlap, zeros behind a slice that is full. -/
namespace Ev
open Go
section
variable {P : Program} {G : Gh} {h : Heap} {ρ : Rho} {w : World}

def chkCap (P : Program) (ats : Array Nat) : Bool := match ats[0]? with
  | some t => (match P.underlying t with | some (.slice _) => true | _ => false)
  | none => false
theorem cap_run {ats : Array Nat} {ty : Nat} (hc : chkCap P ats = true) {ux : Value} {x v : V} (rx : Rel G ux x) (hv : capV x = some v) :
    ∃ u, (Builtin.cap_ ats ty #[ux]).run P w = .ok u w ∧ Rel G u v := by
  unfold chkCap at hc
  cases ht : ats[0]? with
  | none => simp [ht] at hc
  | some t =>
    cases hd : P.underlying t with
    | none => simp [ht, hd] at hc
    | some d =>
      cases d <;> simp [ht, hd] at hc
      have hu := run_underlying P w t _ hd
      cases x <;> simp [capV] at hv
      subst hv
      cases rx with
      | hc _ _ _ _ _ r lo hi h hh hc2 =>
        exact ⟨.int .i64 _, by simp [Builtin.cap_, ht, hu, goInt], .int _ _⟩

def chkOvl (P : Program) (s g : Nat) : Bool := match P.funcs[g]? with
  | some fn => (fn.body.isNone && !(fn.name == "runtime.NumGoroutine") && fn.origin == "slices.overlaps" && (Extern.allGenericRows.lookup fn.name).isNone && (Extern.allTypedRows.lookup fn.name).isNone && (Extern.allRows.lookup fn.name).isNone &&
      (Extern.allNextRows.lookup fn.name).isNone) && (match fn.params[0]? with
    | some t => (match P.underlying t with | some (.slice el) => sizeIs P el s && decide (0 < s) | _ => false)
    | none => false)
  | none => false
theorem ovl_rows : Extern.allTypedRows.lookup "slices.overlaps" = some Extern.SlicesOverlaps.overlaps := by kernel_rfl
theorem ovl_gen : (Extern.allGenericRows.lookup "slices.overlaps").isNone = true := by kernel_rfl
theorem ovl_next : (Extern.allNextRows.lookup "slices.overlaps").isNone = true := by kernel_rfl
theorem shape_of_cell {r o : Nat} (h : (w.cell? ⟨r, o, none⟩).isSome = true) : ∃ t n, w.shape? r = some (t, n) ∧ 0 < n := by
  unfold World.cell? at h
  simp only at h
  cases hb : w.heap[r]? with
  | none => simp [hb] at h
  | some ob =>
    cases ob <;> simp [hb] at h
    rename_i c t f
    refine ⟨t, c.size, by simp [World.shape?, hb], by omega⟩
theorem ovl_run (m : Mem G h ρ w) {s g : Nat} (hc : chkOvl P s g = true) {ux uy : Value} {x y v : V} (rx : Rel G ux x) (ry : Rel G uy y) (hv : ovlV h s x y = some v) :
    (callFunc g #[ux, uy]).run P w = .ok (.value (.bool false)) w ∧ v = .bool false := by
  unfold chkOvl at hc
  cases hf : P.funcs[g]? with
  | none => simp [hf] at hc
  | some fn =>
    simp only [hf, Bool.and_eq_true, Bool.not_eq_true', beq_iff_eq] at hc
    obtain ⟨⟨⟨⟨⟨⟨⟨c1, c2⟩, c3⟩, c4⟩, c5⟩, c6⟩, c7⟩, c8⟩ := hc
    cases hp : fn.params[0]? with
    | none => simp [hp] at c8
    | some t =>
      cases hd : P.underlying t with
      | none => simp [hp, hd] at c8
      | some d =>
        cases d <;> simp [hp, hd] at c8
        rename_i el
        obtain ⟨c8, c9⟩ := c8
        have hu := run_underlying P w t _ hd
        have hsz := sizeIs_run (w := w) c8
        have hn : Extern.findNext fn = none := by
          simp only [Extern.findNext, c3]
          rw [Option.isNone_iff_eq_none.1 c7, Option.isNone_iff_eq_none.1 ovl_next]
          rfl
        have hfind : Extern.find fn = some (Extern.SlicesOverlaps.overlaps fn.params fn.resultTypes) := by
          simp only [Extern.find, c3]
          rw [Option.isNone_iff_eq_none.1 c4, Option.isNone_iff_eq_none.1 c5, Option.isNone_iff_eq_none.1 c6, Option.isNone_iff_eq_none.1 ovl_gen, ovl_rows]
          rfl
        unfold ovlV at hv
        split at hv
        case h_2 => cases hv
        rename_i s1 x0 xs s2 b off len
        split at hv
        case isFalse => cases hv
        rename_i hcond
        obtain ⟨e1, e2, hrow⟩ := hcond
        subst e1
        subst e2
        cases hv
        refine ⟨?_, rfl⟩
        rw [run_callFunc_extern hf (by simpa using c2) c1 hn hfind]
        have ry' := ry
        cases ry with
        | hs _ _ _ _ cap r2 lo2 hi2 hg hh hcap =>
        obtain ⟨cs, hcs⟩ := Option.isSome_iff_exists.1 hrow
        obtain ⟨r3, lo3, hi3, us2, q1, q2, q3, q4, q5, q6⟩ := blkRow m hcs ⟨_, hg⟩
        rw [hg] at q1
        cases q1
        have hspan : 0 < (len + 1) * s2 := Nat.mul_pos (by omega) c9
        have hle : (len + 1) * s2 ≤ cap * s2 := Nat.mul_le_mul_right _ hcap
        have own := fun o h1 h2 => m.own _ r2 lo2 hi2 q2 o h1 h2
        obtain ⟨ob1, ob2, ob3⟩ := own (lo2 + off) (by omega) (by omega)
        obtain ⟨tb, nb, hsb, hnb⟩ := shape_of_cell ob1
        have hzb := fz_all ob2
        cases rx with
        | ps r1 o1 n cap1 _ xs' u hn' hc' hs' hst hk =>
        have hfl : 0 < (flat (x0 :: xs)).length := by
          rw [flat_length s2 _ hs']
          exact Nat.mul_pos (by simp) c9
        have hst0 := hst 0 hfl
        rw [Nat.add_zero] at hst0
        obtain ⟨ca, _⟩ := m.st r1 o1 _ hst0
        obtain ⟨ta, na, hsa, hna⟩ := shape_of_cell (w := w) (r := r1) (o := o1) (by rw [ca]; rfl)
        have hn0 : n ≠ 0 := by rw [← hn']; simp
        change (Sem.run P (α := Value) (do
          let some t := fn.params[0]? | stuck "slices.overlaps: no parameter types"
          let .slice elem ← underlying t | stuck "slices.overlaps: slice type expected"
          let size ← sizeOf elem
          match (some (⟨r1, o1, none⟩ : Addr) : Option Addr), (some (⟨r2, lo2 + off, none⟩ : Addr) : Option Addr) with
          | some a, some b =>
            if n = 0 ∨ len + 1 = 0 ∨ size = 0 then pure (Value.bool false)
            else if a.block != b.block && (← frozen a) && (← frozen b) then unsupported .addressObserved
            else do
              if a.block != b.block then do
                noView a; noView b
                if ← mayBeOne a b then return Value.bool ((← choose (.extern "sameAddr.stringBytes" 2)) == 1)
              pure (Value.bool (a.block == b.block && a.off < b.off + (len + 1) * size && b.off < a.off + n * size))
          | _, _ => pure (Value.bool false)) w).andThen _ = _
        have h0 : ¬ (n = 0 ∨ len + 1 = 0 ∨ s2 = 0) := by omega
        by_cases hb : r1 = r2
        · subst hb
          have hfar : ¬ (o1 < lo2 + off + (len + 1) * s2 ∧ lo2 + off < o1 + n * s2) := fun ⟨k1, k2⟩ => by
            have hfn : (flat (x0 :: xs)).length = n * s2 := by rw [flat_length s2 _ hs', hn']
            by_cases k3 : o1 ≤ lo2 + off
            · have := hst (lo2 + off - o1) (by omega)
              rw [show o1 + (lo2 + off - o1) = lo2 + off by omega, ob3] at this
              cases this
            · have := (own o1 (by omega) (by omega)).2.2
              rw [hst0] at this
              cases this
          have hd2 : (decide (o1 < lo2 + off + (len + 1) * s2) && decide (lo2 + off < o1 + n * s2)) = false := by
            rw [Bool.and_eq_false_iff]
            by_cases k : o1 < lo2 + off + (len + 1) * s2
            · exact .inr (decide_eq_false fun k2 => hfar ⟨k, k2⟩)
            · exact .inl (decide_eq_false k)
          simp [hp, hu, hsz, h0, hd2, Result.andThen]
        · have hne : (r1 != r2) = true := by simpa using hb
          have hne' : (r1 == r2) = false := by simpa using hb
          cases nb with
          | zero => omega
          | succ nb =>
            cases na with
            | zero => omega
            | succ na =>
              have z1 := hzb (lo2 + off)
              have z2 := hzb (nb + 1)
              have c9' : s2 ≠ 0 := by omega
              cases hA : w.frozen? ⟨r1, o1, none⟩ <;>
                simp [hp, hu, hsz, hn0, c9', hne, hne', frozen, noView, viewAt, mayBeOne, stringish, shape, Sem.run, hsa, hsb, z1, z2, hA, Result.andThen]

def chkAppz (P : Program) (s bytes : Nat) (z : List V) (ats : Array Nat) : Bool :=
  match ats[0]?, ats[1]? with
  | some t, some t' => (match P.underlying t, P.underlying t' with
    | some (.slice el), some (.int _) => sizeIs P el s && (P.info? el).map (·.bytes) == some bytes && (decide (0 < bytes) && decide (0 < s)) && (zeroCellsIs P el z && z.all V.one)
    | _, _ => false)
  | _, _ => false
theorem appz_run (m : Mem G h ρ w) {s bytes ty : Nat} {z : List V} {ats : Array Nat} (hc : chkAppz P s bytes z ats = true) {ux uk : Value} {x k v : V} {h' : Heap} (rx : Rel G ux x) (rk : Rel G uk k) (hv : appZ h s bytes z x k = some (v, h')) :
    ∃ u w' G' ρ', (Builtin.append_ ats ty #[ux, uk]).run P w = .ok u w' ∧ Mem G' h' ρ' w' ∧ Fr G ρ w G' ρ' w' ∧ Rel G' u v ∧ (∀ s c, ρ' (.key s c) = ρ (.key s c)) := by
  unfold chkAppz at hc
  cases ht : ats[0]? with
  | none => simp [ht] at hc
  | some t =>
    cases ht' : ats[1]? with
    | none => simp [ht, ht'] at hc
    | some t' =>
      simp only [ht, ht'] at hc
      cases hd : P.underlying t with
      | none => simp [hd] at hc
      | some d =>
        cases hd' : P.underlying t' with
        | none => cases d <;> simp [hd, hd'] at hc
        | some d' =>
          cases d <;> cases d' <;> simp only [hd, hd'] at hc <;> try (cases hc; done)
          rename_i el kt
          simp only [Bool.and_eq_true, decide_eq_true_eq] at hc
          obtain ⟨⟨⟨c2, c3⟩, ⟨c4, c5⟩⟩, c6, c7⟩ := hc
          have hu := run_underlying P w t _ hd
          have hu' := run_underlying P w t' _ hd'
          obtain ⟨ti, hti, hsz⟩ := sizeIs_iff c2
          have hby : ti.bytes = bytes := by simpa [hti] using c3
          have hinfo : ∀ w, (typeInfo el).run P w = .ok ti w := fun w => by simp [typeInfo, hti]
          have hsize : ∀ w, (Go.sizeOf el).run P w = .ok s w := fun w => by rw [run_sizeOf P w el ti hti, hsz]
          unfold appZ at hv
          split at hv
          case h_2 => cases hv
          rename_i s' b off len cap j
          split at hv
          case isFalse => cases hv
          rename_i hcond
          obtain ⟨e1, hzl, hj0, hgr, hb⟩ := hcond
          subst e1
          simp only [Option.bind_eq_some_iff] at hv
          obtain ⟨old, hold, hv⟩ := hv
          cases hv
          have rk := rel_int rk
          subst rk
          cases rx with
          | hc _ _ _ _ _ r lo hi hg hh hcap =>
          have r' : Rel G (.slice (some ⟨r, lo + off, none⟩) len cap) (.hs s b off len) := .hs s b off len cap r lo hi hg hh hcap
          obtain ⟨n, _, hlen, _, _, hl, hfull⟩ := new_run (P := P) m r' (show newCells h s (.hs s b off len) = some old by simp [newCells, hold])
          have hn : n = len := by simp [Builtin.lenOf] at hlen; exact hlen.symm
          subst hn
          obtain ⟨ous, hou, hor, ho1⟩ := hfull n (Nat.le_refl _)
          rw [← hl, List.take_length] at hor
          have hol : ous.size = n * s := by have := hor.1; simp at this; omega
          obtain ⟨N, hN⟩ : ∃ N : Nat, j = N := ⟨j.toNat, by omega⟩
          subst hN
          simp only [Int.toNat_natCast] at hgr hb ⊢
          have hN0 : 0 < N := by omega
          obtain ⟨zu, hzu, hzz⟩ : ∃ zu, ti.zero = some zu ∧ Rels G zu.cells.toList z := by
            unfold zeroCellsIs at c6
            cases hz : ti.zero with
            | none => simp [hti, hz] at c6
            | some zu => exact ⟨zu, rfl, cOks_rel G _ _ (by simpa [hti, hz] using c6)⟩
          have hzw : ∀ w', (zeroValue el).run P w' = .ok zu w' := fun w' => by simp [zeroValue, typeInfo, hti, hzu]
          have hzs : zu.cells.size = s := by have := hzz.1; simp at this; omega
          have hNb : N ≤ 140737488355328 := by
            have : n + N ≤ (n + N) * bytes := Nat.le_mul_of_pos_right _ c4
            omega
          have hNbb : N * bytes ≤ 140737488355328 := Nat.le_trans (Nat.mul_le_mul_right _ (by omega)) hb
          have hwr : IntKind.i64.wrap (N : Int) = N := by simp [IntKind.wrap, IntKind.bits, IntKind.signed]; omega
          have hcp := nextslicecap_le (need := n + N) (old := cap)
          have e3 : ¬ Builtin.nextslicecap (n + N) cap * bytes > 2 ^ 48 := by
            have hb2 : Builtin.nextslicecap (n + N) cap * bytes ≤ 281474976710656 := by
              calc _ ≤ (2 * (n + N)) * bytes := Nat.mul_le_mul_right _ (hcp (by omega))
                _ = 2 * ((n + N) * bytes) := by rw [Nat.mul_assoc]
                _ ≤ _ := by omega
            omega
          have hns : ¬ N * s = 0 := Nat.mul_ne_zero (by omega) (by omega)
          have hle : ¬ n + N ≤ cap := by omega
          have e0 : ¬ ((N : Int) < 0) := by omega
          have e2 : ¬ ((N : Int) * (bytes : Int) > 2 ^ 48) := by
            rw [← Int.natCast_mul]
            have : ((N * bytes : Nat) : Int) ≤ 140737488355328 := by omega
            omega
          have e1 : ¬ (((n + N : Nat) : Int) > IntKind.i64.max ∧ (True ∨ bytes = 0)) := by
            have : IntKind.i64.max = 9223372036854775807 := by decide
            rw [this]
            have : n + N ≤ (n + N) * bytes := Nat.le_mul_of_pos_right _ c4
            omega
          obtain ⟨w1, hw1⟩ : ∃ w1 : World, w1 = { w with drawn := w.drawn + 1 } := ⟨_, rfl⟩
          obtain ⟨cap', hcap'⟩ : ∃ cap', cap' = Question.cut (.appendCap (n + N) cap el) (w.tape w.drawn (.appendCap (n + N) cap el)) := ⟨_, rfl⟩
          have hcl : n + N ≤ cap' := by rw [hcap']; simp [Question.cut]
          have hou' := hou w1 (by rw [hw1])
          have hrun : (Builtin.append_ ats ty #[.slice (some ⟨r, lo + off, none⟩) n cap, .int .i64 (N : Int)]).run P w = .ok (.slice (some ⟨w.heap.size, 0, none⟩) (n + N) cap') (w1.evPush (.cells (ous ++ Builtin.zeroCells zu.cells N ++ Builtin.zeroCells zu.cells (cap' - (n + N))) el)) := by
            unfold Builtin.append_
            simp only [ht, ht', pure_bind, Sem.run_bind, hu, hu', Result.andThen_ok, hsize, hinfo, Sem.run_pure, List.getElem?_toArray, List.getElem?_cons_zero, List.getElem?_cons_succ]
            simp only [if_true, Sem.run_bind, asInt, asIntOf, pure_bind, hwr, Result.andThen_ok, Sem.run_pure]
            rw [if_neg e0]
            simp only [Sem.run_bind, hinfo, hby, Result.andThen_ok]
            rw [if_neg e2]
            simp only [Sem.run_bind, Sem.run_pure, Result.andThen_ok, Int.toNat_natCast]
            rw [if_neg hle]
            simp only [Sem.run_bind, hinfo, hby, Result.andThen_ok]
            rw [if_neg e1]
            simp only [Sem.run_bind, Sem.run_pure, hinfo, hby, Result.andThen_ok]
            rw [if_neg e3]
            simp only [Sem.run_bind, Sem.run_pure, Result.andThen_ok, run_choose, Question.forced, Bool.false_eq_true, if_false, hinfo, run_askRoom, Bool.not_true, if_true, hzw, run_newRow]
            rw [← hcap']
            have hdr : w.drew = w1 := by rw [hw1]; rfl
            simp only [hdr, ← hw1]
            rw [hou']
            simp only [Result.andThen_ok]
            rw [if_neg hns]
            simp only [Sem.run_bind, Result.andThen_ok, hzw, Sem.run_pure, run_newRow]
            rw [hw1]
          have hnz : (Builtin.zeroCells zu.cells N).size = N * s := by simp [Builtin.zeroCells, hzs]
          have hrz : (Builtin.zeroCells zu.cells (cap' - (n + N))).size = (cap' - (n + N)) * s := by simp [Builtin.zeroCells, hzs]
          have hzr := zeroCells_rel hzz (by omega) N
          have hz1 := one_of_rels hzr (repZ_one N z c7 (by omega))
          have hrep : (repZ N z).length = N * s := by rw [repZ_len, hzl]
          have m1 : Mem G h ρ w1 := by rw [hw1]; exact m.drew (w.drawn + 1)
          have hcs : (ous ++ Builtin.zeroCells zu.cells N ++ Builtin.zeroCells zu.cells (cap' - (n + N))).size = cap' * s := by
            simp only [Array.size_append, hol, hnz, hrz]
            rw [← Nat.add_mul, ← Nat.add_mul]
            congr 1; omega
          have htake : (ous ++ Builtin.zeroCells zu.cells N ++ Builtin.zeroCells zu.cells (cap' - (n + N))).toList.take (old ++ repZ N z).length = ous.toList ++ (Builtin.zeroCells zu.cells N).toList := by
            have e : (old ++ repZ N z).length = (ous.toList ++ (Builtin.zeroCells zu.cells N).toList).length := by simp [hl, hrep, hol, hnz]
            rw [e, Array.toList_append, Array.toList_append, List.take_left']
            rfl
          obtain ⟨m2, f2⟩ := m1.push_blk (ous ++ Builtin.zeroCells zu.cells N ++ Builtin.zeroCells zu.cells (cap' - (n + N))) el (old ++ repZ N z) (by
            rw [hcs]
            have : (old ++ repZ N z).length = (n + N) * s := by simp [hl, hrep, Nat.add_mul]
            rw [this]
            exact Nat.mul_le_mul_right _ hcl) (by rw [htake]; exact hor.append hzr) (by
            rw [htake]
            intro u hu
            exact (List.mem_append.1 hu).elim (ho1 u) (hz1 u))
          refine ⟨_, _, _, _, hrun, m2, ?_, ?_, fun s c => by simp [Rho.set]⟩
          · have : Fr G ρ w G ρ w1 := by rw [hw1]; exact Fr.drew G ρ w _
            exact this.trans f2
          · have hw1s : w1.heap.size = w.heap.size := by rw [hw1]
            have := Rel.hs (G := G.addReg h.length (w1.heap.size, 0, (ous ++ Builtin.zeroCells zu.cells N ++ Builtin.zeroCells zu.cells (cap' - (n + N))).size)) s h.length 0 (n + N) cap' w1.heap.size 0 (ous ++ Builtin.zeroCells zu.cells N ++ Builtin.zeroCells zu.cells (cap' - (n + N))).size (by simp [Gh.addReg]) (by rw [hcs]; omega) hcl
            rw [hw1s] at this
            simpa [hw1s] using this
end
end Ev
