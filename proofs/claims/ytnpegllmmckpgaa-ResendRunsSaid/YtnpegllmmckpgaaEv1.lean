/- The evaluator of abstract code, Ev1: operations that leave the memory alone are computed rightly. No condition of its own: each theorem states its own. -/
import Derived.Test.YtnpegllmmckpgaaEv0
import Derived.Laws.IdiomCopy
import Derived.Laws.Cells
import Derived.Lib.Strings
import Derived.Laws.BytesString
import Derived.RowKit
set_option linter.all false
/-! Ev, part D: the model's reading operations. -/
namespace Ev
open Go

theorem addr_add (r o n : Nat) : (⟨r, o, none⟩ : Addr).add n = ⟨r, o + n, none⟩ := by
  unfold Addr.add; split <;> simp_all

/-- The cells from an address on. -/
def At (w : World) (r o : Nat) (us : List Value) : Prop := ∀ j v, us[j]? = some v → w.cell? ⟨r, o + j, none⟩ = some v

theorem At.drop {w : World} {r o : Nat} {us : List Value} (h : At w r o us) (n : Nat) : At w r (o + n) (us.drop n) := fun j v hv => by
  rw [List.getElem?_drop] at hv
  have := h _ _ hv
  rwa [← Nat.add_assoc] at this
theorem At.take {w : World} {r o : Nat} {us : List Value} (h : At w r o us) (n : Nat) : At w r o (us.take n) := fun j v hv => by
  rw [List.getElem?_take] at hv
  split at hv
  · exact h j v hv
  · cases hv

theorem Rels.ofFun {G : Gh} (u : Nat → Value) (cs : List V) (k : ∀ j (hj : j < cs.length), Rel G (u j) cs[j]) : Rels G ((List.range cs.length).map u) cs :=
  ⟨by simp, fun j a b => by simpa using k j b⟩

theorem Mem.rp {G : Gh} {h : Heap} {ρ : Rho} {w : World} (m : Mem G h ρ w) {rv : Value} {cs : List V} (hr : Rel G rv (.rp cs)) :
    ∃ r o us, rv = .pointer (some ⟨r, o, none⟩) ∧ Rels G us cs ∧ At w r o us := by
  cases hr with
  | rp r o cs u h k =>
    refine ⟨r, o, _, rfl, Rels.ofFun u cs k, fun j v hv => ?_⟩
    rw [List.getElem?_map] at hv
    rcases Nat.lt_or_ge j cs.length with hj | hj
    · rw [List.getElem?_range hj] at hv
      simp at hv
      subst hv
      exact (m.st _ _ _ (h j hj)).1
    · rw [List.getElem?_eq_none (by simpa using hj)] at hv
      cases hv

theorem Mem.noOb {G : Gh} {h : Heap} {ρ : Rho} {w : World} (m : Mem G h ρ w) {b : Nat} {x : Reg} (hx : G.reg b = some x) : G.ob b = none := by
  cases e : G.ob b with
  | none => rfl
  | some r => have := (m.obs b r e).2.1; rw [hx] at this; cases this
theorem regOf_hs {G : Gh} {u : Value} {s b off len : Nat} (hr : Rel G u (.hs s b off len)) : ∃ x, G.reg b = some x := by cases hr; exact ⟨_, by assumption⟩
theorem regOf_ptr {G : Gh} {u : Value} {b off : Nat} (hr : Rel G u (.ptr b off)) : ∃ x, G.reg b = some x := by cases hr; exact ⟨_, by assumption⟩
theorem blkRow {G : Gh} {h : Heap} {ρ : Rho} {w : World} (m : Mem G h ρ w) {b : Nat} {cs : List V} (hb : h.row b = some cs) (hx : ∃ x, G.reg b = some x) :
    ∃ r lo hi us, G.reg b = some (r, lo, hi) ∧ ρ (.blk b) = some (r, lo, hi) ∧ lo + cs.length ≤ hi ∧ Rels G us cs ∧ At w r lo us ∧ ∀ u ∈ us, u.oneCell' = true := by
  have hb' : h[b]? = some (some cs) := by
    unfold Heap.row at hb
    cases hh : h[b]? with
    | none => simp [hh] at hb
    | some x => cases x <;> simp_all
  obtain ⟨x, hx⟩ := hx
  obtain ⟨r, lo, hi, h1, h2, h3, h4⟩ := m.blk b cs hb' (m.noOb hx)
  have h5 : ∀ j, ∃ v, ∀ hj : j < cs.length, w.cell? ⟨r, lo + j, none⟩ = some v ∧ Rel G v cs[j] ∧ v.oneCell' = true := fun j => by
    rcases Nat.lt_or_ge j cs.length with hj | hj
    · obtain ⟨v, hv⟩ := h4 j hj
      exact ⟨v, fun _ => hv⟩
    · exact ⟨undef, fun c => absurd c (by omega)⟩
  refine ⟨r, lo, hi, (List.range cs.length).map fun j => (h5 j).choose, h1, h2, h3, Rels.ofFun _ cs fun j hj => ((h5 j).choose_spec hj).2.1, fun j v hv => ?_, fun u hu => ?_⟩
  case refine_2 =>
    obtain ⟨j, hj, rfl⟩ := List.mem_map.1 hu
    exact ((h5 j).choose_spec (List.mem_range.1 hj)).2.2
  rw [List.getElem?_map] at hv
  rcases Nat.lt_or_ge j cs.length with hj | hj
  · rw [List.getElem?_range hj] at hv
    simp at hv
    subst hv
    exact ((h5 j).choose_spec hj).1
  · rw [List.getElem?_eq_none (by simpa using hj)] at hv
    cases hv

theorem Mem.ptr {G : Gh} {h : Heap} {ρ : Rho} {w : World} (m : Mem G h ρ w) {rv : Value} {b off : Nat} {cs : List V} (hr : Rel G rv (.ptr b off)) (hb : h.row b = some cs) :
    ∃ r o us, rv = .pointer (some ⟨r, o + off, none⟩) ∧ Rels G us (cs.drop off) ∧ At w r (o + off) us := by
  obtain ⟨r, lo, hi, us, h1, _, _, h4, h5, _⟩ := blkRow m hb (by cases hr; exact ⟨_, by assumption⟩)
  cases hr with
  | ptr b off r' lo' hi' h =>
    rw [h1] at h
    cases h
    exact ⟨r, lo, us.drop off, rfl, h4.drop off, h5.drop off⟩

/-- The cells of a plain slice. -/
theorem Mem.ps {G : Gh} {h : Heap} {ρ : Rho} {w : World} (m : Mem G h ρ w) {r o n cap s : Nat} {xs : List V} (hr : Rel G (.slice (some ⟨r, o, none⟩) n cap) (.ps s xs)) :
    ∃ us, Rels G us (flat xs) ∧ At w r o us ∧ ∀ u ∈ us, u.oneCell' = true := by
  cases hr with
  | ps0 s p => exact ⟨[], by simpa [flat] using Rels.nil, fun j v hv => by simp at hv, by simp⟩
  | ps r o n cap s xs u hn hc hs h k =>
    refine ⟨_, Rels.ofFun u (flat xs) k, fun j v hv => ?_, fun y hy => ?_⟩
    case refine_2 =>
      obtain ⟨j, hj, rfl⟩ := List.mem_map.1 hy
      exact (m.st _ _ _ (h j (List.mem_range.1 hj))).2
    rw [List.getElem?_map] at hv
    rcases Nat.lt_or_ge j (flat xs).length with hj | hj
    · rw [List.getElem?_range hj] at hv
      simp at hv
      subst hv
      exact (m.st _ _ _ (h j hj)).1
    · rw [List.getElem?_eq_none (by simpa using hj)] at hv
      cases hv

theorem Mem.hs {G : Gh} {h : Heap} {ρ : Rho} {w : World} (m : Mem G h ρ w) {rv : Value} {s b off len : Nat} {cs : List V} (hr : Rel G rv (.hs s b off len)) (hb : hsCells h s b off len = some cs) :
    ∃ r o cap us, rv = .slice (some ⟨r, o + off, none⟩) len cap ∧ Rels G us cs ∧ At w r (o + off) us ∧ len ≤ cap ∧ ∀ u ∈ us, u.oneCell' = true := by
  unfold hsCells at hb
  cases hrow : h.row b with
  | none => simp [hrow] at hb
  | some row =>
    simp only [hrow, Option.bind_some] at hb
    split at hb
    · cases hb
      obtain ⟨r, lo, hi, us, h1, _, _, h4, h5, h6⟩ := blkRow m hrow (by cases hr; exact ⟨_, by assumption⟩)
      cases hr with
      | hs s b off len cap r' lo' hi' h hh hc =>
        rw [h1] at h
        cases h
        exact ⟨r, lo, cap, (us.drop off).take (len * s), rfl, (h4.drop off).take _, (h5.drop off).take _, hc, fun u hu => h6 u (List.mem_of_mem_drop (List.mem_of_mem_take hu))⟩
    · cases hb

def ldOk (P : Program) (t sz : Nat) : Bool :=
  match P.underlying t with
  | some (.struct _) | some (.array _ _) => decide (0 < sz) && ((P.info? t).map (·.size)) == some sz
  | some _ => sz == 0
  | none => false

def aggD : TypeDesc → Bool
  | .struct _ | .array _ _ => true
  | _ => false
theorem run_isAgg (P : Program) (w : World) (t : Nat) (d : TypeDesc) (h : P.underlying t = some d) :
    (isAgg t).run P w = .ok (aggD d) w := by
  simp only [isAgg, underlying, Sem.run_bind, run_program, Result.andThen_ok, h, Sem.run_pure]
  cases d <;> rfl
theorem run_sizeOf (P : Program) (w : World) (t : Nat) (i : TypeInfo) (h : P.info? t = some i) : (Go.sizeOf t).run P w = .ok i.size w := by
  simp [Go.sizeOf, typeInfo, h]
theorem run_underlying (P : Program) (w : World) (t : Nat) (d : TypeDesc) (h : P.underlying t = some d) : (underlying t).run P w = .ok d w := by
  simp [underlying, h]

/-- What a load yields: one cell, or an aggregate. -/
theorem load_run {P : Program} {w : World} {G : Gh} {t sz r o : Nat} {us : List Value} {cs : List V} {v : V} (hT : ldOk P t sz = true) (hu : Rels G us cs) (ha : At w r o us)
    (hp : partV 0 sz cs = some v) : ∃ rv, (Instr.loadAt t (.pointer (some ⟨r, o, none⟩))).run P w = .ok rv w ∧ Rel G rv v := by
  unfold ldOk at hT
  cases hd : P.underlying t with
  | none => simp [hd] at hT
  | some d =>
    simp only [hd] at hT
    have hagg := run_isAgg P w t d hd
    have agg : (0 < sz ∧ (P.info? t).map (·.size) = some sz) → (isAgg t).run P w = .ok true w → ∃ rv, (Instr.loadAt t (.pointer (some ⟨r, o, none⟩))).run P w = .ok rv w ∧ Rel G rv v := by
      rintro ⟨h0, hsz⟩ hag
      obtain ⟨i, hi, rfl⟩ : ∃ i, P.info? t = some i ∧ i.size = sz := by
        cases hi : P.info? t with
        | none => simp [hi] at hsz
        | some i => exact ⟨i, rfl, by simpa [hi] using hsz⟩
      have hne : ¬ i.size = 0 := by omega
      unfold partV at hp
      rw [if_neg hne] at hp
      simp only [Nat.zero_add, List.drop_zero] at hp
      split at hp
      · rename_i hle
        cases hp
        have hl : (us.take i.size).length = i.size := by rw [List.length_take, hu.1]; omega
        have hrun := run_loadCells_list (P := P) w ⟨r, o, none⟩ (us.take i.size) (fun j v hv => by rw [addr_add]; exact ha.take _ j v hv)
        rw [hl] at hrun
        refine ⟨.agg (us.take i.size).toArray, ?_, Rels.toAgg (by simpa using hu.take i.size)⟩
        simp [Instr.loadAt, Instr.sureAddr, loadVar, hag, run_sizeOf P w t i hi, hrun]
      · cases hp
    have sc : sz = 0 → (isAgg t).run P w = .ok false w → ∃ rv, (Instr.loadAt t (.pointer (some ⟨r, o, none⟩))).run P w = .ok rv w ∧ Rel G rv v := by
      rintro rfl hag
      unfold partV at hp
      rw [if_pos rfl] at hp
      have hlt : 0 < cs.length := by
        rcases Nat.eq_zero_or_pos cs.length with h | h
        · simp [List.length_eq_zero_iff.1 h] at hp
        · exact h
      have hlt' : 0 < us.length := by rw [hu.1]; exact hlt
      have hc := ha 0 us[0] (by simp [hlt'])
      rw [List.getElem?_eq_getElem hlt] at hp
      cases hp
      refine ⟨us[0], ?_, hu.2 0 hlt' hlt⟩
      simp only [Nat.add_zero] at hc
      simp [Instr.loadAt, Instr.sureAddr, loadVar, hag, hc]
    cases d with
    | struct fs => exact agg (by simpa using hT) hagg
    | array n e => exact agg (by simpa using hT) hagg
    | _ => exact sc (by simpa using hT) hagg

theorem load_sound {P : Program} {G : Gh} {h : Heap} {ρ : Rho} {w : World} (m : Mem G h ρ w) {t sz : Nat} (hT : ldOk P t sz = true) {rv : Value} {x v : V} (hr : Rel G rv x)
    (hv : loadV h sz x = some v) : ∃ u, (Instr.loadAt t rv).run P w = .ok u w ∧ Rel G u v := by
  unfold loadV at hv
  cases x with
  | rp cs =>
    obtain ⟨r, o, us, rfl, h1, h2⟩ := m.rp hr
    exact load_run hT h1 h2 hv
  | ptr b off =>
    simp only at hv
    cases hrow : h.row b with
    | none => simp [hrow] at hv
    | some cs =>
      simp only [hrow, Option.bind_some] at hv
      obtain ⟨r, o, us, rfl, h1, h2⟩ := m.ptr hr hrow
      refine load_run hT h1 h2 ?_
      unfold partV at hv ⊢
      split
      · rename_i h0
        rw [if_pos h0] at hv
        simpa using hv
      · rename_i h0
        rw [if_neg h0] at hv
        split at hv
        · rename_i hle
          cases hv
          rw [if_pos (by simp; omega)]
          simp
        · cases hv
  | _ => cases hv

end Ev

/-! Ev, part E: the operations that turn no memory. -/
namespace Ev
open Go

/-! ### Constants and operands -/
mutual
def cOk : V → Value → Bool
  | .bool b, .bool b' => b == b'
  | .int k n, .int k' n' => k == k' && n == n'
  | .str l, .string s => s.data.toList == l
  | .nilp, .pointer none => true
  | .ps _ [], .slice none 0 0 => true
  | .hn _, .slice none 0 0 => true
  | .nili, .nilIface => true
  | .nilf, .nilFunc => true
  | .mpn, .map none => true
  | .fn f [], .func (.func g) first cap => f == g && first.size == 0 && cap.size == 0
  | .agg cs, .agg us => cOks cs us.toList
  | .tup cs, .tuple us => cOks cs us.toList
  | .iface t v, .iface t' u => t == t' && cOk v u
  | _, _ => false
def cOks : List V → List Value → Bool
  | [], [] => true
  | v :: vs, u :: us => cOk v u && cOks vs us
  | _, _ => false
end

mutual
theorem cOk_rel (G : Gh) : ∀ (v : V) (u : Value), cOk v u = true → Rel G u v
  | .bool b, u, h => by cases u <;> simp [cOk] at h; subst h; exact .bool _
  | .int k n, u, h => by cases u <;> simp [cOk] at h; obtain ⟨rfl, rfl⟩ := h; exact .int _ _
  | .str l, u, h => by cases u <;> simp [cOk] at h; exact .str _ _ (by simpa using h)
  | .nilp, u, h => by
    cases u <;> try (simp [cOk] at h; done)
    rename_i a; cases a with
    | none => exact .nilp
    | some a => simp [cOk] at h
  | .ps s xs, u, h => by
    cases xs with
    | nil =>
      cases u <;> try (simp [cOk] at h; done)
      rename_i a n c
      cases a with
      | some a => simp [cOk] at h
      | none =>
        cases n with
        | succ n => simp [cOk] at h
        | zero => cases c with
          | succ c => simp [cOk] at h
          | zero => exact .ps0 _ _
    | cons x xs => cases u <;> simp [cOk] at h
  | .hn s, u, h => by
    cases u <;> try (simp [cOk] at h; done)
    rename_i a n c
    cases a with
    | some a => simp [cOk] at h
    | none =>
      cases n with
      | succ n => simp [cOk] at h
      | zero => cases c with
        | succ c => simp [cOk] at h
        | zero => exact .hn _ _
  | .nili, u, h => by cases u <;> simp [cOk] at h; exact .nili
  | .nilf, u, h => by cases u <;> simp [cOk] at h; exact .nilf
  | .mpn, u, h => by
    cases u <;> try (simp [cOk] at h; done)
    rename_i a; cases a with
    | none => exact .mpn
    | some a => simp [cOk] at h
  | .fn f cap, u, h => by
    cases cap with
    | cons x xs => cases u <;> simp [cOk] at h
    | nil =>
      cases u <;> try (simp [cOk] at h; done)
      rename_i fn first cap
      cases fn <;> simp [cOk] at h
      obtain ⟨⟨rfl, h1⟩, h2⟩ := h
      subst h1
      subst h2
      exact .fn _ _ _ rfl (by simp)
  | .agg cs, u, h => by
    cases u <;> try (simp [cOk] at h; done)
    exact Rels.toAgg (cOks_rel G _ _ (by simpa [cOk] using h))
  | .tup cs, u, h => by
    cases u <;> try (simp [cOk] at h; done)
    exact Rels.toTup (cOks_rel G _ _ (by simpa [cOk] using h))
  | .iface t v, u, h => by
    cases u <;> try (simp [cOk] at h; done)
    simp [cOk] at h
    obtain ⟨rfl, h⟩ := h
    exact .iface _ _ _ (cOk_rel G v _ h)
  | .ptr b o, u, h => by cases u <;> simp [cOk] at h
  | .rp cs, u, h => by cases u <;> simp [cOk] at h
  | .hs a b c d, u, h => by cases u <;> simp [cOk] at h
  | .hc a b c d e, u, h => by cases u <;> simp [cOk] at h
theorem cOks_rel (G : Gh) : ∀ (vs : List V) (us : List Value), cOks vs us = true → Rels G us vs
  | [], [], _ => .nil
  | [], _ :: _, h => by simp [cOks] at h
  | _ :: _, [], h => by simp [cOks] at h
  | v :: vs, u :: us, h => by
    simp [cOks] at h
    exact .cons (cOk_rel G v u h.1) (cOks_rel G vs us h.2)
end

def chkA : A → Operand → Bool
  | .t i, .tmp j => i == j
  | .c v, .const u => cOk v u
  | .c (.fn f []), .func g => f == g
  | .g n, .global m => n == m
  | _, _ => false

structure EnvRel (G : Gh) (tm : Array Value) (e : Env) : Prop where
  get : ∀ i v, e.get i = some v → Rel G (tm.getD i undef) v
  gl : GlOk G
instance {G : Gh} {tm : Array Value} {e : Env} : CoeFun (EnvRel G tm e) fun _ => ∀ i v, e.get i = some v → Rel G (tm.getD i undef) v := ⟨EnvRel.get⟩

theorem EnvRel.mono {G G' : Gh} (hG : G.le G') {tm : Array Value} {e : Env} (h : EnvRel G tm e) : EnvRel G' tm e := ⟨fun i v hv => (h i v hv).mono hG, h.gl.mono hG⟩

theorem A_rel {G : Gh} {a : Act} {e : Env} (he : EnvRel G a.tmps e) {x : A} {y : Operand} (hc : chkA x y = true) {v : V} (hv : x.ev e = some v) : Rel G (a.eval y) v := by
  cases x with
  | t i =>
    cases y <;> simp [chkA] at hc
    subst hc
    exact he _ _ hv
  | c u =>
    simp at hv
    subst hv
    cases y with
    | const u' => exact cOk_rel G _ _ (show cOk u u' = true by cases u <;> exact hc)
    | func g =>
      cases u <;> try (simp [chkA] at hc; done)
      rename_i f cap
      cases cap <;> simp [chkA] at hc
      subst hc
      exact .fn _ _ _ rfl (by simp)
    | _ => cases u <;> simp [chkA] at hc
  | g n =>
    cases y <;> simp [chkA] at hc
    subst hc
    simp only [A.ev, Option.map_eq_some_iff] at hv
    obtain ⟨cs, h1, rfl⟩ := hv
    exact he.gl _ (gl_mem h1)

def chkAs : List A → List Operand → Bool
  | [], [] => true
  | x :: xs, y :: ys => chkA x y && chkAs xs ys
  | _, _ => false

theorem As_rel {G : Gh} {a : Act} {e : Env} (he : EnvRel G a.tmps e) : ∀ (xs : List A) (ys : List Operand), chkAs xs ys = true → ∀ vs, A.evs e xs = some vs → Rels G (ys.map a.eval) vs
  | [], [], _, vs, h => by simp at h; subst h; exact .nil
  | [], _ :: _, h, _, _ => by simp [chkAs] at h
  | _ :: _, [], h, _, _ => by simp [chkAs] at h
  | x :: xs, y :: ys, h, vs, hv => by
    simp [chkAs] at h
    simp only [A.evs, Option.bind_eq_some_iff] at hv
    obtain ⟨v, h1, vs', h2, h3⟩ := hv
    cases h3
    exact .cons (A_rel he h.1 h1) (As_rel he xs ys h.2 _ h2)

/-! ### Numbers, strings, comparisons -/
theorem rel_str {G : Gh} {u : Value} {l : List UInt8} (h : Rel G u (.str l)) : ∃ s : ByteArray, u = .string s ∧ s.data.toList = l := by
  cases h with | str s l h => exact ⟨s, rfl, h⟩
theorem rel_int {G : Gh} {u : Value} {k : IntKind} {n : Int} (h : Rel G u (.int k n)) : u = .int k n := by cases h; rfl
theorem rel_bool {G : Gh} {u : Value} {b : Bool} (h : Rel G u (.bool b)) : u = .bool b := by cases h; rfl

theorem intOp_run {P : Program} {w : World} {t : Nat} {op : BinOp} {k : IntKind} {a b : Int} {v : V} (h : intOp op k a b = some v) (G : Gh) :
    ∃ u, (binOp op t (.int k a) (.int k b)).run P w = .ok u w ∧ Rel G u v := by
  cases op <;> simp only [intOp] at h
  case quo =>
    split at h
    · cases h
    · rename_i hb; cases h; exact ⟨_, by simp [binOp, Op.intDiv, hb], .int _ _⟩
  case rem =>
    split at h
    · cases h
    · rename_i hb; cases h; exact ⟨_, by simp [binOp, Op.intDiv, hb], .int _ _⟩
  case shl => cases h
  case shr => cases h
  case eql => cases h
  case neq => cases h
  all_goals
    cases h
    first
      | (refine ⟨.int k _, ?_, .int _ _⟩; simp [binOp, Op.intArith]; done)
      | (refine ⟨.int k _, ?_, .int _ _⟩; simp only [binOp, ne_eq, not_true_eq_false, if_false]; rfl)
      | (refine ⟨.bool _, ?_, .bool _⟩; simp [binOp, Op.intCmp]; done)

theorem strCmp_run {P : Program} {w : World} {t : Nat} {op : BinOp} {a b : ByteArray} {v : V} (h : strCmp op a.data.toList b.data.toList = some v) (G : Gh) :
    ∃ u, (binOp op t (.string a) (.string b)).run P w = .ok u w ∧ Rel G u v := by
  have ha := ByteArray.toList_eq a
  have hb := ByteArray.toList_eq b
  cases op <;> simp only [strCmp] at h
  case add =>
    split at h
    · rename_i hle
      cases h
      have hs : ¬ (((a.size + b.size : Nat) : Int) > IntKind.i64.max) := by
        have e1 : a.data.toList.length = a.size := by simp
        have e2 : b.data.toList.length = b.size := by simp
        have : IntKind.i64.max = 9223372036854775807 := by rfl
        omega
      refine ⟨_, by simp [binOp, Op.stringOp]; rw [if_neg (by simpa using hs)], .str _ _ (by simp)⟩
    · cases h
  all_goals first
    | (cases h; done)
    | (cases h; exact ⟨_, by simp [binOp, Op.stringOp, ha, hb], .bool _⟩)

/-! Equality, by the type's shape. -/
mutual
def chkEq (P : Program) : EqK → Nat → Bool
  | q, t => match q, P.underlying t with
    | .bool, some .bool => true
    | .int, some (.int _) => true
    | .str, some .string => true
    | .agg fs, some (.struct fields) => !P.stoodInHeld t && chkFs P fs fields.toList
    | .agg fs, some (.array k e) => (P.info? e).isSome && chkAr P fs e k 0
    | _, _ => false
def chkFs (P : Program) : EqFs → List Field → Bool
  | .nil, [] => true
  | .cons off sz q qs, f :: r => f.name != "_" && f.offset == off && ldOk P f.type sz && chkEq P q f.type && chkFs P qs r
  | _, _ => false
def chkAr (P : Program) : EqFs → Nat → Nat → Nat → Bool
  | .nil, _, 0, _ => true
  | .cons off sz q qs, e, k + 1, i => (P.info? e).map (i * ·.size) == some off && ldOk P e sz && chkEq P q e && chkAr P qs e k (i + 1)
  | _, _, _, _ => false
end
mutual
def EqK.depth : EqK → Nat
  | .agg fs => fs.depth + 1
  | _ => 0
def EqFs.depth : EqFs → Nat
  | .nil => 0
  | .cons _ _ q r => max q.depth r.depth
end
end Ev

/-! Ev, part F: equality; the operations that turn no memory, one by one. -/
namespace Ev
open Go

theorem part_run {P : Program} {w : World} {G : Gh} {t off sz : Nat} {us : Array Value} {cs : List V} {v : V} (hT : ldOk P t sz = true) (hu : Rels G us.toList cs)
    (hp : partV off sz cs = some v) : ∃ rv, (part t us off).run P w = .ok rv w ∧ Rel G rv v := by
  unfold ldOk at hT
  cases hd : P.underlying t with
  | none => simp [hd] at hT
  | some d =>
    simp only [hd] at hT
    have hagg := run_isAgg P w t d hd
    have hl : us.size = cs.length := by simpa using hu.1
    have agg : (0 < sz ∧ (P.info? t).map (·.size) = some sz) → (isAgg t).run P w = .ok true w → ∃ rv, (part t us off).run P w = .ok rv w ∧ Rel G rv v := by
      rintro ⟨h0, hsz⟩ hag
      obtain ⟨i, hi, rfl⟩ : ∃ i, P.info? t = some i ∧ i.size = sz := by
        cases hi : P.info? t with
        | none => simp [hi] at hsz
        | some i => exact ⟨i, rfl, by simpa [hi] using hsz⟩
      unfold partV at hp
      rw [if_neg (by omega)] at hp
      split at hp
      · rename_i hle
        cases hp
        refine ⟨.agg (us.extract off (off + i.size)), by simp [part, hag, run_sizeOf P w t i hi], Rels.toAgg ?_⟩
        have e : (us.extract off (off + i.size)).toList = (us.toList.drop off).take i.size := by
          rw [Array.toList_extract, List.extract_eq_take_drop]
          congr 1; omega
        rw [e]
        exact (hu.drop off).take _
      · cases hp
    have sc : sz = 0 → (isAgg t).run P w = .ok false w → ∃ rv, (part t us off).run P w = .ok rv w ∧ Rel G rv v := by
      rintro rfl hag
      unfold partV at hp
      rw [if_pos rfl] at hp
      have hlt : off < cs.length := by
        rcases Nat.lt_or_ge off cs.length with h | h
        · exact h
        · simp [List.getElem?_eq_none h] at hp
      rw [List.getElem?_eq_getElem hlt] at hp
      cases hp
      have hlt' : off < us.size := by omega
      have := hu.2 off (by simpa using hlt') hlt
      rw [Array.getElem_toList] at this
      refine ⟨us[off], ?_, this⟩
      simp [part, hag, hlt']
    cases d with
    | struct fs => exact agg (by simpa using hT) hagg
    | array n e => exact agg (by simpa using hT) hagg
    | _ => exact sc (by simpa using hT) hagg

theorem rel_agg {G : Gh} {u : Value} {cs : List V} (h : Rel G u (.agg cs)) : ∃ us, u = .agg us ∧ Rels G us.toList cs := by
  cases h with | agg us vs hl k => exact ⟨us, rfl, Rels.of_agg hl k⟩

theorem bytes_beq (s s' : ByteArray) : (s == s') = (s.data.toList == s'.data.toList) := by
  have e : (s == s') = (s.data == s'.data) := by cases s; cases s'; rfl
  rw [e, Bool.eq_iff_iff]
  simp only [beq_iff_eq]
  exact ⟨fun h => by rw [h], fun h => Array.toList_inj.1 h⟩

theorem eqFs_run {P : Program} {w : World} {G : Gh} {D : Nat} (IH : ∀ (q : EqK) (t : Nat), chkEq P q t = true → q.depth < D → ∀ (rx ry : Value) (x y : V) (b : Bool), Rel G rx x → Rel G ry y →
    eqV q x y = some b → (Op.equalIn D t rx ry).run P w = .ok b w) {xs ys : Array Value} {a c : List V} (hxs : Rels G xs.toList a) (hys : Rels G ys.toList c) :
    ∀ (fields : List Field) (qs : EqFs), chkFs P qs fields = true → qs.depth < D → ∀ (b : Bool), eqFs qs a c = some b →
    (forIn fields (none, ()) (fun f (__s : Option Bool × Unit) =>
            if f.name = "_" then (pure (ForInStep.yield (none, ())) : Sem _)
            else do
              let __do_lift ← part f.type xs f.offset
              let __do_lift_1 ← part f.type ys f.offset
              let __do_lift ← Op.equalIn D f.type __do_lift __do_lift_1
              if __do_lift = false then pure (ForInStep.done (some false, ())) else pure (ForInStep.yield (none, ())))).run P w = .ok (if b then (none, ()) else (some false, ())) w := by
  intro fields
  induction fields with
  | nil =>
    intro qs h _ b hb
    cases qs with
    | nil => simp [eqFs] at hb; subst hb; simp
    | cons off sz q r => simp [chkFs] at h
  | cons f fields ih =>
    intro qs h hD b hb
    cases qs with
    | nil => simp [chkFs] at h
    | cons off sz q qs =>
      simp [chkFs] at h
      simp only [EqFs.depth] at hD
      obtain ⟨⟨⟨⟨hn, ho⟩, hl⟩, hq⟩, hr⟩ := h
      simp only [eqFs, Option.bind_eq_some_iff] at hb
      obtain ⟨x, hx, y, hy, t, ht, hb⟩ := hb
      obtain ⟨u1, r1, k1⟩ := part_run (P := P) (w := w) hl hxs hx
      obtain ⟨u2, r2, k2⟩ := part_run (P := P) (w := w) hl hys hy
      have e := IH q f.type hq (by omega) u1 u2 x y t k1 k2 ht
      rw [List.forIn_cons]
      simp only [if_neg hn, Sem.run_bind, ho, r1, r2, e, Result.andThen_ok]
      cases t with
      | false => simp at hb; subst hb; simp
      | true =>
        simp only [if_true] at hb
        simp only [Bool.true_eq_false, if_false, Sem.run_pure, Result.andThen_ok]
        exact ih qs hr (by omega) b hb

theorem eqAr_run {P : Program} {w : World} {G : Gh} {D : Nat} (IH : ∀ (q : EqK) (t : Nat), chkEq P q t = true → q.depth < D → ∀ (rx ry : Value) (x y : V) (b : Bool), Rel G rx x → Rel G ry y →
    eqV q x y = some b → (Op.equalIn D t rx ry).run P w = .ok b w) {xs ys : Array Value} {a c : List V} (hxs : Rels G xs.toList a) (hys : Rels G ys.toList c) (e n : Nat) (hn : ∀ i, P.info? e = some i → i.size = n) :
    ∀ (k i : Nat) (qs : EqFs), chkAr P qs e k i = true → qs.depth < D → ∀ (b : Bool), eqFs qs a c = some b →
    (forIn (List.range' i k) (none, ()) (fun j (__s : Option Bool × Unit) =>
            do
              let __do_lift ← part e xs (j * n)
              let __do_lift_1 ← part e ys (j * n)
              let __do_lift ← Op.equalIn D e __do_lift __do_lift_1
              if __do_lift = false then pure (ForInStep.done (some false, ())) else pure (ForInStep.yield (none, ())))).run P w = .ok (if b then (none, ()) else (some false, ())) w := by
  intro k
  induction k with
  | zero =>
    intro i qs h _ b hb
    cases qs with
    | nil => simp [eqFs] at hb; subst hb; simp
    | cons off sz q r => simp [chkAr] at h
  | succ k ih =>
    intro i qs h hD b hb
    cases qs with
    | nil => simp [chkAr] at h
    | cons off sz q qs =>
      simp only [chkAr, Bool.and_eq_true, beq_iff_eq, Option.map_eq_some_iff] at h
      simp only [EqFs.depth] at hD
      obtain ⟨⟨⟨⟨inf, hi, ho⟩, hl⟩, hq⟩, hr⟩ := h
      rw [hn inf hi] at ho
      simp only [eqFs, Option.bind_eq_some_iff] at hb
      obtain ⟨x, hx, y, hy, t, ht, hb⟩ := hb
      obtain ⟨u1, r1, k1⟩ := part_run (P := P) (w := w) hl hxs hx
      obtain ⟨u2, r2, k2⟩ := part_run (P := P) (w := w) hl hys hy
      have ee := IH q e hq (by omega) u1 u2 x y t k1 k2 ht
      rw [List.range'_succ, List.forIn_cons]
      simp only [Sem.run_bind, ho, r1, r2, ee, Result.andThen_ok]
      cases t with
      | false => simp at hb; subst hb; simp
      | true =>
        simp only [if_true] at hb
        simp only [Bool.true_eq_false, if_false, Sem.run_pure, Result.andThen_ok]
        exact ih (i + 1) qs hr (by omega) b hb

theorem chkEq_bool {P : Program} {t : Nat} (h : chkEq P .bool t = true) : P.underlying t = some .bool := by
  unfold chkEq at h
  split at h <;> simp_all
theorem chkEq_int {P : Program} {t : Nat} (h : chkEq P .int t = true) : ∃ k, P.underlying t = some (.int k) := by
  unfold chkEq at h
  split at h <;> simp_all
theorem chkEq_str {P : Program} {t : Nat} (h : chkEq P .str t = true) : P.underlying t = some .string := by
  unfold chkEq at h
  split at h <;> simp_all
theorem chkEq_ptr {P : Program} {t : Nat} (h : chkEq P .ptr t = true) : False := by
  unfold chkEq at h
  split at h <;> simp_all
theorem chkEq_ifc {P : Program} {t : Nat} (h : chkEq P .ifc t = true) : False := by
  unfold chkEq at h
  split at h <;> simp_all
theorem chkEq_func {P : Program} {t : Nat} (h : chkEq P .func t = true) : False := by
  unfold chkEq at h
  split at h <;> simp_all
theorem chkEq_agg {P : Program} {t : Nat} {fs : EqFs} (h : chkEq P (.agg fs) t = true) : (∃ fields, P.underlying t = some (.struct fields) ∧ P.stoodInHeld t = false ∧ chkFs P fs fields.toList = true) ∨ ∃ k e inf, P.underlying t = some (.array k e) ∧ P.info? e = some inf ∧ chkAr P fs e k 0 = true := by
  unfold chkEq at h
  split at h <;> simp_all
  obtain ⟨h1, h2⟩ := h
  obtain ⟨inf, h1⟩ := Option.isSome_iff_exists.1 h1
  exact ⟨_, _, ⟨rfl, rfl⟩, ⟨_, h1⟩, h2⟩

theorem eqV_run {P : Program} {w : World} {G : Gh} : ∀ (D : Nat) (q : EqK) (t : Nat), chkEq P q t = true → q.depth < D → ∀ (rx ry : Value) (x y : V) (b : Bool), Rel G rx x → Rel G ry y →
    eqV q x y = some b → (Op.equalIn D t rx ry).run P w = .ok b w := by
  intro D
  induction D with
  | zero => intro q t _ hD; omega
  | succ D ih =>
    intro q t h hD rx ry x y b hx hy hb
    cases q with
    | bool =>
      have hu := run_underlying P w t _ (chkEq_bool h)
      cases x <;> cases y <;> simp [eqV] at hb
      cases hx; cases hy
      simp [Op.equalIn, hu, hb]
    | int =>
      obtain ⟨k, hk⟩ := chkEq_int h
      have hu := run_underlying P w t _ hk
      cases x <;> cases y <;> simp [eqV] at hb
      cases hx; cases hy
      obtain ⟨rfl, rfl⟩ := hb
      simp [Op.equalIn, hu]
    | str =>
      have hu := run_underlying P w t _ (chkEq_str h)
      cases x <;> cases y <;> simp [eqV] at hb
      cases hx with | str s l hs => cases hy with | str s' l' hs' =>
      subst hb hs hs'
      simp [Op.equalIn, hu, bytes_beq]
    | ptr => exact (chkEq_ptr h).elim
    | ifc => exact (chkEq_ifc h).elim
    | func => exact (chkEq_func h).elim
    | agg fs =>
      simp only [EqK.depth] at hD
      rcases chkEq_agg h with ⟨fields, hf, hs, h⟩ | ⟨k, el, inf, hf, hi, h⟩
      case inr =>
        have hu := run_underlying P w t _ hf
        cases x <;> cases y <;> simp only [eqV] at hb <;> try (cases hb; done)
        obtain ⟨xs, rfl, hxs⟩ := rel_agg hx
        obtain ⟨ys, rfl, hys⟩ := rel_agg hy
        have := eqAr_run (P := P) (w := w) (D := D) ih hxs hys el inf.size (fun i h => by rw [hi] at h; cases h; rfl) k 0 fs h (by omega) b hb
        have hsz := run_sizeOf P w el inf hi
        unfold Op.equalIn
        simp only [Sem.run_bind, hu, Result.andThen_ok, hsz]
        simp [Std.Legacy.Range.forIn_eq_forIn_range', Std.Legacy.Range.size]
        rw [this]
        cases b <;> simp
      have hu := run_underlying P w t _ hf
      cases x <;> cases y <;> simp only [eqV] at hb <;> try (cases hb; done)
      obtain ⟨xs, rfl, hxs⟩ := rel_agg hx
      obtain ⟨ys, rfl, hys⟩ := rel_agg hy
      have := eqFs_run (P := P) (w := w) (D := D) ih hxs hys fields.toList fs h (by omega) b hb
      unfold Op.equalIn
      simp only [Sem.run_bind, hu, Result.andThen_ok, run_program, hs]
      simp
      rw [← Array.forIn_toList]
      rw [this]
      cases b <;> simp
end Ev

/-! Ev, part G: the operations that turn no memory: the check, and that they do what part C says. -/
namespace Ev
open Go

def isConstO : Operand → Bool
  | .const _ => true
  | _ => false

def chkBin (P : Program) (op : BinOp) (q : EqK) (t : Nat) (x y : Operand) : Bool :=
  if op = .eql ∨ op = .neq then
    (match q with
    | .int => true
    | .str => true
    | .bool => (match P.underlying t with | some .bool => true | _ => false)
    | .ptr => (match P.underlying t with | some (.pointer _) => true | _ => false)
    | .func => (match P.underlying t with | some (.func _ _ _) => true | _ => false)
    | .ifc => (match P.underlying t with | some (.interface _) => isConstO x || isConstO y | _ => false)
    | .agg fs => chkEq P (.agg fs) t && decide ((EqK.agg fs).depth < 1000) && !P.eqGuardType P.depth t)
  else true

def chkConv (P : Program) (k : CK) (s d : Nat) : Bool :=
  match k, P.underlying s, P.underlying d with
  | .i k, some _, some (.int k') => k == k'
  | .ss, some _, some .string => true
  | .bs, some (.slice e), some .string => (match P.underlying e with | some (.int .u8) => true | _ => false)
  | _, _, _ => false

def chkO : Option A → Option Operand → Bool
  | none, none => true
  | some x, some y => chkA x y
  | _, _ => false

def SK.notArr : SK → Bool
  | .arr _ _ => false
  | _ => true
def SK.notStr : SK → Bool
  | .str => false
  | _ => true
def idxOk (P : Program) (k : SK) (t sz : Nat) : Bool :=
  match k, P.underlying t with
  | .str, _ => true
  | .arr _ _, some (.array _ e) => ldOk P e sz
  | _, _ => false
def sizeIs (P : Program) (t n : Nat) : Bool := (P.info? t).map (·.size) == some n

def chkSK (P : Program) (k : SK) (t : Nat) : Bool :=
  match k, P.underlying t with
  | .str, some .string => true
  | .sl s, some (.slice e) => sizeIs P e s
  | .arr n s, some (.array m e) => n == m && sizeIs P e s
  | _, _ => false

/-- Fields' places. -/
def partOk (P : Program) (d : TypeDesc) (i off sz : Nat) : Bool :=
  match d with
  | .struct fields => (match fields[i]? with | some f => f.offset == off && sizeIs P f.type sz | none => false)
  | .array _ e => i * sz == off && sizeIs P e sz
  | _ => false
def chkParts (P : Program) (d : TypeDesc) : List (Nat × Nat × A) → List (Nat × Operand) → Bool
  | [], [] => true
  | (off, sz, x) :: r, (i, y) :: q => chkA x y && partOk P d i off sz && chkParts P d r q
  | _, _ => false

def zeroIs (P : Program) (t : Nat) (z : V) : Bool :=
  match (P.info? t).bind (·.zero) with
  | some u => cOk z u
  | none => false

def chkQ (P : Program) (ao : AOp) (o : Op) : Bool :=
  match ao with
  | .mv x _ => match o with | .move y => chkA x y | .assign y => chkA x y | _ => false
  | .pick c a b => match o with | .pick c' a' b' => chkA c c' && chkA a a' && chkA b b' | _ => false
  | .build z ps => match o with
    | .build t qs => zeroIs P t (.agg z) && (match P.underlying t with
      | some (.struct fields) => (fields.toList.all fun f => (P.info? f.type).isSome) && chkParts P (.struct fields) ps qs.toList
      | some (.array n e) => (P.info? e).isSome && chkParts P (.array n e) ps qs.toList
      | _ => false)
    | _ => false
  | .load sz a => match o with | .load t b => chkA a b && ldOk P t sz | _ => false
  | .nilck x => match o with | .nilCheck y => chkA x y | _ => false
  | .bin op q x y => match o with | .binOp op' t x' y' _ => op == op' && chkA x x' && chkA y y' && chkBin P op q t x' y' | _ => false
  | .un op x => match o with | .unOp op' _ y => op == op' && chkA x y | _ => false
  | .conv k x => match o with | .convert s d y => chkA x y && chkConv P k s d | _ => false
  | .mkif t x => match o with | .makeInterface t' y => t == t' && chkA x y && (match P.underlying t with | some (.interface _) => false | some _ => true | none => false) | _ => false
  | .mkfn f cap => match o with | .makeFunc (.func g) first cap' => f == g && first.size == 0 && chkAs cap cap'.toList | _ => false
  | .sl k x lo hi mx _ => match o with | .slice t y lo' hi' mx' => chkA x y && chkO lo lo' && chkO hi hi' && chkO mx mx' && chkSK P k t && k.notArr | _ => false
  | .fa off a => match o with
    | .fieldAddr t b i => chkA a b && (match P.underlying t with
      | some (.struct fields) => (match fields[i]? with | some f => f.offset == off && (match P.info? f.type with | some ti => ti.size != 0 | none => false) | none => false)
      | _ => false)
    | _ => false
  | .fld off sz x => match o with
    | .field t y i => chkA x y && (match P.underlying t with
      | some (.struct fields) => (match fields[i]? with | some f => f.offset == off && ldOk P f.type sz | none => false)
      | _ => false)
    | _ => false
  | .ia k x i => match o with | .indexAddr t y j => chkA x y && chkA i j && chkSK P k t && k.notStr | _ => false
  | .idx k sz x i => match o with
    | .index t y j => chkA x y && chkA i j && chkSK P k t && idxOk P k t sz
    | _ => false
  | .ta t z ok x => match o with
    | .typeAssert y _ t' ok' => chkA x y && t == t' && ok == ok' && (match P.underlying t with | some (.interface _) => false | some _ => true | none => false) && (!ok || zeroIs P t z)
    | _ => false
  | .ext x i => match o with | .extract y j => chkA x y && i == j | _ => false
  | .len str x => match o with
    | .call { callee := .builtin .len, args, argTypes } => (match args.toList, argTypes[0]? with
      | [y], some t => chkA x y && (match str, P.underlying t with | true, some .string => true | false, some (.slice _) => true | _, _ => false)
      | _, _ => false)
    | _ => false
  | .mx isMax xs => match o with
    | .call { callee := .builtin .max, args, argTypes := _ } => isMax && chkAs xs args.toList
    | .call { callee := .builtin .min, args, argTypes := _ } => !isMax && chkAs xs args.toList
    | _ => false
  | _ => false

/-! ### Each operation -/
section
variable {P : Program} {G : Gh} {h : Heap} {ρ : Rho} {w : World}

theorem run_val {u : Value} {s : Sem Value} (hs : s.run P w = .ok u w) : (do pure (Next.value (← s)) : Sem Next).run P w = .ok (.value u) w := by
  simp [hs]

theorem bool_q {c : Value} {x : V} {t : Bool} (hr : Rel G c x) (h : boolV x = some t) : c = .bool t := by
  cases x <;> simp at h
  subst h
  exact rel_bool hr

theorem nilck_q {u : Value} {x v : V} (hr : Rel G u x) (h : nilckV x = some v) : v = x ∧ ((∃ a, u = .pointer (some a)) ∨ ∃ f c, u = .func (.func f) #[] c) := by
  cases x <;> simp [nilckV] at h <;> subst h <;> cases hr <;> simp

theorem depth_succ : ∃ n, Op.maxDepth = n + 1 ∧ 1000 < n := ⟨9999, rfl, by decide⟩

theorem eql_nn (t : Nat) : binOp .eql t .nilIface .nilIface = (do pure (.bool (← Op.equal t .nilIface .nilIface))) := rfl
theorem neq_nn (t : Nat) : binOp .neq t .nilIface .nilIface = (do pure (.bool (!(← Op.equal t .nilIface .nilIface)))) := rfl
theorem eql_ni (t u : Nat) (v : Value) : binOp .eql t .nilIface (.iface u v) = (do pure (.bool (← Op.equal t .nilIface (.iface u v)))) := rfl
theorem neq_ni (t u : Nat) (v : Value) : binOp .neq t .nilIface (.iface u v) = (do pure (.bool (!(← Op.equal t .nilIface (.iface u v))))) := rfl
theorem eql_in (t u : Nat) (v : Value) : binOp .eql t (.iface u v) .nilIface = (do pure (.bool (← Op.equal t (.iface u v) .nilIface))) := rfl
theorem neq_in (t u : Nat) (v : Value) : binOp .neq t (.iface u v) .nilIface = (do pure (.bool (!(← Op.equal t (.iface u v) .nilIface)))) := rfl
theorem eql_aa (t : Nat) (a b : Array Value) : binOp .eql t (.agg a) (.agg b) = (do pure (.bool (← Op.equal t (.agg a) (.agg b)))) := rfl
theorem neq_aa (t : Nat) (a b : Array Value) : binOp .neq t (.agg a) (.agg b) = (do pure (.bool (!(← Op.equal t (.agg a) (.agg b))))) := rfl
theorem guard_ni (op : BinOp) (t : Nat) (x y : Operand) (u : Nat) (v : Value) : eqGuard op t x y .nilIface (.iface u v) = pure () := by
  unfold eqGuard; split <;> rfl
theorem guard_in (op : BinOp) (t : Nat) (x y : Operand) (u : Nat) (v : Value) : eqGuard op t x y (.iface u v) .nilIface = pure () := by
  unfold eqGuard; split <;> rfl

theorem eql_pp (t : Nat) (a b : Option Addr) : binOp .eql t (.pointer a) (.pointer b) = (do pure (.bool (← Op.equal t (.pointer a) (.pointer b)))) := rfl
theorem neq_pp (t : Nat) (a b : Option Addr) : binOp .neq t (.pointer a) (.pointer b) = (do pure (.bool (!(← Op.equal t (.pointer a) (.pointer b))))) := rfl
theorem guard_pp (op : BinOp) (t : Nat) (x y : Operand) (a b : Option Addr) : eqGuard op t x y (.pointer a) (.pointer b) = pure () := by
  unfold eqGuard; split <;> rfl
theorem eql_ff (t : Nat)  : binOp .eql t .nilFunc .nilFunc = (do pure (.bool (← Op.equal t .nilFunc .nilFunc))) := rfl
theorem neq_ff (t : Nat)  : binOp .neq t .nilFunc .nilFunc = (do pure (.bool (!(← Op.equal t .nilFunc .nilFunc)))) := rfl
theorem guard_ff (op : BinOp) (t : Nat) (x y : Operand)  : eqGuard op t x y .nilFunc .nilFunc = pure () := by
  unfold eqGuard; split <;> rfl
theorem eql_fg (t : Nat) (f : Fn) (a b : Array Value) : binOp .eql t .nilFunc (.func f a b) = (do pure (.bool (← Op.equal t .nilFunc (.func f a b)))) := rfl
theorem neq_fg (t : Nat) (f : Fn) (a b : Array Value) : binOp .neq t .nilFunc (.func f a b) = (do pure (.bool (!(← Op.equal t .nilFunc (.func f a b))))) := rfl
theorem guard_fg (op : BinOp) (t : Nat) (x y : Operand) (f : Fn) (a b : Array Value) : eqGuard op t x y .nilFunc (.func f a b) = pure () := by
  unfold eqGuard; split <;> rfl
theorem eql_gf (t : Nat) (f : Fn) (a b : Array Value) : binOp .eql t (.func f a b) .nilFunc = (do pure (.bool (← Op.equal t (.func f a b) .nilFunc))) := rfl
theorem neq_gf (t : Nat) (f : Fn) (a b : Array Value) : binOp .neq t (.func f a b) .nilFunc = (do pure (.bool (!(← Op.equal t (.func f a b) .nilFunc)))) := rfl
theorem guard_gf (op : BinOp) (t : Nat) (x y : Operand) (f : Fn) (a b : Array Value) : eqGuard op t x y (.func f a b) .nilFunc = pure () := by
  unfold eqGuard; split <;> rfl

theorem eqlV_q {t : Nat} {ux uy : Value} {x y : V} {b : Bool} {q : EqK} {ox oy : Operand} (op : BinOp) (hop : op = .eql ∨ op = .neq) (hc : chkBin P op q t ox oy = true)
    (hx : Rel G ux x) (hy : Rel G uy y) (h : eqV q x y = some b) :
    ((do eqGuard op t ox oy ux uy; binOp op t ux uy : Sem Value)).run P w = .ok (.bool (if op = .eql then b else !b)) w := by
  obtain ⟨n, hn, hlt⟩ := depth_succ
  unfold chkBin at hc
  rw [if_pos hop] at hc
  cases q with
  | int =>
    cases x <;> cases y <;> simp [eqV] at h
    obtain ⟨rfl, rfl⟩ := h
    cases hx; cases hy
    rcases hop with rfl | rfl <;> simp [eqGuard, binOp, Op.intCmp] <;> rfl
  | str =>
    cases x <;> cases y <;> simp [eqV] at h
    subst h
    obtain ⟨s1, rfl, rfl⟩ := rel_str hx
    obtain ⟨s2, rfl, rfl⟩ := rel_str hy
    rcases hop with rfl | rfl <;> simp [eqGuard, binOp, Op.stringOp, ByteArray.toList_eq]
  | bool =>
    cases x <;> cases y <;> simp [eqV] at h
    subst h
    cases hx; cases hy
    cases hd : P.underlying t with
    | none => simp [hd] at hc
    | some d =>
      have hu := run_underlying P w t _ hd
      cases d <;> simp [hd] at hc
      rcases hop with rfl | rfl <;> simp [eqGuard, binOp, Op.equal, hn, Op.equalIn, hu]
  | ptr =>
    cases hd : P.underlying t with
    | none => simp [hd] at hc
    | some d =>
      have hu := run_underlying P w t _ hd
      cases d <;> simp [hd] at hc
      cases x <;> cases y <;> simp [eqV] at h <;> subst h <;> cases hx <;> cases hy <;> rw [guard_pp, pure_bind] <;> rcases hop with rfl | rfl <;>
        first
        | rw [eql_pp]
        | rw [neq_pp]
      all_goals
        unfold Op.equal
        rw [hn, Sem.run_bind]
        unfold Op.equalIn
        rw [Sem.run_bind, hu, Result.andThen_ok]
        rfl
  | func =>
    cases hd : P.underlying t with
    | none => simp [hd] at hc
    | some d =>
      have hu := run_underlying P w t _ hd
      cases d <;> simp [hd] at hc
      cases x <;> cases y <;> simp [eqV] at h <;> subst h <;> cases hx <;> cases hy <;> rcases hop with rfl | rfl <;>
        first
        | rw [guard_ff, pure_bind, eql_ff]
        | rw [guard_ff, pure_bind, neq_ff]
        | rw [guard_fg, pure_bind, eql_fg]
        | rw [guard_fg, pure_bind, neq_fg]
        | rw [guard_gf, pure_bind, eql_gf]
        | rw [guard_gf, pure_bind, neq_gf]
      all_goals
        unfold Op.equal
        rw [hn, Sem.run_bind]
        unfold Op.equalIn
        rw [Sem.run_bind, hu, Result.andThen_ok]
        rfl
  | ifc =>
    cases hd : P.underlying t with
    | none => simp [hd] at hc
    | some d =>
      have hu := run_underlying P w t _ hd
      cases d <;> simp [hd] at hc
      have hq : (eqGuard .eql t ox oy .nilIface .nilIface).run P w = .ok () w ∧ (eqGuard .neq t ox oy .nilIface .nilIface).run P w = .ok () w := by
        rcases hc with hc | hc
        · cases ox <;> simp [isConstO] at hc
          simp [eqGuard]
        · cases oy <;> simp [isConstO] at hc
          simp [eqGuard]
      cases x <;> cases y <;> simp [eqV] at h <;> subst h <;> cases hx <;> cases hy <;> rcases hop with rfl | rfl <;>
        first
        | rw [Sem.run_bind, hq.1, Result.andThen_ok, eql_nn]
        | rw [Sem.run_bind, hq.2, Result.andThen_ok, neq_nn]
        | rw [guard_ni, pure_bind, eql_ni]
        | rw [guard_ni, pure_bind, neq_ni]
        | rw [guard_in, pure_bind, eql_in]
        | rw [guard_in, pure_bind, neq_in]
      all_goals
        unfold Op.equal
        rw [hn, Sem.run_bind]
        unfold Op.equalIn
        rw [Sem.run_bind, hu, Result.andThen_ok]
        rfl
  | agg fs =>
    simp at hc
    obtain ⟨⟨h1, h2⟩, h3⟩ := hc
    cases x <;> cases y <;> simp only [eqV] at h <;> try (cases h; done)
    have hx' := hx
    have hy' := hy
    obtain ⟨us, rfl, _⟩ := rel_agg hx'
    obtain ⟨vs, rfl, _⟩ := rel_agg hy'
    have hrun := eqV_run (P := P) (w := w) Op.maxDepth (.agg fs) t h1 (by omega) _ _ _ _ b hx hy (by simpa only [eqV] using h)
    have hg : ∀ op, op = BinOp.eql ∨ op = BinOp.neq → (eqGuard op t ox oy (.agg us) (.agg vs)).run P w = .ok () w := fun op ho => by
      rcases ho with rfl | rfl <;> simp [eqGuard, h3]
    rw [Sem.run_bind, hg op hop, Result.andThen_ok]
    rcases hop with rfl | rfl
    · rw [eql_aa]; unfold Op.equal; simp [hrun]
    · rw [neq_aa]; unfold Op.equal; simp [hrun]

end
end Ev

/-! Ev, part H: the operations that turn no memory: soundness, one by one. -/
namespace Ev
open Go
section
variable {P : Program} {G : Gh} {h : Heap} {ρ : Rho} {w : World}

/-! #### build -/
theorem splice_length (cs : List V) (off : Nat) (new : List V) (hl : off + new.length ≤ cs.length) : (spliceL cs off new).length = cs.length := by
  simp [spliceL]; omega
theorem Rels.splice {cs : List V} {us : List Value} (hr : Rels G us cs) {off : Nat} {new : List V} {nu : List Value} (hn : Rels G nu new) :
    Rels G (us.take off ++ nu ++ us.drop (off + nu.length)) (spliceL cs off new) := by
  unfold spliceL
  rw [hn.1]
  exact ((hr.take off).append hn).append (hr.drop _)

theorem fill_fold (off : Nat) : ∀ (l : List Value) (i : Nat) (cells : Array Value), off + i + l.length ≤ cells.size →
    ((l.zipIdx i).foldl (fun cs (x : Value × Nat) => cs.setIfInBounds (off + x.2) x.1) cells).toList = cells.toList.take (off + i) ++ l ++ cells.toList.drop (off + i + l.length)
  | [], i, cells, _ => by simp
  | v :: l, i, cells, hl => by
    simp only [List.length_cons] at hl
    rw [List.zipIdx_cons, List.foldl_cons, fill_fold off l (i + 1) _ (by simp; omega)]
    simp only [Array.toList_setIfInBounds]
    have h1 : (cells.toList.set (off + i) v).take (off + (i + 1)) = cells.toList.take (off + i) ++ [v] := by
      rw [show off + (i + 1) = (off + i) + 1 by omega, List.take_succ_eq_append_getElem (by simp; omega)]
      simp
      exact List.take_set_of_le (Nat.le_refl _)
    have h2 : (cells.toList.set (off + i) v).drop (off + (i + 1) + l.length) = cells.toList.drop (off + i + (l.length + 1)) := by
      rw [List.drop_set_of_lt (by omega)]
      congr 1; omega
    rw [h1, h2]
    simp [Nat.add_assoc]

theorem fill_run (place : Nat → Option (Nat × Nat)) : ∀ (qs : List (Nat × Value)) (ps : List (Nat × Nat × V)) (cells : Array Value) (z : List V) (v : V),
    qs.length = ps.length → (∀ j (h1 : j < qs.length) (h2 : j < ps.length), place (qs[j]).1 = some ((ps[j]).1, (ps[j]).2.1) ∧ Rel G (qs[j]).2 (ps[j]).2.2) →
    Rels G cells.toList z → buildV z ps = some v → ∃ cs, Instr.fill place cells qs = some cs ∧ Rel G (.agg cs) v
  | [], [], cells, z, v, _, _, hz, hb => by
    simp [buildV] at hb
    subst hb
    exact ⟨cells, rfl, hz.toAgg⟩
  | [], _ :: _, _, _, _, hl, _, _, _ => by simp at hl
  | _ :: _, [], _, _, _, hl, _, _, _ => by simp at hl
  | (i, u) :: qs, (off, sz, x) :: ps, cells, z, v, hl, hp, hz, hb => by
    obtain ⟨h1, h2⟩ := hp 0 (by simp) (by simp)
    simp only [List.getElem_cons_zero] at h1 h2
    simp only [buildV] at hb
    split at hb
    · rename_i hc
      have hcl := h2.cells
      have hsz : u.cells.size = sz := by have := hcl.1; simp at this; omega
      have hzl : cells.size = z.length := by simpa using hz.1
      have hlen : off + u.cells.toList.length ≤ cells.size := by simp; omega
      have e : (u.cells.zipIdx.foldl (fun cs (c, j) => cs.setIfInBounds (off + j) c) cells).toList = cells.toList.take off ++ u.cells.toList ++ cells.toList.drop (off + u.cells.toList.length) := by
        rw [← Array.foldl_toList, Array.toList_zipIdx]
        have := fill_fold off u.cells.toList 0 cells (by simpa using hlen)
        simpa using this
      have ih := fill_run place qs ps (u.cells.zipIdx.foldl (fun cs (c, j) => cs.setIfInBounds (off + j) c) cells) _ v (by simpa using hl)
        (fun j a b => by have := hp (j + 1) (by simp; omega) (by simp; omega); simpa using this) (by rw [e]; exact hz.splice hcl) hb
      obtain ⟨cs, hf, hr⟩ := ih
      refine ⟨cs, ?_, hr⟩
      simp only [Instr.fill, h1]
      rw [if_neg (by simp; omega)]
      exact hf
    · cases hb

theorem chkParts_run {a : Act} {e : Env} (he : EnvRel G a.tmps e) {d : TypeDesc} (place : Nat → Option (Nat × Nat))
    (hpl : ∀ i off sz, partOk P d i off sz = true → place i = some (off, sz)) :
    ∀ (ps : List (Nat × Nat × A)) (qs : List (Nat × Operand)) (vs : List (Nat × Nat × V)), chkParts P d ps qs = true → evParts e ps = some vs →
      (qs.map fun q => (q.1, a.eval q.2)).length = vs.length ∧
      ∀ j (h1 : j < (qs.map fun q => (q.1, a.eval q.2)).length) (h2 : j < vs.length), place ((qs.map fun q => (q.1, a.eval q.2))[j]).1 = some ((vs[j]).1, (vs[j]).2.1) ∧ Rel G ((qs.map fun q => (q.1, a.eval q.2))[j]).2 (vs[j]).2.2
  | [], [], vs, _, hv => by simp [evParts] at hv; subst hv; exact ⟨rfl, fun j h => by simp at h⟩
  | [], _ :: _, _, hc, _ => by simp [chkParts] at hc
  | _ :: _, [], _, hc, _ => by simp [chkParts] at hc
  | (off, sz, x) :: ps, (i, y) :: qs, vs, hc, hv => by
    simp only [chkParts, Bool.and_eq_true] at hc
    simp only [evParts, Option.bind_eq_some_iff] at hv
    obtain ⟨v, h1, ws, h2, h3⟩ := hv
    cases h3
    obtain ⟨il, ih⟩ := chkParts_run he place hpl ps qs ws hc.2 h2
    refine ⟨by simpa using il, fun j a b => ?_⟩
    cases j with
    | zero => exact ⟨hpl _ _ _ hc.1.2, A_rel he hc.1.1 h1⟩
    | succ j => exact ih j (by simpa using a) (by simpa using b)

theorem zero_run {t : Nat} {z : V} (hz : zeroIs P t z = true) (G : Gh) : ∃ u, (zeroValue t).run P w = .ok u w ∧ Rel G u z := by
  unfold zeroIs at hz
  cases hi : P.info? t with
  | none => simp [hi] at hz
  | some i =>
    cases hzz : i.zero with
    | none => simp [hi, hzz] at hz
    | some u =>
      simp [hi, hzz] at hz
      exact ⟨u, by simp [zeroValue, typeInfo, hi, hzz], cOk_rel G _ _ hz⟩

theorem mapM_run {α β : Type} (f : α → Sem β) (g : α → β) : ∀ (l : List α), (∀ x ∈ l, (f x).run P w = .ok (g x) w) → (l.mapM f).run P w = .ok (l.map g) w
  | [], _ => by simp
  | x :: l, hx => by
    rw [List.mapM_cons]
    simp [hx x (by simp), mapM_run f g l (fun y hy => hx y (by simp [hy]))]

theorem sizeIs_iff {t n : Nat} (h : sizeIs P t n = true) : ∃ i, P.info? t = some i ∧ i.size = n := by
  unfold sizeIs at h
  cases hi : P.info? t with
  | none => simp [hi] at h
  | some i => exact ⟨i, rfl, by simpa [hi] using h⟩
theorem sizeIs_run {t n : Nat} (h : sizeIs P t n = true) : (Go.sizeOf t).run P w = .ok n w := by
  obtain ⟨i, hi, rfl⟩ := sizeIs_iff h
  exact run_sizeOf P w t i hi

theorem build_q {a : Act} {e : Env} (he : EnvRel G a.tmps e) {z : List V} {ps : List (Nat × Nat × A)} {t : Nat} {qs : Array (Nat × Operand)} (hc : chkQ P (.build z ps) (.build t qs) = true)
    {vs : List (Nat × Nat × V)} (hvs : evParts e ps = some vs) {v : V} (hv : buildV z vs = some v) :
    ∃ u, (Instr.build t (qs.map fun (i, x) => (i, a.eval x))).run P w = .ok u w ∧ Rel G u v := by
  simp only [chkQ, Bool.and_eq_true] at hc
  obtain ⟨hz, hd⟩ := hc
  obtain ⟨zu, hzr, hzz⟩ := zero_run (w := w) hz G
  obtain ⟨us, rfl, hus⟩ := rel_agg hzz
  cases hdd : P.underlying t with
  | none => simp [hdd] at hd
  | some d =>
    have hu := run_underlying P w t _ hdd
    cases d with
    | struct fields =>
      simp only [hdd, Bool.and_eq_true, List.all_eq_true] at hd
      obtain ⟨hinf, hp⟩ := hd
      let sz (f : Field) : Nat := ((P.info? f.type).map (·.size)).getD 0
      have hm : (fields.mapM fun f => do pure (f.offset, ← Go.sizeOf f.type) : Sem (Array (Nat × Nat))).run P w = .ok (fields.map fun f => (f.offset, sz f)) w := by
        rw [Array.mapM_eq_mapM_toList, Sem.run_map, mapM_run _ (fun f => (f.offset, sz f)) fields.toList (fun f hf => by
          have := hinf f hf
          cases hi : P.info? f.type with
          | none => simp [hi] at this
          | some i => simp [run_sizeOf P w _ i hi, sz, hi])]
        simp only [Result.andThen_ok]
        congr 1
        apply Array.ext'
        simp
      obtain ⟨hl, hpp⟩ := chkParts_run (P := P) (G := G) he (fun i => (fields.map fun f => (f.offset, sz f))[i]?) (fun i off s hk => by
        simp only [partOk] at hk
        cases hf : fields[i]? with
        | none => simp [hf] at hk
        | some f =>
          simp [hf] at hk
          obtain ⟨rfl, hs⟩ := hk
          obtain ⟨ti, hi, rfl⟩ := sizeIs_iff hs
          simp [hf, sz, hi]) ps qs.toList vs hp hvs
      obtain ⟨cs, hf, hr⟩ := fill_run (G := G) _ _ vs us z v hl hpp hus hv
      refine ⟨.agg cs, ?_, hr⟩
      simp only [Instr.build, Sem.run_bind, hzr, Result.andThen_ok, hu, hm, Value.cells, Array.toList_map]
      rw [hf]
      rfl
    | array n el =>
      simp only [hdd] at hd
      obtain ⟨hin, hd⟩ := Bool.and_eq_true _ _ ▸ hd
      cases hi : P.info? el with
      | none => simp [hi] at hin
      | some ti =>
        obtain ⟨hl, hpp⟩ := chkParts_run (P := P) (G := G) he (fun i => some (i * ti.size, ti.size)) (fun i off s hk => by
          simp only [partOk, Bool.and_eq_true, beq_iff_eq] at hk
          obtain ⟨rfl, hs⟩ := hk
          obtain ⟨ti', hi', rfl⟩ := sizeIs_iff hs
          rw [hi] at hi'
          cases hi'
          rfl) ps qs.toList vs hd hvs
        obtain ⟨cs, hf, hr⟩ := fill_run (G := G) (fun i => some (i * ti.size, ti.size)) _ vs us z v hl hpp hus hv
        refine ⟨.agg cs, ?_, hr⟩
        simp only [Instr.build, Sem.run_bind, hzr, Result.andThen_ok, hu, run_sizeOf P w _ ti hi, Value.cells, Array.toList_map]
        rw [hf]
        rfl
    | _ => simp [hdd] at hd
end
end Ev

/-! Ev, part I: cuts, indexes, and the whole of the operations that turn no memory. -/
namespace Ev
open Go
section
variable {P : Program} {G : Gh} {h : Heap} {ρ : Rho} {w : World}

/-! #### cuts -/
theorem bnd_run {u : Value} {x : V} {m m' n : Nat} {code : BoundsCode} (hr : Rel G u x) (hb : bndV m x = some n) (hm : m ≤ m') : (Instr.sliceBound u m' code).run P w = .ok n w ∧ n ≤ m := by
  cases x <;> simp [bndV] at hb
  obtain ⟨⟨h1, h2⟩, rfl⟩ := hb
  cases hr
  rename_i k q
  refine ⟨?_, by omega⟩
  simp only [Instr.sliceBound, asIntOf, pure_bind]
  rw [if_pos ⟨h1, by omega⟩]
  rfl

def ORel (G : Gh) : Option Value → Option V → Prop
  | none, none => True
  | some u, some x => Rel G u x
  | _, _ => False

/-- The bounds of a cut of a slice whose capacity may be more than what is known. -/
theorem bounds_run {lo hi mx : Option Value} {xlo xhi xmx : Option V} (hlo : ORel G lo xlo) (hhi : ORel G hi xhi) (hmx : ORel G mx xmx) {isS : Bool} {len cap m hh l : Nat} (hc : len ≤ cap) (hmh : xmx.isSome → xhi.isSome)
    (hm : bndO len len xmx = some m) (hh' : bndO m len xhi = some hh) (hl : bndO hh 0 xlo = some l) :
    (Instr.sliceBounds isS len cap lo hi mx).run P w = .ok (l, hh, if xmx.isSome then m else cap) w ∧ l ≤ hh ∧ hh ≤ len ∧ m ≤ len ∧ (xmx.isSome → hh ≤ m) := by
  cases xmx with
  | none =>
    cases mx with
    | some _ => exact hmx.elim
    | none =>
      simp [bndO] at hm
      subst hm
      cases xhi with
      | none =>
        cases hi with
        | some _ => exact hhi.elim
        | none =>
          simp [bndO] at hh'
          subst hh'
          cases xlo with
          | none =>
            cases lo with
            | some _ => exact hlo.elim
            | none =>
              simp [bndO] at hl
              subst hl
              exact ⟨by simp [Instr.sliceBounds], by omega, by omega, by omega, by simp⟩
          | some xl =>
            cases lo with
            | none => exact hlo.elim
            | some lo =>
              obtain ⟨r1, h1⟩ := bnd_run (P := P) (w := w) (code := .sliceB) hlo hl (Nat.le_refl _)
              exact ⟨by simp [Instr.sliceBounds, r1], by omega, by omega, by omega, by simp⟩
      | some xh =>
        cases hi with
        | none => exact hhi.elim
        | some hi =>
          obtain ⟨r2, h2⟩ := bnd_run (P := P) (w := w) (code := if isS then .sliceAcap else .sliceAlen) hhi hh' hc
          cases xlo with
          | none =>
            cases lo with
            | some _ => exact hlo.elim
            | none =>
              simp [bndO] at hl
              subst hl
              exact ⟨by simp [Instr.sliceBounds, r2], by omega, by omega, by omega, by simp⟩
          | some xl =>
            cases lo with
            | none => exact hlo.elim
            | some lo =>
              obtain ⟨r1, h1⟩ := bnd_run (P := P) (w := w) (code := .sliceB) hlo hl (Nat.le_refl _)
              exact ⟨by simp [Instr.sliceBounds, r1, r2], by omega, by omega, by omega, by simp⟩
  | some xm =>
    cases mx with
    | none => exact hmx.elim
    | some mx =>
      obtain ⟨r3, h3⟩ := bnd_run (P := P) (w := w) (code := if isS then .slice3Acap else .slice3Alen) hmx hm hc
      cases xhi with
      | none => simp at hmh
      | some xh =>
        cases hi with
        | none => exact hhi.elim
        | some hi =>
          obtain ⟨r2, h2⟩ := bnd_run (P := P) (w := w) (code := .slice3B) hhi hh' (Nat.le_refl _)
          cases xlo with
          | none =>
            cases lo with
            | some _ => exact hlo.elim
            | none =>
              simp [bndO] at hl
              subst hl
              exact ⟨by simp [Instr.sliceBounds, r2, r3], by omega, by omega, by omega, by simp; omega⟩
          | some xl =>
            cases lo with
            | none => exact hlo.elim
            | some lo =>
              obtain ⟨r1, h1⟩ := bnd_run (P := P) (w := w) (code := .slice3C) hlo hl (Nat.le_refl _)
              exact ⟨by simp [Instr.sliceBounds, r1, r2, r3], by omega, by omega, by omega, by simp; omega⟩

theorem flat_take_drop (s : Nat) : ∀ (xs : List V) (n : Nat), (∀ x ∈ xs, x.cells.length = s) → flat (xs.drop n) = (flat xs).drop (n * s) ∧ flat (xs.take n) = (flat xs).take (n * s)
  | [], n, _ => by simp [flat]
  | x :: xs, 0, _ => by simp [flat]
  | x :: xs, n + 1, hs => by
    have hx := hs x (by simp)
    obtain ⟨h1, h2⟩ := flat_take_drop s xs n (fun y hy => hs y (by simp [hy]))
    unfold flat at h1 h2 ⊢
    simp only [List.drop_succ_cons, List.take_succ_cons, List.flatMap_cons]
    rw [h1, h2, Nat.succ_mul, Nat.add_comm (n * s) s]
    generalize n * s = k
    subst hx
    constructor
    · rw [← List.drop_drop, List.drop_left]
    · rw [List.take_length_add_append]
theorem flat_length (s : Nat) : ∀ (xs : List V), (∀ x ∈ xs, x.cells.length = s) → (flat xs).length = xs.length * s
  | [], _ => by simp [flat]
  | x :: xs, hs => by
    have := flat_length s xs (fun y hy => hs y (by simp [hy]))
    unfold flat at this ⊢
    rw [List.flatMap_cons, List.length_append, this, hs x (by simp), List.length_cons, Nat.succ_mul, Nat.add_comm]
theorem flat_append (xs ys : List V) : flat (xs ++ ys) = flat xs ++ flat ys := by simp [flat]

/-- A cut of a plain slice. -/
theorem ps_cut {r o n cap s : Nat} {xs : List V} (hr : Rel G (.slice (some ⟨r, o, none⟩) n cap) (.ps s xs)) (l hh m : Nat) (h1 : l ≤ hh) (h2 : hh ≤ n) (h3 : hh ≤ m) :
    Rel G (.slice (some (if m = l then ⟨r, o, none⟩ else ⟨r, o + l * s, none⟩)) (hh - l) (m - l)) (.ps s ((xs.take hh).drop l)) := by
  cases hr with
  | ps0 s p =>
    have e1 : hh = 0 := by omega
    have e2 : l = 0 := by omega
    subst e1 e2
    have key : ∀ a c, Rel G (.slice (some ⟨r, a, none⟩) 0 c) (.ps s []) := fun a c => .ps r a 0 c s [] (fun _ => undef) rfl (Nat.zero_le _) (by simp) (by simp [flat]) (by simp [flat])
    split
    · simpa using key _ _
    · simpa using key _ _
  | ps r o n cap s xs u hn hc hs h k =>
    have hs' : ∀ x ∈ (xs.take hh).drop l, x.cells.length = s := fun x hx => hs x (List.mem_of_mem_take (List.mem_of_mem_drop hx))
    have hlen : ((xs.take hh).drop l).length = hh - l := by simp; omega
    by_cases hml : m = l
    · rw [if_pos hml]
      have e : (xs.take hh).drop l = [] := List.length_eq_zero_iff.1 (by rw [hlen]; omega)
      rw [e]
      exact .ps r o _ _ s [] u (by simp; omega) (by omega) (by simp) (by simp [flat]) (by simp [flat])
    · rw [if_neg hml]
      have e : flat ((xs.take hh).drop l) = ((flat xs).take (hh * s)).drop (l * s) := by
        rw [(flat_take_drop s (xs.take hh) l (fun x hx => hs x (List.mem_of_mem_take hx))).1, (flat_take_drop s xs hh hs).2]
      refine .ps r (o + l * s) _ _ s _ (fun j => u (l * s + j)) hlen (by omega) hs' (fun j hj => ?_) (fun j hj => ?_)
      · rw [e] at hj
        simp at hj
        have := h (l * s + j) (by omega)
        rwa [← Nat.add_assoc] at this
      · have hj' := hj
        rw [e] at hj'
        simp at hj'
        have := k (l * s + j) (by omega)
        simpa [e] using this

theorem evO_rel {a : Act} {e : Env} (he : EnvRel G a.tmps e) {x : Option A} {y : Option Operand} (hc : chkO x y = true) {v : Option V} (hv : evO e x = some v) : ORel G (y.map a.eval) v := by
  cases x with
  | none => cases y <;> simp [chkO] at hc; simp [evO] at hv; subst hv; trivial
  | some x =>
    cases y with
    | none => simp [chkO] at hc
    | some y =>
      simp [chkO] at hc
      simp only [evO, Option.map_eq_some_iff] at hv
      obtain ⟨v', h1, rfl⟩ := hv
      exact A_rel he hc h1

theorem str_take_drop (s : ByteArray) (l hh : Nat) (h : l ≤ hh) : (s.extract l hh).data.toList = (s.data.toList.take hh).drop l := by
  rw [Lib.extract_data, List.drop_take]

theorem sl_q (m : Mem G h ρ w) {a : Act} {e : Env} (he : EnvRel G a.tmps e) {k : SK} {x : A} {lo hi mx : Option A} {tk : Bool} {t : Nat} {y : Operand} {lo' hi' mx' : Option Operand}
    (hc : chkQ P (.sl k x lo hi mx tk) (.slice t y lo' hi' mx') = true) {vx v : V} {vlo vhi vmx : Option V} (hx : x.ev e = some vx) (hlo : evO e lo = some vlo) (hhi : evO e hi = some vhi) (hmx : evO e mx = some vmx)
    (hv : slV k vx vlo vhi vmx = some v) : ∃ u, (Instr.sliceAt t (a.eval y) (lo'.map a.eval) (hi'.map a.eval) (mx'.map a.eval)).run P w = .ok u w ∧ Rel G u v ∧ ((∃ z, vhi = some z ∧ vmx = some z) → vx.isHs = false → ∃ ad n s xs, u = .slice ad n n ∧ v = .ps s xs) := by
  simp only [chkQ, Bool.and_eq_true] at hc
  obtain ⟨⟨⟨⟨⟨c1, c2⟩, c3⟩, c4⟩, c5⟩, c6⟩ := hc
  have rx := A_rel he c1 hx
  have r1 := evO_rel he c2 hlo
  have r2 := evO_rel he c3 hhi
  have r3 := evO_rel he c4 hmx
  generalize a.eval y = u at *
  generalize lo'.map a.eval = ulo at *
  generalize hi'.map a.eval = uhi at *
  generalize mx'.map a.eval = umx at *
  cases k with
  | arr n s => simp [SK.notArr] at c6
  | str =>
    cases hd : P.underlying t with
    | none => simp [chkSK, hd] at c5
    | some d =>
      cases d <;> simp [chkSK, hd] at c5
      have hu := run_underlying P w t _ hd
      cases vx <;> simp [slV] at hv
      obtain ⟨s, rfl, rfl⟩ := rel_str rx
      cases vmx with
      | some _ => simp at hv
      | none =>
        cases umx with
        | some _ => exact r3.elim
        | none =>
          simp only [Option.bind_eq_some_iff] at hv
          obtain ⟨_, hh, h1, l, h2, h3⟩ := hv
          cases h3
          have hsz : s.data.toList.length = s.size := by simp
          obtain ⟨hb, h4, _⟩ := bounds_run (P := P) (w := w) (isS := false) (cap := s.data.toList.length) (mx := none) (xmx := none) (m := s.data.toList.length) (len := s.data.toList.length) r1 r2 trivial (Nat.le_refl _) (by simp) (by simp [bndO]) h1 h2
          rw [hsz] at hb
          refine ⟨.string (s.extract l hh), ?_, .str _ _ (str_take_drop _ _ _ h4), fun ⟨z, _, hz⟩ _ => by cases hz⟩
          simp [Instr.sliceAt, Instr.slice, hu, hb]
  | sl s =>
    cases hd : P.underlying t with
    | none => simp [chkSK, hd] at c5
    | some d =>
      cases d <;> simp [chkSK, hd] at c5
      rename_i el
      have hu := run_underlying P w t _ hd
      have hsz := sizeIs_run (w := w) c5
      cases vx <;> simp [slV] at hv
      case ps s' xs =>
        obtain ⟨⟨rfl, hmh⟩, hv⟩ := hv
        simp only [Option.bind_eq_some_iff] at hv
        obtain ⟨mm, h0, hh, h1, l, h2, h3⟩ := hv
        cases h3
        generalize hq : (V.ps s xs) = q at rx
        have key : ∀ (ad : Option Addr) (n cap : Nat), u = .slice ad n cap → xs.length = n → n ≤ cap → ∃ m', (Instr.sliceAt t u ulo uhi umx).run P w = .ok (.slice (if m' = l then ad else ad.map (·.add (l * s))) (hh - l) (m' - l)) w ∧
            l ≤ hh ∧ hh ≤ n ∧ hh ≤ m' ∧ m' ≤ cap ∧ ((∃ z, vhi = some z ∧ vmx = some z) → m' = hh) := by
          rintro ad n cap rfl hn hc
          rw [hn] at h0 h1
          obtain ⟨hb, h4, h5, h6, h7⟩ := bounds_run (P := P) (w := w) (isS := true) (cap := cap) (len := n) r1 r2 r3 hc hmh h0 h1 h2
          refine ⟨if vmx.isSome then mm else cap, ?_, h4, h5, ?_, by split <;> omega, fun ⟨z, z1, z2⟩ => ?_⟩
          · simp only [Instr.sliceAt, Instr.slice, Sem.run_bind, hu, Result.andThen_ok, hb, hsz]
            rfl
          · split
            · exact h7 (by assumption)
            · omega
          · subst z1 z2
            show (if true = true then mm else cap) = hh
            rw [if_pos rfl]
            cases z <;> simp [bndO, bndV] at h0 h1
            omega
        subst hq
        have rx' := rx
        cases rx with
        | ps0 s p =>
          obtain ⟨m', hrun, h4, h5, h6, h7, _⟩ := key p 0 0 rfl rfl (Nat.le_refl _)
          have e1 : l = 0 := by omega
          have e2 : hh = 0 := by omega
          have e3 : m' = 0 := by omega
          subst e1 e2 e3
          exact ⟨_, hrun, .ps0 _ _, fun _ _ => ⟨_, _, _, _, rfl, rfl⟩⟩
        | ps r o n cap s xs uu hn hc hs hst hk =>
          obtain ⟨m', hrun, h4, h5, h6, h7, h8⟩ := key _ n cap rfl hn hc
          have := ps_cut rx' l hh m' h4 h5 h6
          refine ⟨_, hrun, ?_, fun hz _ => ⟨_, hh - l, _, _, by rw [h8 hz], rfl⟩⟩
          by_cases hml : m' = l
          · rw [if_pos hml] at this ⊢
            exact this
          · rw [if_neg hml] at this ⊢
            simpa [addr_add] using this
      case hn s' =>
        obtain ⟨⟨rfl, hno⟩, hv⟩ := hv
        simp only [Option.bind_eq_some_iff] at hv
        obtain ⟨hh, h1, l, h2, h3⟩ := hv
        cases vmx with
        | some _ => simp at hno
        | none =>
          cases rx with
          | hn s p =>
            cases h3
            obtain ⟨hb, h4, h5, h6, h7⟩ := bounds_run (P := P) (w := w) (isS := true) (cap := 0) (len := 0) (m := 0) r1 r2 r3 (Nat.le_refl _) (by simp) (by simp [bndO]) h1 h2
            have e1 : hh = 0 := by omega
            have e2 : l = 0 := by omega
            subst e1 e2
            have hrun : (Instr.sliceAt t (.slice p 0 0) ulo uhi umx).run P w = .ok (.slice p 0 0) w := by
              simp only [Instr.sliceAt, Instr.slice, Sem.run_bind, hu, Result.andThen_ok, hb, hsz]
              simp
            exact ⟨_, hrun, .hn _ _, fun ⟨z, _, hz⟩ _ => by cases hz⟩
      case hc s' b off len cap =>
        obtain ⟨rfl, hv⟩ := hv
        cases rx with
        | hc _ _ _ _ _ r lo hi hg hhi' hc =>
          cases vmx with
          | some _ => cases vlo <;> cases vhi <;> simp at hv
          | none =>
            cases umx with
            | some _ => exact r3.elim
            | none =>
              cases vlo with
              | none =>
                cases ulo with
                | some _ => exact r1.elim
                | none =>
                  cases vhi with
                  | none => simp at hv
                  | some xh =>
                    cases uhi with
                    | none => exact r2.elim
                    | some uh =>
                      cases xh <;> simp at hv
                      rename_i kk k
                      obtain ⟨⟨k0, k1⟩, rfl⟩ := hv
                      obtain ⟨q1, q2⟩ := bnd_run (P := P) (w := w) (m := cap) (m' := cap) (n := k.toNat) (code := if true = true then .sliceAcap else .sliceAlen) (r2 : Rel G uh _) (by simp [bndV, k0, k1]) (Nat.le_refl _)
                      refine ⟨.slice (some ⟨r, lo + off, none⟩) k.toNat cap, ?_, .hc s b off k.toNat cap r lo hi hg hhi' q2, fun _ k => by simp at k⟩
                      have hb : (Instr.sliceBounds true len cap none (some uh) none).run P w = .ok (0, k.toNat, cap) w := by simp [Instr.sliceBounds]; simp at q1; simp [q1]
                      simp only [Option.map_none, Option.map_some, Instr.sliceAt, Instr.slice, Sem.run_bind, hu, Result.andThen_ok, hb, hsz]
                      simp [addr_add]
              | some xl =>
                cases vhi with
                | some _ => cases xl <;> simp at hv
                | none =>
                  cases uhi with
                  | some _ => exact r2.elim
                  | none =>
                    cases xl <;> simp at hv
                    rename_i kk l
                    obtain ⟨⟨l0, l1⟩, rfl⟩ := hv
                    obtain ⟨hb, h4, h5, h6, h7⟩ := bounds_run (P := P) (w := w) (isS := true) (cap := cap) (len := len) (m := len) (hh := len) (l := l.toNat) (mx := none) (xmx := none) r1 r2 trivial hc (by simp) (by simp [bndO]) (by simp [bndO]) (by simp [bndO, bndV, l0]; omega)
                    refine ⟨.slice (some ⟨r, lo + off + l.toNat * s, none⟩) (len - l.toNat) (cap - l.toNat), ?_, ?_, fun _ k => by simp at k⟩
                    · simp only [Instr.sliceAt, Instr.slice, Sem.run_bind, hu, Result.andThen_ok, hb, hsz]
                      have : ¬ cap = l.toNat := by omega
                      simp [addr_add, this]
                    · have : lo + (off + l.toNat * s) + (cap - l.toNat) * s ≤ hi := by
                        have e1 : (cap - l.toNat) * s + l.toNat * s = cap * s := by rw [← Nat.add_mul]; congr 1; omega
                        omega
                      have k := Rel.hs (G := G) s b (off + l.toNat * s) (len - l.toNat) (cap - l.toNat) r lo hi hg this (by omega)
                      rw [← Nat.add_assoc] at k
                      exact k
      case hs s' b off len =>
        obtain ⟨⟨rfl, hmh⟩, hv⟩ := hv
        simp only [Option.bind_eq_some_iff] at hv
        obtain ⟨mm, h0, hh, h1, l, h2, h3⟩ := hv
        cases rx with
        | hs s b off len cap r lo hi hg hhi' hc =>
          obtain ⟨hb, h4, h5, h6, h7⟩ := bounds_run (P := P) (w := w) (isS := true) (cap := cap) (len := len) r1 r2 r3 hc hmh h0 h1 h2
          obtain ⟨m', hm'⟩ : ∃ m', m' = if vmx.isSome then mm else cap := ⟨_, rfl⟩
          rw [← hm'] at hb
          have h8 : m' ≤ cap := by rw [hm']; split <;> omega
          have h9 : hh ≤ m' := by
            rw [hm']
            split
            · exact h7 (by assumption)
            · omega
          have hrun : (Instr.sliceAt t (.slice (some ⟨r, lo + off, none⟩) len cap) ulo uhi umx).run P w = .ok (.slice (if m' = l then some ⟨r, lo + off, none⟩ else some ⟨r, lo + off + l * s, none⟩) (hh - l) (m' - l)) w := by
            simp only [Instr.sliceAt, Instr.slice, Sem.run_bind, hu, Result.andThen_ok, hb, hsz]
            simp [addr_add]
          split at h3
          · rename_i hz
            cases h3
            refine ⟨_, hrun, ?_, fun _ k => by simp at k⟩
            rw [hz]
            split <;> exact .ps _ _ 0 _ s [] (fun _ => undef) rfl (Nat.zero_le _) (by simp) (by simp [flat]) (by simp [flat])
          · rename_i hz
            cases h3
            refine ⟨_, hrun, ?_, fun _ k => by simp at k⟩
            rw [if_neg (by omega)]
            have : lo + (off + l * s) + (m' - l) * s ≤ hi := by
              have e1 : (m' - l) * s + l * s = m' * s := by rw [← Nat.add_mul]; congr 1; omega
              have e2 : m' * s ≤ cap * s := Nat.mul_le_mul_right _ h8
              omega
            have k := Rel.hs (G := G) s b (off + l * s) (hh - l) (m' - l) r lo hi hg this (by omega)
            rw [← Nat.add_assoc] at k
            exact k

/-! #### indexes -/
theorem ia_q (m : Mem G h ρ w) {k : SK} {t : Nat} {ux ui : Value} {x i v : V} (hc : chkSK P k t = true) (hk : k.notStr = true) (rx : Rel G ux x) (ri : Rel G ui i) (hv : iaV k x i = some v) :
    ∃ u, (Instr.indexAt t ux ui).run P w = .ok u w ∧ Rel G u v := by
  cases i with
  | int kk n =>
    cases ri
    simp only [iaV] at hv
    cases k with
    | str => cases hk
    | sl s =>
      cases hd : P.underlying t with
      | none => simp [chkSK, hd] at hc
      | some d =>
        cases d <;> simp [chkSK, hd] at hc
        rename_i el
        have hu := run_underlying P w t _ hd
        have hsz := sizeIs_run (w := w) hc
        cases x <;> try (cases hv; done)
        case ps s' xs =>
          simp only at hv
          split at hv
          · rename_i hh
            obtain ⟨rfl, h0⟩ := hh
            simp only [Option.map_eq_some_iff] at hv
            obtain ⟨y, hy, rfl⟩ := hv
            have hlt : n.toNat < xs.length := (List.getElem?_eq_some_iff.1 hy).1
            cases rx with
            | ps0 s p => simp at hlt
            | ps r o nn cap s xs uu hn hcc hs hst hkk =>
              refine ⟨.pointer (some ⟨r, o + n.toNat * s, none⟩), ?_, ?_⟩
              · simp [Instr.indexAt, asIntOf, hu, hsz, addr_add]
                intro hcon
                exact absurd (hcon (by omega)) (by omega)
              · have hy' : xs[n.toNat] = y := (List.getElem?_eq_some_iff.1 hy).2
                have hys : y.cells.length = s := hs y (by rw [← hy']; exact List.getElem_mem _)
                have hcell : ∀ j (hj : j < y.cells.length), ∃ hb : n.toNat * s + j < (flat xs).length, (flat xs)[n.toNat * s + j] = y.cells[j] := by
                  intro j hj
                  have hfl := flat_length s xs hs
                  have hb : n.toNat * s + j < (flat xs).length := by
                    rw [hfl]
                    have : (n.toNat + 1) * s ≤ xs.length * s := Nat.mul_le_mul_right _ hlt
                    rw [Nat.succ_mul] at this
                    omega
                  refine ⟨hb, ?_⟩
                  have e1 : (flat xs).drop (n.toNat * s) = flat (xs.drop n.toNat) := ((flat_take_drop s xs n.toNat hs).1).symm
                  have e2 : xs.drop n.toNat = y :: xs.drop (n.toNat + 1) := by rw [← hy']; exact List.drop_eq_getElem_cons hlt
                  have e3 : ((flat xs).drop (n.toNat * s))[j]? = y.cells[j]? := by
                    rw [e1, e2]
                    unfold flat
                    rw [List.flatMap_cons, List.getElem?_append_left hj]
                  rw [List.getElem?_drop, List.getElem?_eq_getElem hb, List.getElem?_eq_getElem hj] at e3
                  exact Option.some.inj e3
                refine .rp r _ _ (fun j => uu (n.toNat * s + j)) (fun j hj => ?_) (fun j hj => ?_)
                · obtain ⟨hb, _⟩ := hcell j hj
                  have := hst _ hb
                  rwa [← Nat.add_assoc] at this
                · obtain ⟨hb, he⟩ := hcell j hj
                  rw [← he]
                  exact hkk _ hb
          · cases hv
        case hs s' b off len =>
          simp only at hv
          split at hv
          · rename_i hh
            obtain ⟨rfl, h0, h1⟩ := hh
            cases hv
            cases rx with
            | hs s b off len cap r lo hi hg hhi hcc =>
              refine ⟨.pointer (some ⟨r, lo + off + n.toNat * s, none⟩), ?_, ?_⟩
              · simp [Instr.indexAt, asIntOf, hu, hsz, addr_add]
                intro hcon
                exact absurd (hcon (by omega)) (by omega)
              · rw [Nat.add_assoc]
                exact .ptr b _ r lo hi hg
          · cases hv
    | arr nn s =>
      cases hd : P.underlying t with
      | none => simp [chkSK, hd] at hc
      | some d =>
        cases d <;> simp [chkSK, hd] at hc
        obtain ⟨rfl, hc⟩ := hc
        have hu := run_underlying P w t _ hd
        have hsz := sizeIs_run (w := w) hc
        cases x <;> try (cases hv; done)
        case ptr b off =>
          simp only at hv
          split at hv
          · cases hv
            cases rx with
            | ptr b off r lo hi hg =>
              refine ⟨.pointer (some ⟨r, lo + off + n.toNat * s, none⟩), ?_, ?_⟩
              · simp [Instr.indexAt, asIntOf, hu, hsz, addr_add, Instr.sureAddr]
                intro hcon
                exact absurd (hcon (by omega)) (by omega)
              · rw [Nat.add_assoc]
                exact .ptr b _ r lo hi hg
          · cases hv
        case rp cs =>
          simp only at hv
          split at hv
          · cases hv
            cases rx with
            | rp r o cs uu hst hkk =>
              refine ⟨.pointer (some ⟨r, o + n.toNat * s, none⟩), ?_, ?_⟩
              · simp [Instr.indexAt, asIntOf, hu, hsz, addr_add, Instr.sureAddr]
                intro hcon
                exact absurd (hcon (by omega)) (by omega)
              · refine .rp r _ _ (fun j => uu (n.toNat * s + j)) (fun j hj => ?_) (fun j hj => ?_)
                · have := hst (n.toNat * s + j) (by simp at hj; omega)
                  rwa [← Nat.add_assoc] at this
                · have := hkk (n.toNat * s + j) (by simp at hj; omega)
                  simpa using this
          · cases hv
  | _ => cases hv

theorem idx_q {k : SK} {sz t : Nat} {ux ui : Value} {x i v : V} (hc : chkSK P k t = true) (hk : idxOk P k t sz = true)
    (rx : Rel G ux x) (ri : Rel G ui i) (hv : idxV k sz x i = some v) : ∃ u, (Instr.index t ux ui).run P w = .ok u w ∧ Rel G u v := by
  cases i with
  | int kk n =>
    cases ri
    simp only [idxV] at hv
    cases hd : P.underlying t with
    | none => cases k <;> simp [chkSK, hd] at hc
    | some d =>
      have hu := run_underlying P w t _ hd
      cases k with
      | sl s => simp [idxOk, hd] at hk
      | str =>
        cases d <;> simp [chkSK, hd] at hc
        cases x <;> try (cases hv; done)
        obtain ⟨s, rfl, rfl⟩ := rel_str rx
        simp only at hv
        split at hv
        · rename_i h0
          simp only [Option.map_eq_some_iff] at hv
          obtain ⟨c, hcc, rfl⟩ := hv
          refine ⟨.int .u8 c.toNat, ?_, .int _ _⟩
          have hg : s[n.toNat]? = some c := by
            rw [← hcc, Array.getElem?_toList]
            rfl
          simp [Instr.index, asIntOf, hu, h0, hg]
        · cases hv
      | arr nn s =>
        cases d <;> simp [chkSK, hd] at hc
        rename_i len el
        obtain ⟨rfl, hc⟩ := hc
        have hsz := sizeIs_run (w := w) hc
        simp only [idxOk, hd] at hk
        cases x <;> try (cases hv; done)
        obtain ⟨us, rfl, hus⟩ := rel_agg rx
        simp only at hv
        split at hv
        · rename_i h0
          obtain ⟨u, hr, hrel⟩ := part_run (P := P) (w := w) hk hus hv
          refine ⟨u, ?_, hrel⟩
          simp [Instr.index, asIntOf, hu, hsz, h0, hr]
        · cases hv
  | _ => cases hv
end
end Ev

/-! Ev, part J: the operations that turn no memory, together. -/
namespace Ev
open Go
section
variable {P : Program} {G : Gh} {h : Heap} {ρ : Rho} {w : World}

theorem conv_q (m : Mem G h ρ w) {k : CK} {s d : Nat} {ux : Value} {x v : V} (hc : chkConv P k s d = true) (rx : Rel G ux x) (hv : convV h k x = some v) : ∃ u, (convert s d ux).run P w = .ok u w ∧ Rel G u v := by
  unfold chkConv at hc
  cases hs : P.underlying s with
  | none => cases k <;> simp [hs] at hc
  | some ds =>
    have hus := run_underlying P w s _ hs
    cases hd : P.underlying d with
    | none => cases k <;> simp [hs, hd] at hc
    | some dd =>
      have hud := run_underlying P w d _ hd
      simp only [hs, hd] at hc
      cases k with
      | i k =>
        cases dd <;> simp at hc
        subst hc
        cases x <;> simp [convV] at hv
        subst hv
        cases rx
        exact ⟨_, by simp [convert, hus, hud, Conv.intToInt], .int _ _⟩
      | ss =>
        cases dd <;> simp at hc
        cases x <;> simp [convV] at hv
        subst hv
        obtain ⟨t, rfl, rfl⟩ := rel_str rx
        exact ⟨.string t, by simp [convert, hus, hud], .str _ _ rfl⟩
      | sb => simp at hc
      | bs =>
        cases ds <;> cases dd <;> simp at hc
        rename_i el
        cases hel : P.underlying el with
        | none => simp [hel] at hc
        | some de =>
          have hue := run_underlying P w el _ hel
          have hde : de = .int .u8 := by
            cases de <;> simp [hel] at hc
            rename_i kk; cases kk <;> simp at hc; rfl
          subst hde
          have go : ∀ (r o n cap : Nat) (us : List Value) (cs : List V) (l : List UInt8), us.length = n → Rels G us cs → At w r o us → toBytes cs = some l →
              ∃ u, (Conv.bytesToString (.slice (some ⟨r, o, none⟩) n cap)).run P w = .ok u w ∧ Rel G u (.str l) := by
            intro r o n cap us cs l hn hu ha hb
            have key : ∀ (us : List Value) (cs : List V) (l : List UInt8), Rels G us cs → toBytes cs = some l → ∃ ns : List Int, us = ns.map (Value.int .u8) ∧ ns.map (fun n => UInt8.ofNat n.toNat) = l := by
              intro us
              induction us with
              | nil =>
                intro cs l hu hb
                have : cs = [] := List.length_eq_zero_iff.1 (by rw [← hu.1]; rfl)
                subst this
                simp [toBytes] at hb
                exact ⟨[], rfl, by simp [hb]⟩
              | cons u us ih =>
                intro cs l hu hb
                cases cs with
                | nil => have := hu.1; simp at this
                | cons c cs =>
                  simp only [toBytes, Option.bind_eq_some_iff] at hb
                  obtain ⟨b, h1, l', h2, h3⟩ := hb
                  cases h3
                  have hh := hu.2 0 (by simp) (by simp)
                  simp only [List.getElem_cons_zero] at hh
                  obtain ⟨ns, e1, e2⟩ := ih cs l' hu.tail h2
                  cases c <;> simp [toByte] at h1
                  rename_i kk q
                  cases kk <;> simp at h1
                  cases hh
                  exact ⟨q :: ns, by simp [e1], by simp [e2, h1]⟩
            obtain ⟨ns, e1, e2⟩ := key us cs l hu hb
            have hrun := run_loadCells_list (P := P) w ⟨r, o, none⟩ us (fun j v hv => by rw [addr_add]; exact ha j v hv)
            rw [hn, e1] at hrun
            refine ⟨_, run_bytesToString w _ n cap ns hrun, .str _ _ ?_⟩
            rw [← e2]
            clear hrun e1 e2 hb hu ha hn
            have : ∀ (ns : List Int) (s : ByteArray), (ns.foldl (fun r n => r.push (UInt8.ofNat n.toNat)) s).data.toList = s.data.toList ++ ns.map (fun n => UInt8.ofNat n.toNat) := by
              intro ns
              induction ns with
              | nil => intro s; simp
              | cons q ns ih => intro s; rw [List.foldl_cons, ih]; simp
            simpa using this ns ByteArray.empty
          have conv : ∀ u, (∃ ad n cap, u = .slice ad n cap) → (convert s d u).run P w = (Conv.bytesToString u).run P w := by
            rintro u ⟨ad, n, cap, rfl⟩
            simp [convert, hus, hud, hue]
          cases x <;> try (simp [convV] at hv; done)
          case ps s' xs =>
            have hs1 : s' = 1 := by
              by_cases e : s' = 1
              · exact e
              · simp [convV] at hv
                split at hv <;> simp_all
            subst hs1
            simp only [convV, Option.map_eq_some_iff] at hv
            obtain ⟨l, hl, rfl⟩ := hv
            have rx' := rx
            cases rx with
            | ps0 s p =>
              simp [toBytes] at hl
              subst hl
              refine ⟨.string .empty, ?_, .str _ _ (by simp)⟩
              rw [conv _ ⟨_, _, _, rfl⟩]
              cases p with
              | none => simp [Conv.bytesToString]
              | some a => exact run_bytesToString w a 0 0 [] (by simpa using run_loadCells_list (P := P) (w := w) a [] (fun j v hv => by simp at hv))
            | ps r o n cap s xs uu hn hcc hss hst hk =>
              obtain ⟨us, hu, ha, _⟩ := m.ps rx'
              have hfl := flat_length 1 xs hss
              have hcs : toBytes (flat xs) = some l := by
                have : ∀ (xs : List V) (l : List UInt8), toBytes xs = some l → toBytes (flat xs) = some l := by
                  intro xs
                  induction xs with
                  | nil => intro l h; simpa [flat] using h
                  | cons y ys ih =>
                    intro l h
                    simp only [toBytes, Option.bind_eq_some_iff] at h
                    obtain ⟨b, h1, l', h2, h3⟩ := h
                    have hy : y.cells = [y] := by cases y <;> simp [toByte] at h1 <;> rfl
                    have : flat (y :: ys) = y :: flat ys := by simp [flat, hy]
                    rw [this]
                    simp [toBytes, h1, ih l' h2, h3]
                exact this xs l hl
              obtain ⟨u, hrun, hrel⟩ := go r o n cap us (flat xs) l (by rw [hu.1, hfl]; omega) hu ha hcs
              exact ⟨u, by rw [conv _ ⟨_, _, _, rfl⟩]; exact hrun, hrel⟩
          case hn s' =>
            simp [convV] at hv
            subst hv
            cases rx with
            | hn _ p =>
            refine ⟨.string .empty, ?_, .str _ _ (by simp)⟩
            rw [conv _ ⟨_, _, _, rfl⟩]
            cases p with
            | none => simp [Conv.bytesToString]
            | some a => exact run_bytesToString w a 0 0 [] (by simpa using run_loadCells_list (P := P) (w := w) a [] (fun j v hv => by simp at hv))
          case hs s' b off len =>
            have hs1 : s' = 1 := by
              by_cases e : s' = 1
              · exact e
              · simp [convV] at hv
                split at hv <;> simp_all
            subst hs1
            simp only [convV, Option.bind_eq_some_iff, Option.map_eq_some_iff] at hv
            obtain ⟨cs, h1, l, hl, rfl⟩ := hv
            obtain ⟨r, o, cap, us, rfl, hu, ha, hcap, _⟩ := m.hs rx h1
            have hlen : cs.length = len := by
              unfold hsCells at h1
              simp only [Option.bind_eq_some_iff] at h1
              obtain ⟨row, _, h2⟩ := h1
              split at h2
              · cases h2; simp; omega
              · cases h2
            obtain ⟨u, hrun, hrel⟩ := go r (o + off) len cap us cs l (by rw [hu.1, hlen]) hu ha hl
            exact ⟨u, by rw [conv _ ⟨_, _, _, rfl⟩]; exact hrun, hrel⟩

theorem len_q {str : Bool} {t : Nat} {ux : Value} {x v : V} {ty : Nat} {ats : Array Nat} (ht : ats[0]? = some t) (hc : (match str, P.underlying t with | true, some .string => true | false, some (.slice _) => true | _, _ => false) = true)
    (rx : Rel G ux x) (hv : lenV str x = some v) : ∃ u, (Builtin.len_ ats ty #[ux]).run P w = .ok u w ∧ Rel G u v := by
  cases hd : P.underlying t with
  | none => cases str <;> simp [hd] at hc
  | some d =>
    have hu := run_underlying P w t _ hd
    cases str with
    | true =>
      cases d <;> simp [hd] at hc
      cases x <;> simp [lenV] at hv
      subst hv
      obtain ⟨s, rfl, rfl⟩ := rel_str rx
      exact ⟨.int .i64 s.size, by simp [Builtin.len_, ht, hu, goInt], by simpa using Rel.int (G := G) .i64 s.size⟩
    | false =>
      cases d <;> simp [hd] at hc
      cases x <;> simp [lenV] at hv
      · subst hv
        cases rx with
        | ps0 s p => exact ⟨.int .i64 0, by simp [Builtin.len_, ht, hu, goInt], by simpa using Rel.int (G := G) .i64 0⟩
        | ps r o n cap s xs uu hn _ _ _ _ =>
          exact ⟨.int .i64 n, by simp [Builtin.len_, ht, hu, goInt], by rw [hn]; exact .int _ _⟩
      · subst hv
        cases rx with
        | hs s b off len cap r lo hi hg hh hc => exact ⟨.int .i64 _, by simp [Builtin.len_, ht, hu, goInt], .int _ _⟩
      · subst hv
        cases rx
        exact ⟨.int .i64 0, by simp [Builtin.len_, ht, hu, goInt], .int _ _⟩

theorem mx_q {isMax : Bool} : ∀ {us : List Value} {vs : List V} {v : V}, Rels G us vs → mxV isMax vs = some v → ∃ u, ((if isMax then Builtin.max_ #[] 0 us.toArray else Builtin.min_ #[] 0 us.toArray).run P w = .ok u w) ∧ Rel G u v
  | [], [], _, _, h => by simp [mxV] at h
  | [], _ :: _, _, h, _ => by have := h.1; simp at this
  | _ :: _, [], _, h, _ => by have := h.1; simp at this
  | u :: us, x :: vs, v, hr, h => by
    simp only [mxV] at h
    have step : ∀ (us : List Value) (vs : List V) (u : Value) (x v : V), Rels G us vs → Rel G u x → vs.foldlM (mx2 isMax) x = some v →
        ∃ r, (us.foldlM (if isMax then Builtin.max2 else Builtin.min2) u).run P w = .ok r w ∧ Rel G r v := by
      intro us
      induction us with
      | nil =>
        intro vs u x v hr hx h
        have : vs = [] := List.length_eq_zero_iff.1 (by rw [← hr.1]; rfl)
        subst this
        simp at h
        subst h
        exact ⟨u, by simp, hx⟩
      | cons y ys ih =>
        intro vs u x v hr hx h
        cases vs with
        | nil => have := hr.1; simp at this
        | cons z zs =>
          simp only [List.foldlM_cons] at h
          have h := Option.bind_eq_some_iff.1 h
          obtain ⟨q, h1, h2⟩ := h
          have hz := hr.2 0 (by simp) (by simp)
          simp only [List.getElem_cons_zero] at hz
          have hrest : Rels G ys zs := hr.tail
          cases x <;> simp [mx2] at h1
          cases z <;> simp at h1
          subst h1
          cases hx
          cases hz
          obtain ⟨r, e1, e2⟩ := ih zs _ _ v hrest (.int _ _) h2
          refine ⟨r, ?_, e2⟩
          rw [List.foldlM_cons]
          cases isMax
          · simp [Builtin.min2] at e1 ⊢
            exact e1
          · simp [Builtin.max2] at e1 ⊢
            exact e1
    have hx := hr.2 0 (by simp) (by simp)
    simp only [List.getElem_cons_zero] at hx
    obtain ⟨r, e1, e2⟩ := step us vs u x v hr.tail hx h
    refine ⟨r, ?_, e2⟩
    cases isMax
    · simp [Builtin.min_] at e1 ⊢
      exact e1
    · simp [Builtin.max_] at e1 ⊢
      exact e1

theorem pair_bind {α β : Type} {x : Option α} {f : α → Option β} {y : β} (h : x.bind f = some y) : ∃ a, x = some a ∧ f a = some y := Option.bind_eq_some_iff.1 h

theorem quiet_sound (m : Mem G h ρ w) (C : Callee) {a : Act} {e : Env} (he : EnvRel G a.tmps e) {o : Oper} {ao : AOp} (hc : chkQ P ao o.op = true) {v : V} {h' : Heap} (hv : evOp C ao e h = some (v, h')) :
    h' = h ∧ ∃ u, (execOp a.eval o).run P w = .ok (.value u) w ∧ Rel G u v := by
  cases ao with
  | mv x tk =>
    simp only [evOp] at hv
    obtain ⟨x', h1, h2⟩ := pair_bind hv
    cases h2
    refine ⟨rfl, ?_⟩
    cases ho : o.op <;> simp only [chkQ, ho] at hc <;> try (cases hc; done)
    · exact ⟨_, by simp [execOp, ho], A_rel he hc h1⟩
    · exact ⟨_, by simp [execOp, ho], A_rel he hc h1⟩
  | pick c x y =>
    simp only [evOp] at hv
    obtain ⟨c', h1, h2⟩ := pair_bind hv
    obtain ⟨t, h3, h4⟩ := pair_bind h2
    obtain ⟨z, h5, h6⟩ := pair_bind h4
    cases h6
    refine ⟨rfl, ?_⟩
    cases ho : o.op <;> simp only [chkQ, ho] at hc <;> try (cases hc; done)
    simp only [Bool.and_eq_true] at hc
    obtain ⟨⟨c1, c2⟩, c3⟩ := hc
    have hb := bool_q (A_rel he c1 h1) h3
    cases t with
    | true => exact ⟨_, by simp [execOp, ho, hb, asBool], A_rel he c2 h5⟩
    | false => exact ⟨_, by simp [execOp, ho, hb, asBool], A_rel he c3 h5⟩
  | build z ps =>
    simp only [evOp] at hv
    obtain ⟨vs, h1, h2⟩ := pair_bind hv
    obtain ⟨v', h3, h4⟩ := pair_bind h2
    cases h4
    refine ⟨rfl, ?_⟩
    cases ho : o.op <;> try (simp only [chkQ, ho] at hc; cases hc; done)
    rw [ho] at hc
    obtain ⟨u, hr, hrel⟩ := build_q (w := w) he hc h1 h3
    exact ⟨u, by simp only [execOp, ho]; exact run_val hr, hrel⟩
  | load sz x =>
    simp only [evOp] at hv
    obtain ⟨x', h1, h2⟩ := pair_bind hv
    obtain ⟨v', h3, h4⟩ := pair_bind h2
    cases h4
    refine ⟨rfl, ?_⟩
    cases ho : o.op <;> simp only [chkQ, ho] at hc <;> try (cases hc; done)
    simp only [Bool.and_eq_true] at hc
    obtain ⟨u, hr, hrel⟩ := load_sound m hc.2 (A_rel he hc.1 h1) h3
    exact ⟨u, by simp only [execOp, ho]; exact run_val hr, hrel⟩
  | nilck x =>
    simp only [evOp] at hv
    obtain ⟨x', h1, h2⟩ := pair_bind hv
    obtain ⟨v', h3, h4⟩ := pair_bind h2
    cases h4
    refine ⟨rfl, ?_⟩
    cases ho : o.op <;> simp only [chkQ, ho] at hc <;> try (cases hc; done)
    have hr := A_rel he hc h1
    obtain ⟨rfl, hk⟩ := nilck_q hr h3
    refine ⟨_, ?_, hr⟩
    rcases hk with ⟨ad, hk⟩ | ⟨f, c, hk⟩ <;> simp [execOp, ho, hk]
  | bin op q x y =>
    simp only [evOp] at hv
    obtain ⟨x', h1, h2⟩ := pair_bind hv
    obtain ⟨y', h3, h4⟩ := pair_bind h2
    obtain ⟨v', h5, h6⟩ := pair_bind h4
    cases h6
    refine ⟨rfl, ?_⟩
    cases ho : o.op <;> simp only [chkQ, ho] at hc <;> try (cases hc; done)
    rename_i op' t ox oy ty
    simp only [Bool.and_eq_true, beq_iff_eq] at hc
    obtain ⟨⟨⟨rfl, c1⟩, c2⟩, c3⟩ := hc
    have rx := A_rel he c1 h1
    have ry := A_rel he c2 h3
    have fin : ∀ u, (do eqGuard op t ox oy (a.eval ox) (a.eval oy); binOp op t (a.eval ox) (a.eval oy) : Sem Value).run P w = .ok u w → (execOp a.eval o).run P w = .ok (.value u) w := fun u hu => by
      simp only [execOp, ho]; exact run_val hu
    by_cases hop : op = .eql ∨ op = .neq
    · have key : ∃ b, eqV q x' y' = some b ∧ v = .bool (if op = .eql then b else !b) := by
        rcases hop with rfl | rfl <;> simp only [binV, Option.map_eq_some_iff] at h5
        · obtain ⟨b, h6, rfl⟩ := h5; exact ⟨b, h6, by simp⟩
        · obtain ⟨b, h6, rfl⟩ := h5; exact ⟨b, h6, by simp⟩
      obtain ⟨b, hb, rfl⟩ := key
      exact ⟨_, fin _ (eqlV_q op hop c3 rx ry hb), .bool _⟩
    · have hg : eqGuard op t ox oy (a.eval ox) (a.eval oy) = pure () := by
        unfold eqGuard
        cases op <;> simp at hop <;> rfl
      rw [hg, pure_bind] at fin
      suffices hs : ∃ u, (binOp op t (a.eval ox) (a.eval oy)).run P w = .ok u w ∧ Rel G u v by
        obtain ⟨u, hu, hrel⟩ := hs
        exact ⟨u, fin u hu, hrel⟩
      have gen : (op ≠ .shl ∧ op ≠ .shr) → ∃ u, (binOp op t (a.eval ox) (a.eval oy)).run P w = .ok u w ∧ Rel G u v := by
        rintro ⟨n1, n2⟩
        have h5' : arithV op x' y' = some v := by
          unfold binV at h5
          cases op <;> simp at hop n1 n2 <;> exact h5
        unfold arithV at h5'
        cases x' <;> try (simp at h5'; done)
        · cases y' <;> simp at h5'
          obtain ⟨rfl, h5'⟩ := h5'
          rw [rel_int rx, rel_int ry]
          exact intOp_run h5' G
        · cases y' <;> simp at h5'
          obtain ⟨s1, e1, rfl⟩ := rel_str rx
          obtain ⟨s2, e2, rfl⟩ := rel_str ry
          rw [e1, e2]
          exact strCmp_run h5' G
      by_cases n1 : op = .shl
      · subst n1
        simp only [binV] at h5
        cases x' <;> cases y' <;> simp at h5
        obtain ⟨hb, rfl⟩ := h5
        rw [rel_int rx, rel_int ry]
        exact ⟨_, by simp [binOp, Op.shift, Int.not_lt.2 hb], .int _ _⟩
      · by_cases n2 : op = .shr
        · subst n2
          simp only [binV] at h5
          cases x' <;> cases y' <;> simp at h5
          obtain ⟨hb, rfl⟩ := h5
          rw [rel_int rx, rel_int ry]
          exact ⟨_, by simp [binOp, Op.shift, Int.not_lt.2 hb], .int _ _⟩
        · exact gen ⟨n1, n2⟩
  | un op x =>
    simp only [evOp] at hv
    obtain ⟨x', h1, h2⟩ := pair_bind hv
    obtain ⟨v', h3, h4⟩ := pair_bind h2
    cases h4
    refine ⟨rfl, ?_⟩
    cases ho : o.op <;> simp only [chkQ, ho] at hc <;> try (cases hc; done)
    simp only [Bool.and_eq_true, beq_iff_eq] at hc
    obtain ⟨rfl, c1⟩ := hc
    have rx := A_rel he c1 h1
    cases op <;> cases x' <;> simp only [unV] at h3 <;> try (cases h3; done)
    all_goals cases h3
    · exact ⟨.int _ _, by simp only [execOp, ho]; exact run_val (by rw [rel_int rx]; rfl), .int _ _⟩
    · exact ⟨.int _ _, by simp only [execOp, ho]; exact run_val (by rw [rel_int rx]; rfl), .int _ _⟩
    · exact ⟨.bool _, by simp only [execOp, ho]; exact run_val (by rw [rel_bool rx]; rfl), .bool _⟩
  | conv k x =>
    simp only [evOp] at hv
    obtain ⟨x', h1, h2⟩ := pair_bind hv
    obtain ⟨v', h3, h4⟩ := pair_bind h2
    cases h4
    refine ⟨rfl, ?_⟩
    cases ho : o.op <;> simp only [chkQ, ho] at hc <;> try (cases hc; done)
    simp only [Bool.and_eq_true] at hc
    obtain ⟨u, hr, hrel⟩ := conv_q m hc.2 (A_rel he hc.1 h1) h3
    exact ⟨u, by simp only [execOp, ho]; exact run_val hr, hrel⟩
  | mkif t x =>
    simp only [evOp] at hv
    obtain ⟨x', h1, h2⟩ := pair_bind hv
    cases h2
    refine ⟨rfl, ?_⟩
    cases ho : o.op <;> simp only [chkQ, ho] at hc <;> try (cases hc; done)
    rename_i t' y
    simp only [Bool.and_eq_true, beq_iff_eq] at hc
    obtain ⟨⟨rfl, c1⟩, c2⟩ := hc
    refine ⟨.iface t (a.eval y), ?_, .iface _ _ _ (A_rel he c1 h1)⟩
    simp only [execOp, ho]
    refine run_val ?_
    cases hd : P.underlying t with
    | none => simp [hd] at c2
    | some d =>
      have hu := run_underlying P w t _ hd
      simp only [Instr.makeInterface, Sem.run_bind, hu, Result.andThen_ok]
      cases d <;> simp [hd] at c2 <;> rfl
  | mkfn f cap =>
    simp only [evOp] at hv
    obtain ⟨vs, h1, h2⟩ := pair_bind hv
    cases h2
    refine ⟨rfl, ?_⟩
    cases ho : o.op <;> simp only [chkQ, ho] at hc <;> try (cases hc; done)
    rename_i fn first captured
    cases fn <;> simp only at hc <;> try (cases hc; done)
    simp only [Bool.and_eq_true, beq_iff_eq] at hc
    obtain ⟨⟨rfl, c1⟩, c2⟩ := hc
    have hf : first = #[] := Array.eq_empty_of_size_eq_zero c1
    subst hf
    have hr := As_rel he cap captured.toList c2 vs h1
    refine ⟨.func (.func f) #[] (captured.map a.eval), ?_, Rels.toFn (by simpa using hr)⟩
    simp only [execOp, ho]
    exact run_val (by simp [Instr.makeFunc])
  | sl k x lo hi mx tk =>
    simp only [evOp] at hv
    obtain ⟨x', h1, h2⟩ := pair_bind hv
    obtain ⟨lo', h3, h4⟩ := pair_bind h2
    obtain ⟨hi', h5, h6⟩ := pair_bind h4
    obtain ⟨mx', h7, h8⟩ := pair_bind h6
    obtain ⟨v', h9, h10⟩ := pair_bind h8
    cases h10
    refine ⟨rfl, ?_⟩
    cases ho : o.op <;> try (simp only [chkQ, ho] at hc; cases hc; done)
    rw [ho] at hc
    obtain ⟨u, hr, hrel, _⟩ := sl_q m he hc h1 h3 h5 h7 (slT_le h9).1
    exact ⟨u, by simp only [execOp, ho]; exact run_val hr, hrel⟩
  | fa off x =>
    simp only [evOp] at hv
    obtain ⟨x', h1, h2⟩ := pair_bind hv
    obtain ⟨v', h3, h4⟩ := pair_bind h2
    cases h4
    refine ⟨rfl, ?_⟩
    cases ho : o.op <;> simp only [chkQ, ho] at hc <;> try (cases hc; done)
    rename_i t y i
    simp only [Bool.and_eq_true] at hc
    obtain ⟨c1, c2⟩ := hc
    have rx := A_rel he c1 h1
    cases hd : P.underlying t with
    | none => simp [hd] at c2
    | some d =>
      have hu := run_underlying P w t _ hd
      cases d <;> simp [hd] at c2
      rename_i fields
      cases hf : fields[i]? with
      | none => simp [hf] at c2
      | some f =>
        simp [hf] at c2
        obtain ⟨rfl, c2⟩ := c2
        cases hti : P.info? f.type with
        | none => simp [hti] at c2
        | some ti =>
          simp [hti] at c2
          have hsz := run_sizeOf P w _ ti hti
          have hrun : ∀ r oo, a.eval y = .pointer (some ⟨r, oo, none⟩) → (Instr.fieldAt t (a.eval y) i).run P w = .ok (.pointer (some ⟨r, oo + f.offset, none⟩)) w := fun r oo hy => by
            simp [Instr.fieldAt, hu, hf, hy, Instr.sureAddr, fieldPlace, hsz, c2, addr_add]
          cases x' <;> simp [faV] at h3 <;> subst h3
          · generalize hy : a.eval y = uy at rx
            cases rx
            rename_i r lo hi hg
            refine ⟨_, by simp only [execOp, ho]; exact run_val (hrun _ _ hy), ?_⟩
            rw [Nat.add_assoc]
            exact .ptr _ _ r lo hi hg
          · generalize hy : a.eval y = uy at rx
            cases rx with
            | rp r o2 cs uu hst hk =>
              refine ⟨.pointer (some ⟨r, o2 + f.offset, none⟩), by simp only [execOp, ho]; exact run_val (hrun _ _ hy), ?_⟩
              refine .rp r _ _ (fun j => uu (f.offset + j)) (fun j hj => ?_) (fun j hj => ?_)
              · have := hst (f.offset + j) (by simp at hj; omega)
                rwa [← Nat.add_assoc] at this
              · have := hk (f.offset + j) (by simp at hj; omega)
                simpa using this
  | fld off sz x =>
    simp only [evOp] at hv
    obtain ⟨x', h1, h2⟩ := pair_bind hv
    obtain ⟨v', h3, h4⟩ := pair_bind h2
    cases h4
    refine ⟨rfl, ?_⟩
    cases ho : o.op <;> simp only [chkQ, ho] at hc <;> try (cases hc; done)
    rename_i t y i
    simp only [Bool.and_eq_true] at hc
    obtain ⟨c1, c2⟩ := hc
    have rx := A_rel he c1 h1
    cases hd : P.underlying t with
    | none => simp [hd] at c2
    | some d =>
      have hu := run_underlying P w t _ hd
      cases d <;> simp [hd] at c2
      rename_i fields
      cases hf : fields[i]? with
      | none => simp [hf] at c2
      | some f =>
        simp [hf] at c2
        obtain ⟨rfl, c2⟩ := c2
        cases x' <;> simp [fldV] at h3
        generalize hy : a.eval y = uy at rx
        obtain ⟨us, rfl, hus⟩ := rel_agg rx
        obtain ⟨u, hr, hrel⟩ := part_run (P := P) (w := w) c2 hus h3
        refine ⟨u, ?_, hrel⟩
        simp only [execOp, ho]
        exact run_val (by simp [Instr.field, hu, hf, hy, asAgg, hr])
  | ia k x i =>
    simp only [evOp] at hv
    obtain ⟨x', h1, h2⟩ := pair_bind hv
    obtain ⟨i', h3, h4⟩ := pair_bind h2
    obtain ⟨v', h5, h6⟩ := pair_bind h4
    cases h6
    refine ⟨rfl, ?_⟩
    cases ho : o.op <;> simp only [chkQ, ho] at hc <;> try (cases hc; done)
    simp only [Bool.and_eq_true] at hc
    obtain ⟨⟨⟨c1, c2⟩, c3⟩, c4⟩ := hc
    obtain ⟨u, hr, hrel⟩ := ia_q m c3 c4 (A_rel he c1 h1) (A_rel he c2 h3) h5
    exact ⟨u, by simp only [execOp, ho]; exact run_val hr, hrel⟩
  | idx k sz x i =>
    simp only [evOp] at hv
    obtain ⟨x', h1, h2⟩ := pair_bind hv
    obtain ⟨i', h3, h4⟩ := pair_bind h2
    obtain ⟨v', h5, h6⟩ := pair_bind h4
    cases h6
    refine ⟨rfl, ?_⟩
    cases ho : o.op <;> simp only [chkQ, ho] at hc <;> try (cases hc; done)
    simp only [Bool.and_eq_true] at hc
    obtain ⟨⟨⟨c1, c2⟩, c3⟩, c4⟩ := hc
    obtain ⟨u, hr, hrel⟩ := idx_q (w := w) c3 c4 (A_rel he c1 h1) (A_rel he c2 h3) h5
    exact ⟨u, by simp only [execOp, ho]; exact run_val hr, hrel⟩
  | ta t z ok x =>
    simp only [evOp] at hv
    obtain ⟨x', h1, h2⟩ := pair_bind hv
    obtain ⟨v', h3, h4⟩ := pair_bind h2
    cases h4
    refine ⟨rfl, ?_⟩
    cases ho : o.op <;> simp only [chkQ, ho] at hc <;> try (cases hc; done)
    rename_i y xt t' ok'
    simp only [Bool.and_eq_true, beq_iff_eq] at hc
    obtain ⟨⟨⟨⟨c1, rfl⟩, rfl⟩, c4⟩, c5⟩ := hc
    have rx := A_rel he c1 h1
    cases hd : P.underlying t with
    | none => simp [hd] at c4
    | some d =>
      have hu := run_underlying P w t _ hd
      have hz : ok = true → ∃ u, (zeroValue t).run P w = .ok u w ∧ Rel G u z := fun h => by
        subst h
        exact zero_run (by simpa using c5) G
      have two : ∀ {u : Value} {x : V} {b : Bool}, Rel G u x → Rel G (.tuple #[u, .bool b]) (.tup [x, .bool b]) := fun h => Rels.toTup (.cons h (.cons (.bool _) .nil))
      have asrt : ∀ u, (Instr.typeAssert (a.eval y) xt t ok).run P w = .ok u w → (execOp a.eval o).run P w = .ok (.value u) w := fun u hu' => by
        simp only [execOp, ho]; exact run_val hu'
      generalize hy : a.eval y = uy at rx
      rw [hy] at asrt
      cases x' <;> simp only [taV] at h3 <;> try (cases h3; done)
      · rename_i t2 x2
        cases rx with
        | iface tt vv xx hk =>
          split at h3
          · rename_i he2
            subst he2
            cases h3
            cases ok
            · refine ⟨vv, asrt _ ?_, hk⟩
              simp only [Instr.typeAssert, Sem.run_bind, hu, Result.andThen_ok]
              cases d <;> simp [hd] at c4 <;> simp
            · refine ⟨.tuple #[vv, .bool true], asrt _ ?_, two hk⟩
              simp only [Instr.typeAssert, Sem.run_bind, hu, Result.andThen_ok]
              cases d <;> simp [hd] at c4 <;> simp
          · rename_i he2
            cases ok
            · simp at h3
            · simp at h3
              subst h3
              obtain ⟨zu, hzr, hzz⟩ := hz rfl
              refine ⟨.tuple #[zu, .bool false], asrt _ ?_, two hzz⟩
              simp only [Instr.typeAssert, Sem.run_bind, hu, Result.andThen_ok]
              cases d <;> simp [hd] at c4 <;> simp [he2, hzr]
      · cases rx
        cases ok
        · simp at h3
        · simp at h3
          subst h3
          obtain ⟨zu, hzr, hzz⟩ := hz rfl
          refine ⟨.tuple #[zu, .bool false], asrt _ ?_, two hzz⟩
          simp only [Instr.typeAssert, Sem.run_bind, hu, Result.andThen_ok]
          cases d <;> simp [hd] at c4 <;> simp [hzr]
  | ext x i =>
    simp only [evOp] at hv
    obtain ⟨x', h1, h2⟩ := pair_bind hv
    obtain ⟨v', h3, h4⟩ := pair_bind h2
    cases h4
    refine ⟨rfl, ?_⟩
    cases ho : o.op <;> simp only [chkQ, ho] at hc <;> try (cases hc; done)
    rename_i y j
    simp only [Bool.and_eq_true, beq_iff_eq] at hc
    obtain ⟨c1, rfl⟩ := hc
    have rx := A_rel he c1 h1
    generalize hy : a.eval y = uy at rx
    cases x' <;> simp [extV] at h3
    cases rx with
    | tup us vs hl hk =>
      obtain ⟨hlt, rfl⟩ := List.getElem?_eq_some_iff.1 h3
      refine ⟨us[i], ?_, hk i (by omega) hlt⟩
      simp only [execOp, ho]
      exact run_val (by simp [Instr.extract, hy, show i < us.size by omega])
  | len str x =>
    simp only [evOp] at hv
    obtain ⟨x', h1, h2⟩ := pair_bind hv
    obtain ⟨v', h3, h4⟩ := pair_bind h2
    cases h4
    refine ⟨rfl, ?_⟩
    cases ho : o.op <;> simp only [chkQ, ho] at hc <;> try (cases hc; done)
    rename_i c
    obtain ⟨callee, args, ats⟩ := c
    cases callee with
    | builtin b =>
      cases b <;> simp only at hc <;> try (cases hc; done)
      split at hc
      · rename_i y t ha ht
        simp only [Bool.and_eq_true] at hc
        obtain ⟨c1, c2⟩ := hc
        have hargs : args = #[y] := by
          apply Array.ext'
          simpa using ha
        subst hargs
        obtain ⟨u, hr, hrel⟩ := len_q (w := w) (ty := o.type) ht c2 (A_rel he c1 h1) h3
        refine ⟨u, ?_, hrel⟩
        simp only [execOp, ho, resolve, pure_bind, invoke, builtin]
        exact run_val (by simpa using hr)
      · cases hc
    | _ => cases hc
  | mx isMax xs =>
    simp only [evOp] at hv
    obtain ⟨vs, h1, h2⟩ := pair_bind hv
    obtain ⟨v', h3, h4⟩ := pair_bind h2
    cases h4
    refine ⟨rfl, ?_⟩
    cases ho : o.op <;> simp only [chkQ, ho] at hc <;> try (cases hc; done)
    rename_i c
    obtain ⟨callee, args, ats⟩ := c
    cases callee with
    | builtin b =>
      cases b <;> simp only at hc <;> try (cases hc; done)
      · simp only [Bool.and_eq_true] at hc
        obtain ⟨rfl, c2⟩ := hc
        obtain ⟨u, hr, hrel⟩ := mx_q (P := P) (w := w) (As_rel he xs args.toList c2 vs h1) h3
        refine ⟨u, ?_, hrel⟩
        simp only [execOp, ho, resolve, pure_bind, invoke, builtin]
        refine run_val ?_
        simp only [if_true] at hr
        have e : (args.map a.eval).toList = (args.toList.map a.eval).toArray.toList := by simp
        unfold Builtin.max_ at hr ⊢
        rw [e]; exact hr
      · simp only [Bool.and_eq_true, Bool.not_eq_true'] at hc
        obtain ⟨rfl, c2⟩ := hc
        obtain ⟨u, hr, hrel⟩ := mx_q (P := P) (w := w) (As_rel he xs args.toList c2 vs h1) h3
        refine ⟨u, ?_, hrel⟩
        simp only [execOp, ho, resolve, pure_bind, invoke, builtin]
        refine run_val ?_
        simp only [Bool.false_eq_true, if_false] at hr
        have e : (args.map a.eval).toList = (args.toList.map a.eval).toArray.toList := by simp
        unfold Builtin.min_ at hr ⊢
        rw [e]; exact hr
    | _ => cases hc
  | _ => simp [chkQ] at hc
end
end Ev
