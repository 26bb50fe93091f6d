/- The evaluator of abstract code, Ev9: arguments are abstract values; a law of the abstract values is a law of the program. No condition of its own: each theorem states its own. -/
import Derived.Test.YtnpegllmmckpgaaEv7
import Derived.Test.YtnpegllmmckpgaaEv8
import Derived.ChangeArms
import Derived.SizedLaws
import Derived.Below
import Derived.WideShapes
set_option linter.all false
/-! Ev, part 2J: arguments as they are read out of the model's memory are abstract values; a law that holds of these is a law of the program. -/
namespace Ev
open Go

/-- The shape of a cell. -/
inductive CS where
  | b
  | i (k : IntKind)
  | s
  | sl (ag : Bool) (bytes : Nat) (es : List CS)
  | rc (t bytes : Nat)

/-- Structs that hold slices of themselves: their types' numbers, and their cells' shapes. -/
def RS : List (Nat × List CS) := []

inductive Ty : CS → V → Prop where
  | b (x : Bool) : Ty .b (.bool x)
  | i (k : IntKind) (n : Int) (h1 : k.min ≤ n) (h2 : n ≤ k.max) : Ty (.i k) (.int k n)
  | s (l : List UInt8) (h : l.length ≤ 140737488351232) : Ty .s (.str l)
  | sl (ag : Bool) (bytes : Nat) (es : List CS) (xs : List V) (hn : xs.length * bytes ≤ 140737488351232) (hs : ∀ x ∈ xs, x.cells.length = es.length) (ha : ∀ x ∈ xs, ag = true → ∃ vs, x = .agg vs)
      (ho : ∀ x ∈ xs, ag = false → x.cells = [x]) (k : ∀ i (hi : i < xs.length) j (hj : j < es.length) (hj' : j < (xs[i].cells).length), Ty es[j] (xs[i].cells)[j]) : Ty (.sl ag bytes es) (.ps es.length xs)
  | rc (t bytes : Nat) (es : List CS) (he : RS.lookup t = some es) (xs : List V) (hn : xs.length * bytes ≤ 140737488351232) (hs : ∀ x ∈ xs, x.cells.length = es.length) (ha : ∀ x ∈ xs, ∃ vs, x = .agg vs)
      (k : ∀ i (hi : i < xs.length) j (hj : j < es.length) (hj' : j < (xs[i].cells).length), Ty es[j] (xs[i].cells)[j]) : Ty (.rc t bytes) (.ps es.length xs)

def Row (ss : List CS) (vs : List V) : Prop := vs.length = ss.length ∧ ∀ j (h : j < ss.length) (h' : j < vs.length), Ty ss[j] vs[j]
theorem Row.nil : Row [] [] := ⟨rfl, fun j h => by simp at h⟩
theorem Row.append {ss ss' : List CS} {vs vs' : List V} (h : Row ss vs) (k : Row ss' vs') : Row (ss ++ ss') (vs ++ vs') := by
  refine ⟨by simp [h.1, k.1], fun j a b => ?_⟩
  by_cases hj : j < ss.length
  · rw [List.getElem_append_left hj, List.getElem_append_left (by rw [h.1]; exact hj)]; exact h.2 j hj _
  · have h1 := h.1
    have := k.2 (j - ss.length) (by simp at a; omega) (by simp at b; omega)
    rw [List.getElem_append_right (by omega), List.getElem_append_right (by omega)]
    simpa [h1] using this

/-! ### how much a value holds -/
mutual
def V.bulk : V → Nat
  | .str l => l.length + 1
  | .agg cs => V.bulks cs
  | .tup vs => V.bulks vs
  | .ps _ xs => V.bulks xs + 1
  | _ => 1
def V.bulks : List V → Nat
  | [] => 0
  | x :: r => V.bulk x + V.bulks r
end
theorem bulks_append : ∀ (a b : List V), V.bulks (a ++ b) = V.bulks a + V.bulks b
  | [], b => by simp [V.bulks]
  | x :: r, b => by simp only [List.cons_append, V.bulks, bulks_append r b]; omega
theorem bulks_le {α : Type} {f : α → Nat} : ∀ (xs : List V) (l : List α), xs.length = l.length → (∀ i (h : i < xs.length) (h' : i < l.length), V.bulk xs[i] ≤ f l[i]) → V.bulks xs ≤ (l.map f).sum
  | [], l, _, _ => by simp [V.bulks]
  | x :: r, [], h, _ => by simp at h
  | x :: r, y :: l, h, k => by
    have h1 := k 0 (by simp) (by simp)
    have h2 := bulks_le r l (by simpa using h) fun i a b => by
      have := k (i + 1) (by simp; omega) (by simp; omega)
      simpa using this
    simp only [V.bulks, List.map_cons, List.sum_cons]
    simp only [List.getElem_cons_zero] at h1
    omega

/-- A measure of data that counts each letter and each value. -/
structure Bk {H : Type} (β : DataW H → Nat) : Prop where
  one : ∀ d, 1 ≤ β d
  str : ∀ b, b.length + 1 ≤ β (.lit (.string b))
  slice : ∀ l r, (l.map β).sum + 1 ≤ β (.slice l r)
  agg : ∀ l, (l.map β).sum ≤ β (.agg l)

def isAg (P : Program) (t : TypeId) : Bool := match P.underlying t with | some (.struct _) => true | some (.array _ _) => true | _ => false

def fieldsSh (sh : TypeId → Option (List CS)) (P : Program) : List Field → Nat → Option (List CS)
  | [], _ => some []
  | f :: fs, off => if f.offset = off then (sh f.type).bind fun a => if a.length = P.cellsOf f.type then (fieldsSh sh P fs (off + a.length)).bind fun b => some (a ++ b) else none else none

def shOf (P : Program) : Nat → TypeId → Option (List CS)
  | 0, _ => none
  | n + 1, t => match P.underlying t with
    | some .bool => some [.b]
    | some (.int k) => some [.i k]
    | some .string => some [.s]
    | some (.slice e) => match RS.lookup e with
      | some es => if es.length = P.cellsOf e ∧ 0 < es.length ∧ 0 < P.bytesOf e ∧ isAg P e = true then some [.rc e (P.bytesOf e)] else none
      | none => (shOf P n e).bind fun es => if es.length = P.cellsOf e ∧ 0 < es.length ∧ 0 < P.bytesOf e ∧ (isAg P e = true ∨ es.length = 1) then some [.sl (isAg P e) (P.bytesOf e) es] else none
    | some (.struct fs) => (fieldsSh (shOf P n) P fs.toList 0).bind fun ss => if ss.length = P.cellsOf t then some ss else none
    | some (.array k e) => (shOf P n e).bind fun es => if es.length = P.cellsOf e ∧ (List.replicate k es).flatten.length = P.cellsOf t then some (List.replicate k es).flatten else none
    | _ => none

/-- What the arguments' memory tells: each cell as it lies there. -/
def G0 (w : World) : Gh := { st := fun r o => match w.cell? ⟨r, o, none⟩ with | some v => if v.oneCell' = true then some v else none | none => none, reg := fun _ => none }
def ρ0 : Rho := fun _ => none
theorem mem0 (w : World) : Mem (G0 w) [] ρ0 w where
  st := fun r o v h => by
    simp only [G0] at h
    split at h
    · rename_i u hu
      split at h
      · rename_i ho
        cases h
        exact ⟨hu, ho⟩
      · cases h
    · cases h
  blk := fun b cs h => by simp at h
  lt := fun b x h => by cases h
  own := fun x r lo hi h => by cases h
  dis := fun x y r lo hi lo' hi' _ h => by cases h
  ob := fun b h => absurd rfl h
  obs := fun b r h => by cases h
theorem st0 {w : World} {r o : Nat} {v : Value} (h : w.cell? ⟨r, o, none⟩ = some v) (ho : v.oneCell' = true) : (G0 w).st r o = some v := by
  simp only [G0, h, ho, if_true]

theorem Ty.oneCell {G : Gh} {c : CS} {x : V} {v : Value} (h : Ty c x) (r : Rel G v x) : v.oneCell' = true := by
  cases h <;> cases r <;> rfl
theorem Ty.cells_one {c : CS} {x : V} (h : Ty c x) : x.cells = [x] := by cases h <;> rfl

theorem flat_get (s : Nat) (xs : List V) (hs : ∀ x ∈ xs, x.cells.length = s) (i q : Nat) (hi : i < xs.length) (hq : q < s) : (flat xs)[i * s + q]? = (xs[i].cells)[q]? := by
  have h1 := (flat_take_drop s xs i hs).1
  rw [← List.getElem?_drop, ← h1, List.drop_eq_getElem_cons hi]
  unfold flat
  rw [List.flatMap_cons, List.getElem?_append_left (by rw [hs _ (List.getElem_mem _)]; exact hq)]

theorem cells_all {w : World} {base : Nat} {a : Addr} {n : Nat} {cs : List Value} (h : w.cells? base a n = some cs) : cs.length = n ∧ ∀ j, j < n → w.cell? (a.add j) = cs[j]? := by
  unfold World.cells? at h
  split at h
  · have h1 := mapM_some_length h
    refine ⟨by simpa using h1, fun j hj => ?_⟩
    exact mapM_some_get h j j (by simp [hj])
  · cases h

section
variable {H : Type} {enc : TypeId × Value → H} {P : Program} {w : World} {spare : Nat → Bool} {held : Bool} {β : DataW H → Nat}

theorem weightsAll_mem {e : TypeId} : ∀ {l : List (DataW H)} {d : DataW H}, d ∈ l → ∀ n ∈ d.weights P e, n ∈ DataW.weightsAll P e l
  | x :: r, d, hd, n, hn => by
    rw [DataW.weightsAll, List.mem_append]
    rcases List.mem_cons.1 hd with rfl | hd
    · exact .inl hn
    · exact .inr (weightsAll_mem hd n hn)

theorem add_add (a : Addr) (i j : Nat) (h : a.spot = none) : (a.add i).add j = ⟨a.block, a.off + i + j, none⟩ := by
  obtain ⟨b, o, s⟩ := a
  simp at h
  subst h
  rw [addr_add, addr_add]

theorem struct_rel (P : Program) (n m : Nat) (ih : ∀ t (cs : List Value) (x : DataW H × List MemPlace) ss, DataW.trod enc P w 0 spare held m t cs = some x → shOf P n t = some ss → (∀ k ∈ x.1.weights P t, k ≤ reachBytes) → ∃ vs, Rels (G0 w) cs vs ∧ Row ss vs ∧ V.bulks vs ≤ β x.1) (cs : List Value) :
    ∀ (fs : List Field) (off : Nat) (xs : List (DataW H × List MemPlace)) (ss : List CS), fieldsSh (shOf P n) P fs off = some ss → xs.length = fs.length →
      (∀ (i : Nat) (f : Field), fs[i]? = some f → DataW.trod enc P w 0 spare held m f.type ((cs.drop f.offset).take (P.cellsOf f.type)) = xs[i]?) →
      (∀ k ∈ DataW.weightsEach P (fs.map (·.type)) (xs.map (·.1)), k ≤ reachBytes) → off + ss.length ≤ cs.length →
      ∃ vs, Rels (G0 w) ((cs.drop off).take ss.length) vs ∧ Row ss vs ∧ V.bulks vs ≤ ((xs.map (·.1)).map β).sum
  | [], off, xs, ss, hf, hl, ht, hw, hlen => by
    simp [fieldsSh] at hf
    subst hf
    exact ⟨[], by simpa using Rels.nil, Row.nil, by simp [V.bulks]⟩
  | f :: fs, off, [], ss, hf, hl, ht, hw, hlen => by simp at hl
  | f :: fs, off, x :: xs, ss, hf, hl, ht, hw, hlen => by
    simp only [fieldsSh] at hf
    split at hf
    case isFalse => cases hf
    rename_i hoff
    rw [Option.bind_eq_some_iff] at hf; obtain ⟨a, ha, hf⟩ := hf
    split at hf
    case isFalse => cases hf
    rename_i hac
    rw [Option.bind_eq_some_iff] at hf; obtain ⟨b, hb, hf⟩ := hf
    cases hf
    have h0 := ht 0 f (by simp)
    simp only [List.getElem?_cons_zero] at h0
    simp only [List.map_cons, DataW.weightsEach, List.mem_append] at hw
    simp only [List.length_append] at hlen
    obtain ⟨vs, r1, r2, b1⟩ := ih f.type _ x a h0 ha (fun k hk => hw k (.inl hk))
    obtain ⟨us, r3, r4, b2⟩ := struct_rel P n m ih cs fs (off + a.length) xs b hb (by simpa using hl) (fun i g hg => by
      have := ht (i + 1) g (by simpa using hg)
      simpa using this) (fun k hk => hw k (.inr hk)) (by omega)
    refine ⟨vs ++ us, ?_, r2.append r4, by rw [bulks_append]; simp only [List.map_cons, List.sum_cons]; omega⟩
    have e : (cs.drop off).take (a ++ b).length = (cs.drop off).take a.length ++ (cs.drop (off + a.length)).take b.length := by
      rw [List.length_append, List.take_add, List.drop_drop]
    rw [e]
    rw [hoff, ← hac] at r1
    exact r1.append r3

theorem trod_array {m t k e : Nat} {cs : List Value} {x : DataW H × List MemPlace} (ht : P.underlying t = some (.array k e)) (h : DataW.trod enc P w 0 spare held m t cs = some x) :
    ∃ (xs : List (DataW H × List MemPlace)) (n : Nat), m = n + 1 ∧ x = (.agg (xs.map (·.1)), xs.flatMap (·.2)) ∧ cs.length = P.cellsOf t ∧ xs.length = k ∧
      ∀ i, i < k → DataW.trod enc P w 0 spare held n e ((cs.drop (i * P.cellsOf e)).take (P.cellsOf e)) = xs[i]? := by
  cases m with
  | zero => simp [DataW.trod] at h
  | succ n =>
    unfold DataW.trod at h
    rw [ht] at h
    split at h <;> simp_all
    obtain ⟨hl, xs, hp, hd⟩ := h
    exact ⟨xs, hd.symm, by simpa using mapM_some_length hp, fun i hi => mapM_some_get hp i i (by simp [hi])⟩
theorem array_rel (P : Program) (m e c : Nat) (es : List CS) (hc : es.length = c) (ih : ∀ (cs : List Value) (x : DataW H × List MemPlace), DataW.trod enc P w 0 spare held m e cs = some x → (∀ k ∈ x.1.weights P e, k ≤ reachBytes) → ∃ vs, Rels (G0 w) cs vs ∧ Row es vs ∧ V.bulks vs ≤ β x.1) (cs : List Value) :
    ∀ (xs : List (DataW H × List MemPlace)) (i : Nat), (∀ q, q < xs.length → DataW.trod enc P w 0 spare held m e ((cs.drop ((i + q) * c)).take c) = xs[q]?) → (∀ k ∈ DataW.weightsAll P e (xs.map (·.1)), k ≤ reachBytes) →
      ∃ vs, Rels (G0 w) ((cs.drop (i * c)).take (xs.length * c)) vs ∧ Row (List.replicate xs.length es).flatten vs ∧ V.bulks vs ≤ ((xs.map (·.1)).map β).sum
  | [], i, _, _ => ⟨[], by simpa using Rels.nil, by simpa using Row.nil, by simp [V.bulks]⟩
  | x :: xs, i, ht, hw => by
    have h0 := ht 0 (by simp)
    simp only [List.getElem?_cons_zero, Nat.add_zero] at h0
    simp only [List.map_cons, DataW.weightsAll, List.mem_append] at hw
    obtain ⟨vs, r1, r2, b1⟩ := ih _ x h0 (fun k hk => hw k (.inl hk))
    obtain ⟨us, r3, r4, b2⟩ := array_rel P m e c es hc ih cs xs (i + 1) (fun q hq => by
      have := ht (q + 1) (by simpa using hq)
      simp only [List.getElem?_cons_succ] at this
      rw [← this, show i + 1 + q = i + (q + 1) by omega]) (fun k hk => hw k (.inr hk))
    refine ⟨vs ++ us, ?_, ?_, by rw [bulks_append]; simp only [List.map_cons, List.sum_cons]; omega⟩
    · have e1 : (cs.drop (i * c)).take ((x :: xs).length * c) = (cs.drop (i * c)).take c ++ (cs.drop ((i + 1) * c)).take (xs.length * c) := by
        rw [List.length_cons, show (xs.length + 1) * c = c + xs.length * c by rw [Nat.add_mul, Nat.one_mul, Nat.add_comm], List.take_add, List.drop_drop, show (i + 1) * c = i * c + c by rw [Nat.add_mul, Nat.one_mul]]
      rw [e1]
      exact r1.append r3
    · rw [List.length_cons, List.replicate_succ, List.flatten_cons]
      exact r2.append r4

theorem gl_mem' {α : Type} {g : Nat} {cs : α} : ∀ {l : List (Nat × α)}, l.lookup g = some cs → (g, cs) ∈ l
  | [], h => by cases h
  | (a, b) :: r, h => by
    simp only [List.lookup] at h
    split at h
    · rename_i e
      have : g = a := by simpa using e
      cases h
      rw [this]
      exact List.mem_cons_self
    · exact List.mem_cons_of_mem _ (gl_mem' h)
theorem gen_slice (hβ : Bk β) (hspare : ∀ b, spare b = true) {m : Nat} {t e : TypeId} {cs : List Value} {x : DataW H × List MemPlace} (hu : P.underlying t = some (.slice e)) (ht : DataW.trod enc P w 0 spare held m t cs = some x) (hw : ∀ k ∈ x.1.weights P t, k ≤ reachBytes)
    {es : List CS} {c : CS} (hc1 : es.length = P.cellsOf e) (hc2 : 0 < es.length) (hc4 : isAg P e = true ∨ es.length = 1)
    (hels : ∀ m', m' < m → ∀ (ci : List Value) (y : DataW H × List MemPlace), DataW.trod enc P w 0 spare held m' e ci = some y → (∀ k ∈ y.1.weights P e, k ≤ reachBytes) → ∃ vs, Rels (G0 w) ci vs ∧ Row es vs ∧ V.bulks vs ≤ β y.1)
    (mkTy : ∀ (xs : List V), xs.length * P.bytesOf e ≤ 140737488351232 → (∀ x ∈ xs, x.cells.length = es.length) → (∀ x ∈ xs, isAg P e = true → ∃ vs, x = .agg vs) → (∀ x ∈ xs, isAg P e = false → x.cells = [x]) →
              (∀ i (hi : i < xs.length) j (hj : j < es.length) (hj' : j < (xs[i].cells).length), Ty es[j] (xs[i].cells)[j]) → Ty c (.ps es.length xs)) : ∃ vs, Rels (G0 w) cs vs ∧ Row [c] vs ∧ V.bulks vs ≤ β x.1 := by
  have one : ∀ {u : Value} {v : V} {c : CS} {q : Nat}, Rel (G0 w) u v → Ty c v → V.bulk v ≤ q → ∃ vs, Rels (G0 w) [u] vs ∧ Row [c] vs ∧ V.bulks vs ≤ q := fun {u v c q} hr hty hq =>
    ⟨[v], Rels.cons hr Rels.nil, ⟨rfl, fun j h h' => by
      have : j = 0 := by simp at h; omega
      subst this; exact hty⟩, by simpa [V.bulks] using hq⟩
  rcases DataW.trod_slice hu ht with ⟨rfl, rfl⟩ | ⟨a, len, cap, elems, rest, m', rfl, rfl, rfl, _, hle, _, hel, hget, hsp, hns⟩
  · exact one (.ps0 es.length none) (mkTy [] (by simp) (by simp) (by simp) (by simp) (fun i hi => by simp at hi)) (by simpa [V.bulk, V.bulks] using hβ.one _)
  · have hwl : (elems.length + rest.length) * P.bytesOf e ≤ reachBytes := hw _ (by simp [DataW.weights, hu])
    have hwe : ∀ y ∈ elems, ∀ k ∈ y.1.weights P e, k ≤ reachBytes := fun y hy k hk => hw k (by
      simp only [DataW.weights, hu, List.mem_cons, List.mem_append]
      exact .inr (.inl (weightsAll_mem (List.mem_map.2 ⟨y, hy, rfl⟩) k hk)))
    -- each element
    have each : ∀ i, i < len → ∃ vs ci, w.cells? 0 (a.add (i * P.cellsOf e)) (P.cellsOf e) = some ci ∧ Rels (G0 w) ci vs ∧ Row es vs ∧ ∀ (hb : i < elems.length), V.bulks vs ≤ β elems[i].1 := fun i hi => by
      have h1 := hget i hi
      rw [List.getElem?_eq_getElem (by omega)] at h1
      rw [Option.bind_eq_some_iff] at h1
      obtain ⟨ci, h2, h3⟩ := h1
      obtain ⟨vs, r1, r2, b1⟩ := hels m' (by omega) ci _ h3 (hwe _ (List.getElem_mem _))
      exact ⟨vs, ci, h2, r1, r2, fun _ => b1⟩
    have bound : ∀ xs : List V, xs.length = len → xs.length * P.bytesOf e ≤ 140737488351232 := fun xs hx => by
      have : xs.length * P.bytesOf e ≤ (elems.length + rest.length) * P.bytesOf e := Nat.mul_le_mul_right _ (by omega)
      have : reachBytes = 140737488351232 := rfl
      omega
    rcases Nat.eq_zero_or_pos cap with hcap | hcap
    · have h0 : len = 0 := by omega
      subst h0 hcap
      exact one (.ps0 es.length (some a)) (mkTy [] (by simp) (by simp) (by simp) (by simp) (fun i hi => by simp at hi)) (by simpa [V.bulk, V.bulks] using hβ.one _)
    · -- the address is a plain one
      have hspot : a.spot = none := by
        have : ∃ ci, w.cells? 0 (a.add 0) (P.cellsOf e) = some ci := by
          rcases Nat.eq_zero_or_pos len with h0 | h0
          · cases hsa : spare a.block with
            | false => rw [hspare] at hsa; cases hsa
            | true =>
              obtain ⟨h1, h2⟩ := hsp hsa
              have h3 := h2 0 (by omega)
              rw [List.getElem?_eq_getElem (by omega), Option.bind_eq_some_iff] at h3
              obtain ⟨ci, h3, _⟩ := h3
              rw [h0, Nat.zero_add, Nat.zero_mul] at h3
              exact ⟨ci, h3⟩
          · obtain ⟨_, ci, h1, _⟩ := each 0 h0
            rw [Nat.zero_mul] at h1
            exact ⟨ci, h1⟩
        obtain ⟨ci, hci⟩ := this
        obtain ⟨h1, h2⟩ := cells_all hci
        have h3 := h2 0 (by omega)
        rw [List.getElem?_eq_getElem (by omega)] at h3
        have : a.add 0 = a := by simp [Addr.add]
        rw [this, this] at h3
        unfold World.cell? at h3
        split at h3
        · split at h3
          · cases h3
          · rename_i hns
            simpa using hns
        · cases h3
      obtain ⟨ar, ao, asp⟩ := a
      simp only at hspot
      subst hspot
      -- the elements as a list
      have hx : ∃ xs : List V, xs.length = len ∧ ∀ i (hi : i < len) (hi' : i < xs.length), ∃ vs ci, w.cells? 0 ((⟨ar, ao, none⟩ : Addr).add (i * P.cellsOf e)) (P.cellsOf e) = some ci ∧ Rels (G0 w) ci vs ∧ Row es vs ∧ xs[i] = (if isAg P e then V.agg vs else vs.headD .nilp) ∧ ∀ (hb : i < elems.length), V.bulks vs ≤ β elems[i].1 := by
        have : ∀ k, k ≤ len → ∃ xs : List V, xs.length = k ∧ ∀ i (hi : i < k) (hi' : i < xs.length), ∃ vs ci, w.cells? 0 ((⟨ar, ao, none⟩ : Addr).add (i * P.cellsOf e)) (P.cellsOf e) = some ci ∧ Rels (G0 w) ci vs ∧ Row es vs ∧ xs[i] = (if isAg P e then V.agg vs else vs.headD .nilp) ∧ ∀ (hb : i < elems.length), V.bulks vs ≤ β elems[i].1 := by
          intro k
          induction k with
          | zero => exact fun _ => ⟨[], rfl, fun i hi => by omega⟩
          | succ k ih =>
            intro hk
            obtain ⟨xs, h1, h2⟩ := ih (by omega)
            obtain ⟨vs, ci, h3, h4, h5, hb5⟩ := each k (by omega)
            refine ⟨xs ++ [if isAg P e then V.agg vs else vs.headD .nilp], by simp [h1], fun i hi hi' => ?_⟩
            rcases Nat.lt_or_ge i k with h6 | h6
            · obtain ⟨vs', ci', h7, h8, h9, h10⟩ := h2 i h6 (by omega)
              exact ⟨vs', ci', h7, h8, h9, by rw [List.getElem_append_left (by omega)]; exact h10⟩
            · have : i = k := by omega
              subst this
              exact ⟨vs, ci, h3, h4, h5, by rw [List.getElem_append_right (by omega)]; simp [h1], hb5⟩
        exact this len (Nat.le_refl _)
      obtain ⟨xs, hxl, hx⟩ := hx
      have hel1 : ∀ i (hi : i < xs.length), ∃ vs ci, w.cells? 0 ((⟨ar, ao, none⟩ : Addr).add (i * P.cellsOf e)) (P.cellsOf e) = some ci ∧ Rels (G0 w) ci vs ∧ Row es vs ∧ xs[i].cells = vs ∧ (isAg P e = true → xs[i] = .agg vs) ∧ (isAg P e = false → xs[i].cells = [xs[i]]) ∧ ∀ (hb : i < elems.length), V.bulk xs[i] ≤ β elems[i].1 := by
        intro i hi
        obtain ⟨vs, ci, h1, h2, h3, h4, h5⟩ := hx i (by omega) hi
        refine ⟨vs, ci, h1, h2, h3, ?_⟩
        cases hag : isAg P e with
        | true =>
          rw [hag, if_pos rfl] at h4
          rw [h4]
          exact ⟨rfl, fun _ => rfl, fun h => (by cases h), fun hb => by simpa [V.bulk] using h5 hb⟩
        | false =>
          rw [hag] at h4 hc4
          simp only [Bool.false_eq_true, false_or, if_false] at h4 hc4
          have hl := h3.1
          rw [hc4] at hl
          match vs, hl, h3, h4, h5 with
          | [v], _, h3, h4, h5 =>
            simp only [List.headD_cons] at h4
            have hty := h3.2 0 (by omega) (by simp)
            have := hty.cells_one
            simp only [List.getElem_cons_zero] at this
            rw [h4]
            exact ⟨this, fun h => (by cases h), fun _ => this, fun hb => by simpa [V.bulks] using h5 hb⟩
      have hcl : ∀ x ∈ xs, x.cells.length = es.length := fun x hx => by
        obtain ⟨i, hi, rfl⟩ := List.getElem_of_mem hx
        obtain ⟨vs, ci, _, _, h3, h4, _⟩ := hel1 i hi
        rw [h4]; exact h3.1
      have hfl := flat_length es.length xs hcl
      have cell : ∀ j (hj : j < (flat xs).length), ∃ v, w.cell? ⟨ar, ao + j, none⟩ = some v ∧ Rel (G0 w) v (flat xs)[j] ∧ v.oneCell' = true := by
        intro j hj
        have hi : j / es.length < xs.length := Nat.div_lt_of_lt_mul (by rw [hfl, Nat.mul_comm] at hj; exact hj)
        have hq : j % es.length < es.length := Nat.mod_lt _ hc2
        have hdm : j / es.length * es.length + j % es.length = j := Nat.div_add_mod' j es.length
        obtain ⟨vs, ci, h1, h2, h3, h4, _⟩ := hel1 _ hi
        have hg := flat_get es.length xs hcl _ _ hi hq
        rw [hdm, List.getElem?_eq_getElem hj, h4] at hg
        have hv : j % es.length < vs.length := by rw [h3.1]; exact hq
        rw [List.getElem?_eq_getElem hv] at hg
        have hci : j % es.length < ci.length := by rw [h2.1]; exact hv
        obtain ⟨_, h5⟩ := cells_all h1
        have h6 := h5 (j % es.length) (by rw [← hc1]; exact hq)
        rw [add_add _ _ _ rfl, ← hc1] at h6
        have hr := h2.2 _ hci hv
        have hty := h3.2 _ hq hv
        refine ⟨ci[j % es.length], ?_, ?_, hty.oneCell hr⟩
        · rw [← List.getElem?_eq_getElem hci, ← h6]
          congr 2
          show ao + j = ao + _ + _
          omega
        · rw [Option.some.inj hg]; exact hr
      refine one (v := .ps es.length xs) (.ps ar ao len cap es.length xs (fun j => (w.cell? ⟨ar, ao + j, none⟩).getD undef) hxl hle hcl (fun j hj => ?_) (fun j hj => ?_))
        (mkTy xs (bound xs hxl) hcl (fun x hx hag => ?_) (fun x hx hag => ?_) (fun i hi j hj hj' => ?_)) ?_
      · obtain ⟨v, h1, _, h3⟩ := cell j hj
        rw [h1]; exact st0 h1 h3
      · obtain ⟨v, h1, h2, _⟩ := cell j hj
        show Rel (G0 w) ((w.cell? ⟨ar, ao + j, none⟩).getD undef) _
        rw [h1]; exact h2
      · obtain ⟨i, hi, rfl⟩ := List.getElem_of_mem hx
        obtain ⟨vs, _, _, _, _, _, h5, _⟩ := hel1 i hi
        exact ⟨vs, h5 hag⟩
      · obtain ⟨i, hi, rfl⟩ := List.getElem_of_mem hx
        obtain ⟨vs, _, _, _, _, _, _, h6, _⟩ := hel1 i hi
        exact h6 hag
      · obtain ⟨vs, _, _, _, h3, h4, _⟩ := hel1 i hi
        have := h3.2 j hj (by rw [h3.1]; exact hj)
        simpa [h4] using this
      · have hb := bulks_le (f := fun y : DataW H × List MemPlace => β y.1) xs elems (by omega) fun i a b => by
          obtain ⟨_, _, _, _, _, _, _, _, h7⟩ := hel1 i a
          exact h7 b
        have hs := hβ.slice (elems.map (·.1)) (rest.map (·.1))
        rw [List.map_map] at hs
        show V.bulk (.ps _ xs) ≤ _
        simp only [V.bulk]
        exact Nat.le_trans (Nat.add_le_add_right hb 1) hs

theorem trod_rel (hβ : Bk β) (hspare : ∀ b, spare b = true) (hrs : ∀ q ∈ RS, shOf P 12 q.1 = some q.2) : ∀ (m n : Nat) (t : TypeId) (cs : List Value) (x : DataW H × List MemPlace) (ss : List CS), DataW.trod enc P w 0 spare held m t cs = some x → shOf P n t = some ss → (∀ k ∈ x.1.weights P t, k ≤ reachBytes) →
    ∃ vs, Rels (G0 w) cs vs ∧ Row ss vs ∧ V.bulks vs ≤ β x.1 := by
  intro m
  induction m using Nat.strongRecOn with
  | _ m ihm =>
  intro n t cs x ss ht hs hw
  cases n with
  | zero => cases hs
  | succ n =>
    have one : ∀ {u : Value} {v : V} {c : CS} {q : Nat}, Rel (G0 w) u v → Ty c v → V.bulk v ≤ q → ∃ vs, Rels (G0 w) [u] vs ∧ Row [c] vs ∧ V.bulks vs ≤ q := fun {u v c q} hr hty hq =>
      ⟨[v], Rels.cons hr Rels.nil, ⟨rfl, fun j h h' => by
        have : j = 0 := by simp at h; omega
        subst this; exact hty⟩, by simpa [V.bulks] using hq⟩
    unfold shOf at hs
    cases hu : P.underlying t with
    | none => rw [hu] at hs; cases hs
    | some d =>
      rw [hu] at hs
      cases d <;> try (cases hs; done)
      case bool =>
        cases hs
        obtain ⟨b, rfl, rfl⟩ := DataW.trod_bool hu ht
        exact one (.bool b) (.b b) (by simpa [V.bulk] using hβ.one _)
      case int k =>
        cases hs
        obtain ⟨z, rfl, rfl, hwf⟩ := DataW.trod_int hu ht
        simp only [Lit.wf, Bool.and_eq_true, decide_eq_true_eq] at hwf
        exact one (.int k z) (.i k z hwf.1 hwf.2) (by simpa [V.bulk] using hβ.one _)
      case string =>
        cases hs
        obtain ⟨s, rfl, rfl, hsz⟩ := DataW.trod_string hu ht
        exact one (.str s _ rfl) (.s _ (by have := hw s.data.toList.length (by simp [DataW.weights]); simpa [reachBytes] using this)) (by unfold V.bulk; exact hβ.str _)
      case struct fs =>
        simp only [Option.bind_eq_some_iff] at hs
        obtain ⟨ss', hf, hs⟩ := hs
        split at hs
        case isFalse => cases hs
        rename_i hlen
        cases hs
        obtain ⟨xs, m', rfl, rfl, hcl, hxl, hx⟩ := DataW.trod_struct hu ht
        have := struct_rel P n m' (fun t cs x ss => ihm m' (by omega) n t cs x ss) cs fs.toList 0 xs ss hf (by simpa using hxl) (fun i f hf => hx i f (by simpa using hf))
          (by simpa [DataW.weights, hu] using hw) (by omega)
        have e : (cs.drop 0).take ss.length = cs := by rw [List.drop_zero, hlen, ← hcl, List.take_length]
        rw [e] at this
        obtain ⟨vs, h1, h2, h3⟩ := this
        exact ⟨vs, h1, h2, Nat.le_trans h3 (hβ.agg _)⟩
      case array k e =>
        simp only [Option.bind_eq_some_iff] at hs
        obtain ⟨es, he, hs⟩ := hs
        split at hs
        case isFalse => cases hs
        rename_i hlen
        cases hs
        obtain ⟨xs, m', rfl, rfl, hcl, hxl, hx⟩ := trod_array hu ht
        have := array_rel P m' e (P.cellsOf e) es hlen.1 (fun cs x h1 h2 => ihm m' (by omega) n e cs x es h1 he h2) cs xs 0 (fun q hq => by rw [Nat.zero_add]; exact hx q (by omega))
          (by simpa [DataW.weights, hu] using hw)
        rw [Nat.zero_mul, List.drop_zero, hxl] at this
        have e2 : cs.take (k * P.cellsOf e) = cs := by
          refine List.take_of_length_le ?_
          rw [hcl, ← hlen.2, List.length_flatten, List.map_replicate, List.sum_replicate_nat, hlen.1]
          exact Nat.le_refl _
        rw [e2] at this
        obtain ⟨vs, h1, h2, h3⟩ := this
        exact ⟨vs, h1, h2, Nat.le_trans h3 (hβ.agg _)⟩
      case slice e =>
        have gen : ∀ (es : List CS) (c : CS), es.length = P.cellsOf e → 0 < es.length → 0 < P.bytesOf e → (isAg P e = true ∨ es.length = 1) →
            (∀ m', m' < m → ∀ (ci : List Value) (y : DataW H × List MemPlace), DataW.trod enc P w 0 spare held m' e ci = some y → (∀ k ∈ y.1.weights P e, k ≤ reachBytes) → ∃ vs, Rels (G0 w) ci vs ∧ Row es vs ∧ V.bulks vs ≤ β y.1) →
            (∀ (xs : List V), xs.length * P.bytesOf e ≤ 140737488351232 → (∀ x ∈ xs, x.cells.length = es.length) → (∀ x ∈ xs, isAg P e = true → ∃ vs, x = .agg vs) → (∀ x ∈ xs, isAg P e = false → x.cells = [x]) →
              (∀ i (hi : i < xs.length) j (hj : j < es.length) (hj' : j < (xs[i].cells).length), Ty es[j] (xs[i].cells)[j]) → Ty c (.ps es.length xs)) → ∃ vs, Rels (G0 w) cs vs ∧ Row [c] vs ∧ V.bulks vs ≤ β x.1 := by
          intro es c hc1 hc2 hc3 hc4 hels mkTy
          exact gen_slice hβ hspare hu ht hw hc1 hc2 hc4 hels mkTy
        cases hl : RS.lookup e with
        | some es =>
          dsimp only at hs
          rw [hl] at hs
          simp only at hs
          split at hs
          case isFalse => cases hs
          rename_i hc
          obtain ⟨hc1, hc2, hc3, hc4⟩ := hc
          cases hs
          exact gen es _ hc1 hc2 hc3 (.inl hc4) (fun m' hm' ci y hy hwy => ihm m' hm' 12 e ci y es hy (hrs (e, es) (gl_mem' hl)) hwy)
            (fun xs h1 h2 h3 h4 h5 => .rc e (P.bytesOf e) es hl xs h1 h2 (fun x hx => h3 x hx hc4) h5)
        | none =>
          dsimp only at hs
          rw [hl] at hs
          simp only [Option.bind_eq_some_iff] at hs
          obtain ⟨es, he, hs⟩ := hs
          split at hs
          case isFalse => cases hs
          rename_i hc
          obtain ⟨hc1, hc2, hc3, hc4⟩ := hc
          cases hs
          exact gen es _ hc1 hc2 hc3 hc4 (fun m' hm' ci y hy hwy => ihm m' hm' n e ci y es hy he hwy) (fun xs h1 h2 h3 h4 h5 => .sl (isAg P e) (P.bytesOf e) es xs h1 h2 h3 h4 h5)

/-- An argument is an abstract value of its shape. -/
theorem arg_rel (hβ : Bk β) {n t : Nat} {v : Value} {d : DataW H} {p : List MemPlace} {ss : List CS} {r : Reach} {b0 : Nat} (hspare : ∀ b, spare b = true) (hrs : ∀ q ∈ RS, shOf P 12 q.1 = some q.2) (hval : Value.okWide P w r b0 t v) (hd : DataW.Trod enc P w 0 spare held t v d p)
    (hs : shOf P n t = some ss) (hw : ∀ k ∈ d.weights P t, k ≤ reachBytes) : ∃ x, Rel (G0 w) v x ∧ Row ss x.cells ∧ (isAg P t = false → ∃ c, ss = [c] ∧ Ty c x) ∧ (isAg P t = true → ∃ vs, x = .agg vs) ∧ V.bulk x ≤ β d := by
  obtain ⟨m, hm⟩ := hd
  obtain ⟨vs, hr, hrow, hbk⟩ := trod_rel hβ hspare hrs m n t _ _ ss hm hs hw
  cases hag : isAg P t with
  | true =>
    have : ∃ cs, v = .agg cs := by
      unfold isAg at hag
      unfold Value.okWide at hval
      split at hag
      · rename_i hu; rw [hu] at hval; obtain ⟨cs, rfl, _⟩ := hval; exact ⟨cs, rfl⟩
      · rename_i hu; rw [hu] at hval; obtain ⟨cs, rfl, _⟩ := hval; exact ⟨cs, rfl⟩
      · cases hag
    obtain ⟨cs, rfl⟩ := this
    exact ⟨.agg vs, Rels.toAgg hr, hrow, fun h => (by cases h), fun _ => ⟨vs, rfl⟩, by simpa [V.bulk] using hbk⟩
  | false =>
    have hone : v.cells.toList = [v] ∧ ss.length = 1 := by
      cases n with
      | zero => cases hs
      | succ n =>
        unfold shOf at hs
        unfold isAg at hag
        unfold Value.okWide at hval
        cases hu : P.underlying t with
        | none => rw [hu] at hs; cases hs
        | some dd =>
          rw [hu] at hs hag hval
          cases dd <;> try (cases hs; done)
          case bool => cases hs; cases v <;> simp_all [Cell.okWide, Cell.ok, Value.cells]
          case int k => cases hs; cases v <;> simp_all [Cell.okWide, Cell.ok, Value.cells]
          case string => cases hs; cases v <;> simp_all [Cell.okWide, Cell.ok, Value.cells]
          case struct fs => cases hag
          case array k e => cases hag
          case slice e =>
            have hss : ss.length = 1 := by
              cases hl : RS.lookup e with
              | some es =>
                dsimp only at hs
                rw [hl] at hs
                simp only at hs
                split at hs
                · cases hs; rfl
                · cases hs
              | none =>
                dsimp only at hs
                rw [hl] at hs
                simp only [Option.bind_eq_some_iff] at hs
                obtain ⟨es, he, hs⟩ := hs
                split at hs
                · cases hs; rfl
                · cases hs
            refine ⟨?_, hss⟩
            cases v <;> simp_all [Cell.okWide, Cell.ok, Value.cells]
    rw [hone.1] at hr
    have hl : vs.length = 1 := by rw [← hr.1]; rfl
    match vs, hl, hr, hrow, hbk with
    | [x], _, hr, hrow, hbk =>
      match ss, hone.2, hrow with
      | [c], _, hrow =>
        have hty : Ty c x := hrow.2 0 (by simp) (by simp)
        exact ⟨x, hr.head, by rw [hty.cells_one]; exact hrow, fun _ => ⟨c, rfl, hty⟩, fun h => (by cases h), by simpa [V.bulks] using hbk⟩
end

mutual
def dbulk {H : Type} : DataW H → Nat
  | .lit (.string b) => b.length + 1
  | .slice l r => dbulks l + dbulks r + 1
  | .agg l => dbulks l + 1
  | _ => 1
def dbulks {H : Type} : List (DataW H) → Nat
  | [] => 0
  | d :: r => dbulk d + dbulks r
end
theorem dbulks_sum {H : Type} : ∀ l : List (DataW H), dbulks l = (l.map dbulk).sum
  | [] => rfl
  | d :: r => by simp only [dbulks, List.map_cons, List.sum_cons, dbulks_sum r]
theorem dbulk_bk {H : Type} : Bk (H := H) dbulk where
  one := fun d => by
    cases d with
    | lit l => cases l <;> simp [dbulk]
    | _ => simp [dbulk]
  str := fun b => by simp [dbulk]
  slice := fun l r => by simp only [dbulk, dbulks_sum]; omega
  agg := fun l => by simp only [dbulk, dbulks_sum]; omega

/-- A law that holds of the abstract values is a law of the program. -/
theorem law_calls {P : Program} {sig : Sig} {T : Table} (ok : TabOk P sig T) {f : Nat} {af : AFunc} (hT : T f = some af) (hp : af.ownP = []) {W : World} {args : Array Value} {vs : List V} (hr : Rels (G0 W) args.toList vs) (hgl : GlOk (G0 W))
    (hrun : ∃ h', Run T f vs [] (.bool true) h') : Calls P f args W fun e W' => e = .returned (.bool true) ∧ RowKit.Below W.heap.size W W' := by
  obtain ⟨h', n, hrun⟩ := hrun
  obtain ⟨_, hc⟩ := run_sound ok n
  obtain ⟨af', hT', hcall⟩ := hc f vs [] _ _ hrun
  rw [hT] at hT'
  cases hT'
  have := hcall (G0 W) ρ0 W args.toList hr (mem0 W) hgl (fun p hpp => by rw [hp] at hpp; cases hpp) (fun s c h => absurd rfl h)
  have e : args.toList.toArray = args := by simp
  rw [e] at this
  refine this.mono fun en w' h => ?_
  obtain ⟨u, G', ρ', rfl, hu, _, hfr, _⟩ := h
  cases hu
  refine ⟨rfl, ⟨hfr.os, hfr.tape, hfr.output, hfr.size, fun k hk => hfr.block k hk (fun o ho => ?_) (fun b hb => by cases hb)⟩⟩
  obtain ⟨x, lo, hi, hx, _⟩ := ho
  cases hx

theorem lookup_mem {α : Type} : ∀ {l : List (Nat × α)} {k : Nat} {a : α}, l.lookup k = some a → (k, a) ∈ l
  | [], k, a, h => by cases h
  | (j, b) :: r, k, a, h => by
    rw [List.lookup_cons] at h
    by_cases hk : k = j
    · subst hk
      simp at h
      subst h
      simp
    · have : (k == j) = false := by simpa using hk
      rw [this] at h
      exact List.mem_cons_of_mem _ (lookup_mem h)

/-- A table whose functions all meet the check. -/
theorem tab_ok {P : Program} {tab : List (Nat × AFunc)} {sig : Sig} {T : Table} (hT : T = fun f => tab.lookup f) (hs : sig = fun f => (T f).map fun af => (af.ownP, af.ownR)) (hm : P.follows .mixedOrders = true)
    (hall : ∀ q ∈ tab, chkFunc P sig q.1 q.2 = true) : TabOk P sig T where
  mixed := hm
  func := fun f af h => by
    rw [hT] at h
    exact hall (f, af) (lookup_mem h)
  sig := fun f ps rs h => by
    rw [hs] at h
    simp only [Option.map_eq_some_iff] at h
    obtain ⟨af, h1, h2⟩ := h
    cases h2
    exact ⟨af, h1, rfl, rfl⟩

/-! ### the arguments' shapes, told as lists -/
theorem Row.cons {c : CS} {cs : List CS} {vs : List V} (h : Row (c :: cs) vs) : ∃ v r, vs = v :: r ∧ Ty c v ∧ Row cs r := by
  match vs, h with
  | [], h => have := h.1; simp at this
  | v :: r, h =>
    refine ⟨v, r, rfl, h.2 0 (by simp) (by simp), by have := h.1; simpa using this, fun j a b => ?_⟩
    have := h.2 (j + 1) (by simpa using a) (by simpa using b)
    simpa using this
theorem Row.none {vs : List V} (h : Row [] vs) : vs = [] := List.eq_nil_of_length_eq_zero h.1
theorem Ty.int {k : IntKind} {x : V} (h : Ty (.i k) x) : ∃ n, x = .int k n ∧ k.min ≤ n ∧ n ≤ k.max := by cases h; exact ⟨_, rfl, ‹_›, ‹_›⟩
theorem Ty.bool {x : V} (h : Ty .b x) : ∃ b, x = .bool b := by cases h; exact ⟨_, rfl⟩
theorem Ty.str {x : V} (h : Ty .s x) : ∃ l : List UInt8, x = .str l ∧ l.length ≤ 140737488351232 := by cases h; exact ⟨_, rfl, ‹_›⟩
theorem Ty.elems_one {b : Nat} {c : CS} {x : V} (h : Ty (.sl false b [c]) x) : ∃ xs, x = .ps 1 xs ∧ xs.length * b ≤ 140737488351232 ∧ ∀ y ∈ xs, Ty c y := by
  cases h with
  | sl _ _ _ xs hn hs ha ho k =>
    refine ⟨xs, rfl, hn, fun y hy => ?_⟩
    obtain ⟨i, hi, rfl⟩ := List.getElem_of_mem hy
    have h1 := ho _ hy rfl
    have := k i hi 0 (by simp) (by rw [h1]; simp)
    simpa [h1] using this
theorem exists_map {α : Type} (f : α → V) (C : α → Prop) : ∀ (xs : List V), (∀ y ∈ xs, ∃ a, y = f a ∧ C a) → ∃ l : List α, xs = l.map f ∧ ∀ a ∈ l, C a
  | [], _ => ⟨[], rfl, by simp⟩
  | y :: r, h => by
    obtain ⟨a, rfl, ha⟩ := h y (by simp)
    obtain ⟨l, rfl, hl⟩ := exists_map f C r fun z hz => h z (by simp [hz])
    exact ⟨a :: l, rfl, fun z hz => (List.mem_cons.1 hz).elim (fun e => e ▸ ha) (hl z)⟩
theorem Ty.elems_agg {b : Nat} {es : List CS} {x : V} (h : Ty (.sl true b es) x) : ∃ xs : List V, x = .ps es.length xs ∧ xs.length * b ≤ 140737488351232 ∧ ∀ y ∈ xs, ∃ vs, y = .agg vs ∧ Row es vs := by
  cases h with
  | sl _ _ _ xs hn hs ha ho k =>
    refine ⟨xs, rfl, hn, fun y hy => ?_⟩
    obtain ⟨vs, rfl⟩ := ha y hy rfl
    obtain ⟨i, hi, he⟩ := List.getElem_of_mem hy
    have hl := hs _ hy
    refine ⟨vs, rfl, hl, fun j a b => ?_⟩
    have := k i hi j a (by rw [he]; exact b)
    simpa [he] using this
theorem Ty.ints {b : Nat} {x : V} (h : Ty (.sl false b [.i .i64]) x) : ∃ l : List Int, x = .ps 1 (Ev.ints l) ∧ l.length * b ≤ 140737488351232 ∧ ∀ n ∈ l, -9223372036854775808 ≤ n ∧ n ≤ 9223372036854775807 := by
  obtain ⟨xs, rfl, h1, h2⟩ := h.elems_one
  obtain ⟨l, rfl, hl⟩ := exists_map (V.int .i64 ·) (fun n => -9223372036854775808 ≤ n ∧ n ≤ 9223372036854775807) xs fun y hy => by
    obtain ⟨n, rfl, h3, h4⟩ := (h2 y hy).int
    exact ⟨n, rfl, h3, h4⟩
  exact ⟨l, rfl, by simpa using h1, hl⟩
end Ev
