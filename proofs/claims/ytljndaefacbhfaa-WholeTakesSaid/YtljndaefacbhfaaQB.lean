/- Bytes: rows of them as abstract values; how many frames; small functions of the references. Seg: parts of bytes, and what any writes come to. Seg: parts put together. Sorting numbers without sign: the library's insertion sort, held against its plain text. Sorting few whole numbers: slices.Sort of at most twelve. Sorting whole numbers: the library's helpers, held against their plain text. Heap sort of the library with a comparison, and the helpers that choose. The pivot's choice, turning a range about, and breaking patterns. Breaking patterns: the bit length, the next power of two, and the shifts. The partial insertion sort, and the partitions. The partitions. Each theorem states its own conditions. -/
import Derived.Test.YtljndaefacbhfaaQCode
import Derived.Test.YtljndaefacbhfaaQR01
import Derived.Sort.AssemblyPlain
set_option linter.all false
namespace Ev
open Go
set_option maxRecDepth 10000
attribute [-simp] getElem?_pos getElem?_neg
@[simp] theorem row_app_k (h l : Heap) (k : Nat) : Heap.row (h ++ l) (h.length + k) = Heap.row l k := by
  simp [Heap.row, List.getElem?_append_right]
@[simp] theorem row_app_0 (h l : Heap) : Heap.row (h ++ l) h.length = Heap.row l 0 := by
  simp [Heap.row, List.getElem?_append_right]
def bys (b : List UInt8) : List V := b.map byteV
theorem bys_len (b : List UInt8) : (bys b).length = b.length := by simp [bys]
theorem bys_get (b : List UInt8) (i : Nat) : (bys b)[i]? = (b[i]?).map byteV := by simp [bys]
theorem bys_hfs (b : List UInt8) : V.hfs (bys b) = true := hfs_map _ (fun _ => rfl) _
theorem bys_one (b : List UInt8) : (bys b).all V.one = true := by simp [bys, byteV]
theorem byte_back (c : UInt8) : toByte (byteV c) = some c := by
  simp [toByte, byteV]
theorem bys_back : ∀ (b : List UInt8), toBytes (bys b) = some b
  | [] => rfl
  | c :: r => by
    have : bys (c :: r) = byteV c :: bys r := rfl
    rw [this, toBytes, byte_back, Option.bind_some, bys_back r]; rfl
theorem sb_bys (s : List UInt8) : List.map byteV s = bys s := rfl
theorem byteV_def (c : UInt8) : byteV c = .int .u8 (c.toNat : Int) := rfl
theorem u8_inj {a b : UInt8} : ((a.toNat : Int) = b.toNat) ↔ a = b := ⟨fun h => UInt8.toNat_inj.1 (by omega), fun h => by rw [h]⟩
@[simp] theorem eq_byte (a b : UInt8) : eqV .int (byteV a) (byteV b) = some (decide (a = b)) := by
  rw [byteV_def, byteV_def, eq_int]
  congr 1
  exact decide_eq_decide.2 u8_inj
@[simp] theorem conv_byte (h : Heap) (k : IntKind) (c : UInt8) : convV h (.i k) (byteV c) = some (.int k (k.wrap (c.toNat : Int))) := rfl
@[simp] theorem cells_byte (c : UInt8) : V.cells (byteV c) = [byteV c] := rfl
@[simp] theorem one_byte (c : UInt8) : V.one (byteV c) = true := rfl
@[simp] theorem hf_byte (c : UInt8) : V.hf (byteV c) = true := rfl
theorem bys_set (b : List UInt8) (i : Nat) (c : UInt8) : (bys b).set i (byteV c) = bys (b.set i c) := by simp [bys, List.map_set]
theorem bys_rep (n : Nat) : List.replicate n (V.int .u8 0) = bys (List.replicate n 0) := by
  unfold bys
  rw [List.map_replicate]; rfl
def bls (l : List Bool) : List V := l.map V.bool
theorem bls_len (l : List Bool) : (bls l).length = l.length := by simp [bls]
theorem bls_get (l : List Bool) (i : Nat) : (bls l)[i]? = (l[i]?).map V.bool := by simp [bls]
theorem bls_set (l : List Bool) (i : Nat) (c : Bool) : (bls l).set i (.bool c) = bls (l.set i c) := by simp [bls, List.map_set]
theorem bls_rep (n : Nat) (b : Bool) : List.replicate n (V.bool b) = bls (List.replicate n b) := by
  unfold bls
  rw [List.map_replicate]
theorem bls_hfs (l : List Bool) : V.hfs (bls l) = true := hfs_map _ (fun _ => rfl) _
theorem bls_one (l : List Bool) : (bls l).all V.one = true := by simp [bls]
/-- Slices of bytes. -/
def byss (l : List (List UInt8)) : List V := l.map fun b => .ps 1 (bys b)
theorem byss_len (l : List (List UInt8)) : (byss l).length = l.length := by simp [byss]
theorem byss_get (l : List (List UInt8)) (i : Nat) : (byss l)[i]? = (l[i]?).map fun b => .ps 1 (bys b) := by simp [byss]
theorem byss_hfs (l : List (List UInt8)) : V.hfs (byss l) = true := hfs_map _ (fun b => by simp [bys_hfs]) _
theorem take_get {α : Type} (l : List α) (i : Nat) (h : i < l.length) : l.take (i + 1) = l.take i ++ [l[i]] := by rw [List.take_succ, List.getElem?_eq_getElem h]; rfl
section
variable {ks : List Kt} {ops : List AOpr} {K : Kp} {e : Env} {h : Heap} {Q : Ex → Env → Heap → Prop} {d : Nat} {lent : Bool}
theorem Low_pb (a b : Int) : Xp T f_ref01_Low (some ([.int .i64 a, .int .i64 b], lent)) h (some d) ops K ks e Q = Xo T ops K ks ((d, .int .i64 (min a b)) :: e) h Q :=
  Xp_run (Low_run a b []) (by simp) rfl (by simp [scalar])
end
section
variable {ks : List Kt} {ops : List AOpr} {K : Kp} {e : Env} {h : Heap} {Q : Ex → Env → Heap → Prop} {d : Nat} {lent : Bool}
end
section
variable {ks : List Kt} {ops : List AOpr} {K : Kp} {e : Env} {h : Heap} {Q : Ex → Env → Heap → Prop} {d : Nat} {lent : Bool}
end
/-- Bytes at places. -/
abbrev Wr := List (Nat × UInt8)
def wOne (a : Nat) (p : List UInt8) : Wr := (List.range p.length).map fun k => (a + k, p.getD k 0)
def wAll (z : List (Nat × List UInt8)) : Wr := z.flatMap fun q => wOne q.1 q.2
def okW (w : Wr) : Prop := ∀ p ∈ w, ∀ q ∈ w, p.1 = q.1 → p.2 = q.2
def covW (w : Wr) (n : Nat) : Prop := ∀ k, k < n → ∃ p ∈ w, p.1 = k
/-- What writes come to: the bytes, and what is wrong. -/
def FillP (n : Nat) (w : Wr) (b : List UInt8) (e : Int) : Prop :=
  (¬ okW w ∧ b = [] ∧ e = 6) ∨ (okW w ∧ ¬ covW w n ∧ b = [] ∧ e = 8) ∨ (okW w ∧ covW w n ∧ b.length = n ∧ (∀ p ∈ w, b[p.1]? = some p.2) ∧ e = 0)
theorem FillP.det {n : Nat} {w : Wr} {b c : List UInt8} {e f : Int} (h : FillP n w b e) (k : FillP n w c f) : b = c ∧ e = f := by
  rcases h with ⟨h1, rfl, rfl⟩ | ⟨h1, h2, rfl, rfl⟩ | ⟨h1, h2, h3, h4, rfl⟩
  · rcases k with ⟨_, rfl, rfl⟩ | ⟨k1, _⟩ | ⟨k1, _⟩
    · exact ⟨rfl, rfl⟩
    · exact absurd k1 h1
    · exact absurd k1 h1
  · rcases k with ⟨k1, _⟩ | ⟨_, _, rfl, rfl⟩ | ⟨_, k1, _⟩
    · exact absurd h1 k1
    · exact ⟨rfl, rfl⟩
    · exact absurd k1 h2
  · rcases k with ⟨k1, _⟩ | ⟨_, k1, _⟩ | ⟨_, _, k3, k4, rfl⟩
    · exact absurd h1 k1
    · exact absurd h2 k1
    · refine ⟨List.ext_getElem? fun i => ?_, rfl⟩
      rcases Nat.lt_or_ge i n with hi | hi
      · obtain ⟨p, hp, rfl⟩ := h2 i hi
        rw [h4 p hp, k4 p hp]
      · rw [List.getElem?_eq_none (by omega), List.getElem?_eq_none (by omega)]
theorem wOne_mem {a : Nat} {p : List UInt8} {x : Nat × UInt8} : x ∈ wOne a p ↔ ∃ k, ∃ h : k < p.length, x = (a + k, p[k]) := by
  unfold wOne
  rw [List.mem_map]
  constructor
  · rintro ⟨k, hk, rfl⟩
    have := List.mem_range.1 hk
    exact ⟨k, this, by simp [List.getElem?_eq_getElem this]⟩
  · rintro ⟨k, hk, rfl⟩
    exact ⟨k, List.mem_range.2 hk, by simp [List.getElem?_eq_getElem hk]⟩
theorem wAll_mem {z : List (Nat × List UInt8)} {x : Nat × UInt8} : x ∈ wAll z ↔ ∃ q ∈ z, x ∈ wOne q.1 q.2 := by simp [wAll]
theorem wAll_app (a b : List (Nat × List UInt8)) : wAll (a ++ b) = wAll a ++ wAll b := by simp [wAll]
/-- What out and there are behind writes that fit. -/
structure Laid (n : Nat) (w : Wr) (out : List UInt8) (there : List Bool) : Prop where
  len : out.length = n
  tlen : there.length = n
  ok : okW w
  lt : ∀ p ∈ w, p.1 < n
  val : ∀ p ∈ w, out[p.1]? = some p.2
  th : ∀ k, k < n → (there[k]? = some true ↔ ∃ p ∈ w, p.1 = k)
theorem Laid.start (n : Nat) : Laid n [] (List.replicate n 0) (List.replicate n false) where
  len := by simp
  tlen := by simp
  ok := by intro p hp; cases hp
  lt := by intro p hp; cases hp
  val := by intro p hp; cases hp
  th := fun k hk => by simp [List.getElem?_replicate, hk]
theorem Laid.put {n : Nat} {w : Wr} {out : List UInt8} {there : List Bool} (l : Laid n w out there) {j : Nat} {c : UInt8} (hj : j < n) (h : there[j]? = some true → out[j]? = some c) : Laid n (w ++ [(j, c)]) (out.set j c) (there.set j true) where
  len := by simp [l.len]
  tlen := by simp [l.tlen]
  ok := by
    have key : ∀ p ∈ w, p.1 = j → p.2 = c := fun p hp e => by
      have h1 := (l.th j hj).2 ⟨p, hp, e⟩
      have h2 := h h1
      have h3 := l.val p hp
      rw [e, h2] at h3
      exact (Option.some.inj h3).symm
    intro p hp q hq e
    rcases List.mem_append.1 hp with hp | hp
    · rcases List.mem_append.1 hq with hq | hq
      · exact l.ok p hp q hq e
      · rw [List.mem_singleton.1 hq] at e ⊢
        exact key p hp e
    · rw [List.mem_singleton.1 hp] at e ⊢
      rcases List.mem_append.1 hq with hq | hq
      · exact (key q hq e.symm).symm
      · rw [List.mem_singleton.1 hq]
  lt := fun p hp => by
    rcases List.mem_append.1 hp with hp | hp
    · exact l.lt p hp
    · rw [List.mem_singleton.1 hp]; exact hj
  val := fun p hp => by
    rcases List.mem_append.1 hp with hp | hp
    · rw [List.getElem?_set]
      split
      · rename_i e
        have h1 := (l.th j hj).2 ⟨p, hp, e.symm⟩
        have h2 := h h1
        have h3 := l.val p hp
        rw [← e, h2] at h3
        rw [l.len, if_pos hj]
        exact h3
      · exact l.val p hp
    · rw [List.mem_singleton.1 hp]
      simp [List.getElem?_set, l.len, hj]
  th := fun k hk => by
    rw [List.getElem?_set]
    split
    · rename_i e
      subst e
      simp [l.tlen, hj]
    · rename_i e
      rw [l.th k hk]
      constructor
      · rintro ⟨p, hp, e2⟩; exact ⟨p, List.mem_append.2 (.inl hp), e2⟩
      · rintro ⟨p, hp, e2⟩
        rcases List.mem_append.1 hp with hp | hp
        · exact ⟨p, hp, e2⟩
        · rw [List.mem_singleton.1 hp] at e2; exact absurd e2 e
theorem Laid.clash {n : Nat} {w w2 : Wr} {out : List UInt8} {there : List Bool} (l : Laid n w out there) {j : Nat} {c d : UInt8} (hj : j < n) (h1 : there[j]? = some true) (h2 : out[j]? = some d) (hne : d ≠ c) (hs : ∀ p ∈ w, p ∈ w2) (hm : (j, c) ∈ w2) : ¬ okW w2 := fun hk => by
  obtain ⟨p, hp, e⟩ := (l.th j hj).1 h1
  have h3 := l.val p hp
  rw [e, h2] at h3
  have := hk p (hs p hp) (j, c) hm e
  rw [← Option.some.inj h3] at this
  exact hne this
def fitS (n a : Int) (p : List UInt8) : Bool := decide (0 ≤ a) && (decide (a ≤ n) && decide ((p.length : Int) ≤ n - a))
def HF (n : Int) (at' : List Int) (parts : List (List UInt8)) (out : List UInt8) (there : List Bool) : Heap := [some [.int .i64 n], some [.ps 1 (ints at')], some [.ps 1 (byss parts)], some (bys out), some (bls there)]
section
variable {n : Int} {at' : List Int} {parts : List (List UInt8)} {out out' : List UInt8} {there there' : List Bool}
@[simp] theorem HF_0 : Heap.row (HF n at' parts out there) 0 = some [.int .i64 n] := rfl
@[simp] theorem HF_1 : Heap.row (HF n at' parts out there) 1 = some [.ps 1 (ints at')] := rfl
@[simp] theorem HF_2 : Heap.row (HF n at' parts out there) 2 = some [.ps 1 (byss parts)] := rfl
@[simp] theorem HF_3 : Heap.row (HF n at' parts out there) 3 = some (bys out) := rfl
@[simp] theorem HF_4 : Heap.row (HF n at' parts out there) 4 = some (bls there) := rfl
@[simp] theorem HF_len : List.length (HF n at' parts out there) = 5 := rfl
@[simp] theorem HF_s3 : List.set (HF n at' parts out there) 3 (some (bys out')) = HF n at' parts out' there := rfl
@[simp] theorem HF_s4 : List.set (HF n at' parts out there) 4 (some (bls there')) = HF n at' parts out there' := rfl
end
theorem fits_run (n : Int) (at' : List Int) (parts : List (List UInt8)) (i : Nat) (h : Heap) (hn : 0 ≤ n) (hn2 : n ≤ 3192) (h0 : h.row 0 = some [.int .i64 n]) (h1 : h.row 1 = some [.ps 1 (ints at')]) (h2 : h.row 2 = some [.ps 1 (byss parts)])
    (hi : i < at'.length) (hj : i < parts.length) (hp : ∀ p ∈ parts, p.length ≤ 140737488351232) : Run T f_seg_Fill_1 [.int .i64 i, .ptr 1 0, .ptr 0 0, .ptr 2 0] h (.bool (fitS n at'[i] parts[i])) h := by
  refine Run.start t_seg_Fill_1 ?_
  unfold k_seg_Fill_1
  have g1 := List.getElem?_eq_getElem hi
  have g2 := List.getElem?_eq_getElem hj
  have b1 := hp _ (List.getElem_mem hj)
  simp (disch := omega) [h0, h1, h2, ints_get, byss_get, g1, g2]
  refine Xg_dec (fun c1 => ?_) (fun c1 => ?_)
  · simp (disch := omega) [c1, h0, h1, h2, ints_get, byss_get, g1, g2]
    refine Xg_dec (fun c2 => ?_) (fun c2 => ?_)
    · simp (disch := omega) [c1, c2, h0, h1, h2, ints_get, byss_get, g1, g2, bys_len, fitS]
    · simp (disch := omega) [c1, c2, fitS]
  · simp (disch := omega) [c1, fitS]
theorem fill_loop0 (n : Int) (at' : List Int) (parts : List (List UInt8)) (out : List UInt8) (there : List Bool) (hn : 0 ≤ n) (hn2 : n ≤ 3192) (hlen : at'.length = parts.length) (hl : parts.length < 4611686018427387904) (hp : ∀ p ∈ parts, p.length ≤ 140737488351232) : ∀ (m i : Nat), i + m = parts.length → ∀ ks Q,
    ((∀ j (h1 : j < at'.length) (h2 : j < parts.length), i ≤ j → fitS n at'[j] parts[j] = true) → ∀ e, Xk T ks (.x 1) ([(4, .ptr 1 0), (5, .ptr 2 0), (8, .hs 1 3 0 n.toNat), (9, .hs 1 4 0 n.toNat)] ++ e) (HF n at' parts out there) Q) →
    ((∃ j, ∃ h1 : j < at'.length, ∃ h2 : j < parts.length, fitS n at'[j] parts[j] = false) → Xk T ks .r [(6, .hn 1), (7, .int .i64 3)] (HF n at' parts out there) Q) →
    Xc T l_seg_Fill_0 ks [(4, .ptr 1 0), (5, .ptr 2 0), (8, .hs 1 3 0 n.toNat), (9, .hs 1 4 0 n.toNat), (10, .fn f_seg_Fill_1 [.ptr 1 0, .ptr 0 0, .ptr 2 0]), (36, .int .i64 parts.length), (37, .int .i64 i)] (HF n at' parts out there) Q := by
  intro m
  induction m with
  | zero =>
    intro i hi ks Q hQ hR
    rw [L_seg_Fill_0]; unfold bl_seg_Fill_0
    have : i = parts.length := by omega
    subst this
    simp (disch := omega)
    exact hQ (fun j h1 h2 h3 => by omega) _
  | succ m ih =>
    intro i hi ks Q hQ hR
    rw [L_seg_Fill_0]; unfold bl_seg_Fill_0
    have e1 : i < parts.length := by omega
    have e2 : i < at'.length := by omega
    have e3 : (i : Int) < parts.length := by omega
    have hfr : T.free f_seg_Fill_1 = true := rfl
    simp (disch := omega) [e3, hfr]
    rw [Xf_run (fits_run n at' parts i (HF n at' parts out there) hn hn2 rfl rfl rfl e2 e1 hp)]
    cases hf : fitS n at'[i] parts[i] with
    | true =>
      have := ih (i + 1) (by omega) ks Q (fun h => hQ fun j h1 h2 h3 => by
        rcases Nat.eq_or_lt_of_le h3 with rfl | h3
        · exact hf
        · exact h j h1 h2 h3) hR
      simp (disch := omega)
      simpa using this
    | false =>
      simp (disch := omega)
      exact hR ⟨i, e2, e1, hf⟩
theorem wOne_take {a : Nat} {p : List UInt8} {k : Nat} (hk : k < p.length) : wOne a (p.take (k + 1)) = wOne a (p.take k) ++ [(a + k, p[k])] := by
  unfold wOne
  rw [List.length_take, List.length_take, Nat.min_eq_left (by omega), Nat.min_eq_left (by omega), List.range_succ, List.map_append]
  congr 1
  · refine List.map_congr_left fun j hj => ?_
    have := List.mem_range.1 hj
    simp [List.getElem?_take, show j < k + 1 by omega, this]
  · simp [List.getElem?_take, List.getElem?_eq_getElem hk]
theorem fill_loop1 (n : Nat) (at' : List Int) (parts : List (List UInt8)) (w0 wz : Wr) (i : Nat) (a : Nat) (p : List UInt8) (hn2 : n ≤ 3192) (hi : i < at'.length) (ha : at'[i] = a) (hfit : a + p.length ≤ n) (x46 : V) (hw : ∀ k (hk : k < p.length), (a + k, p[k]) ∈ wz) (hw0 : ∀ x ∈ w0, x ∈ wz) : ∀ (m k : Nat) (out : List UInt8) (there : List Bool), k + m = p.length → Laid n (w0 ++ wOne a (p.take k)) out there → ∀ ks Q,
    (∀ out there e, Laid n (w0 ++ wOne a p) out there → Xk T ks (.x 5) ([(4, .ptr 1 0), (8, .hs 1 3 0 n), (9, .hs 1 4 0 n), (12, .int .i64 i), (45, .ps 1 (byss parts)), (46, x46), (47, .int .i64 i)] ++ e) (HF n at' parts out there) Q) →
    (¬ okW wz → ∀ h, Xk T ks .r [(6, .hn 1), (7, .int .i64 6)] h Q) →
    Xc T l_seg_Fill_1 ks [(4, .ptr 1 0), (8, .hs 1 3 0 n), (9, .hs 1 4 0 n), (12, .int .i64 i), (45, .ps 1 (byss parts)), (46, x46), (47, .int .i64 i), (52, .ps 1 (bys p)), (53, .int .i64 p.length), (54, .int .i64 k)] (HF n at' parts out there) Q := by
  intro m
  have g1 := List.getElem?_eq_getElem hi
  induction m with
  | zero =>
    intro k out there hk hl ks Q hQ hR
    rw [L_seg_Fill_1]; unfold bl_seg_Fill_1
    have : k = p.length := by omega
    subst this
    rw [List.take_length] at hl
    simp (disch := omega)
    exact hQ out there _ hl
  | succ m ih =>
    intro k out there hk hl ks Q hQ hR
    rw [L_seg_Fill_1]; unfold bl_seg_Fill_1
    have e1 : k < p.length := by omega
    have e3 : (k : Int) < p.length := by omega
    have g2 := List.getElem?_eq_getElem e1
    have e4 : ((a : Int) + k).toNat = a + k := by omega
    have ho : a + k < out.length := by rw [hl.len]; omega
    have ht : a + k < there.length := by rw [hl.tlen]; omega
    have g3 := List.getElem?_eq_getElem ho
    have g4 := List.getElem?_eq_getElem ht
    have hol := hl.len
    have htl := hl.tlen
    have next : (there[a + k]? = some true → out[a + k]? = some p[k]) → Xc T l_seg_Fill_1 ks [(4, .ptr 1 0), (8, .hs 1 3 0 n), (9, .hs 1 4 0 n), (12, .int .i64 i), (45, .ps 1 (byss parts)), (46, x46), (47, .int .i64 i), (52, .ps 1 (bys p)), (53, .int .i64 p.length), (54, .int .i64 ((k : Int) + 1))] (HF n at' parts (out.set (a + k) p[k]) (there.set (a + k) true)) Q := fun hh => by
      have := ih (k + 1) (out.set (a + k) p[k]) (there.set (a + k) true) (by omega) (by
        rw [wOne_take e1, ← List.append_assoc]
        exact hl.put (by omega) hh) ks Q hQ hR
      simpa using this
    simp (disch := omega) [e3, bys_get, bls_get, ints_get, g1, g2, g3, g4, ha, e4]
    refine Xg_intro (fun c1 => ?_) (fun c1 => ?_)
    · simp (disch := omega) [c1, e4, g3, bys_get]
      refine Xb_intro (fun c2 => ?_) (fun c2 => ?_)
      · have c3 : out[a + k] ≠ p[k] := by simpa using c2
        simp (disch := omega)
        exact hR (hl.clash (j := a + k) (c := p[k]) (d := out[a + k]) (by omega) (by rw [g4, c1]) g3 c3 (fun x hx => by
          rcases List.mem_append.1 hx with hx | hx
          · exact hw0 x hx
          · obtain ⟨j, hj, rfl⟩ := wOne_mem.1 hx
            rw [List.length_take] at hj
            have := hw j (by omega)
            simpa using this) (hw k e1)) _
      · have c3 : out[a + k] = p[k] := by simpa using c2
        have := next (fun _ => by rw [g3, c3])
        simp (disch := omega) [e4, bys_len, bls_len, bys_set, bls_set]
        exact this
    · have := next (fun h => by rw [g4, c1] at h; cases h)
      simp (disch := omega) [c1, e4, bys_len, bls_len, bys_set, bls_set]
      exact this
def zS (at' : List Int) (parts : List (List UInt8)) : List (Nat × List UInt8) := (at'.zip parts).map fun q => (q.1.toNat, q.2)
theorem zS_len {at' : List Int} {parts : List (List UInt8)} (h : at'.length = parts.length) : (zS at' parts).length = parts.length := by simp [zS, h]
theorem zS_get {at' : List Int} {parts : List (List UInt8)} (i : Nat) (h1 : i < at'.length) (h2 : i < parts.length) : (zS at' parts)[i]? = some (at'[i].toNat, parts[i]) := by
  have : i < (at'.zip parts).length := by simp; omega
  simp [zS, List.getElem?_eq_getElem this]
theorem zS_take {at' : List Int} {parts : List (List UInt8)} (i : Nat) (h1 : i < at'.length) (h2 : i < parts.length) : wAll ((zS at' parts).take (i + 1)) = wAll ((zS at' parts).take i) ++ wOne at'[i].toNat parts[i] := by
  rw [List.take_succ, zS_get i h1 h2, wAll_app]
  congr 1
  simp [wAll]
theorem fill_loop2 (n : Nat) (at' : List Int) (parts : List (List UInt8)) (hn2 : n ≤ 3192) (hlen : at'.length = parts.length) (hl : parts.length < 4611686018427387904) (hfit : ∀ j (h1 : j < at'.length) (h2 : j < parts.length), fitS n at'[j] parts[j] = true) : ∀ (m i : Nat) (out : List UInt8) (there : List Bool), i + m = parts.length → Laid n (wAll ((zS at' parts).take i)) out there → ∀ ks Q,
    (∀ out there e, Laid n (wAll (zS at' parts)) out there → Xk T ks (.x 3) ([(4, .ptr 1 0), (8, .hs 1 3 0 n), (9, .hs 1 4 0 n)] ++ e) (HF n at' parts out there) Q) →
    (¬ okW (wAll (zS at' parts)) → ∀ h, Xk T ks .r [(6, .hn 1), (7, .int .i64 6)] h Q) →
    Xc T l_seg_Fill_2 ks [(4, .ptr 1 0), (8, .hs 1 3 0 n), (9, .hs 1 4 0 n), (45, .ps 1 (byss parts)), (46, .int .i64 parts.length), (47, .int .i64 i)] (HF n at' parts out there) Q := by
  intro m
  induction m with
  | zero =>
    intro i out there hi hL ks Q hQ hR
    rw [L_seg_Fill_2]; unfold bl_seg_Fill_2
    have : i = parts.length := by omega
    subst this
    rw [List.take_of_length_le (by rw [zS_len hlen]; exact Nat.le_refl _)] at hL
    simp (disch := omega)
    exact hQ out there _ hL
  | succ m ih =>
    intro i out there hi hL ks Q hQ hR
    rw [L_seg_Fill_2]; unfold bl_seg_Fill_2
    have e1 : i < parts.length := by omega
    have e2 : i < at'.length := by omega
    have e3 : (i : Int) < parts.length := by omega
    have g1 := List.getElem?_eq_getElem e1
    have hf := hfit i e2 e1
    simp only [fitS, Bool.and_eq_true, decide_eq_true_eq] at hf
    have ha : at'[i] = (at'[i].toNat : Nat) := by omega
    have hmem : (at'[i].toNat, parts[i]) ∈ zS at' parts := List.mem_of_getElem? (zS_get i e2 e1)
    simp (disch := omega) [e3, byss_get, g1, bys_len]
    refine fill_loop1 n at' parts (wAll ((zS at' parts).take i)) (wAll (zS at' parts)) i at'[i].toNat parts[i] hn2 e2 ha (by omega) (.int .i64 parts.length) (fun k hk => wAll_mem.2 ⟨_, hmem, wOne_mem.2 ⟨k, hk, rfl⟩⟩) (fun x hx => by
      obtain ⟨q, hq, hx⟩ := wAll_mem.1 hx
      exact wAll_mem.2 ⟨q, List.mem_of_mem_take hq, hx⟩) parts[i].length 0 out there (by omega) (by simpa [wOne] using hL) _ _ (fun out there e hL => ?_) (fun hno h => ?_)
    · have := ih (i + 1) out there (by omega) (by rw [zS_take i e2 e1]; exact hL) ks Q hQ hR
      simp (disch := omega)
      simpa using this
    · simp (disch := omega)
      exact hR hno h
theorem Index_b_loop (h : Heap) (l : List Bool) (x : Bool) (hb : l.length < 4611686018427387904) : ∀ (k i : Nat), i + k = l.length → ∀ ks Q,
    (x ∉ l.drop i → Xk T ks (.x 0) [(0, .ps 1 (bls l)), (1, .bool x), (7, .int .i64 l.length), (8, .int .i64 l.length), (9, .bool false)] h Q) →
    (x ∈ l.drop i → ∀ j : Nat, Xk T ks .r [(4, .int .i64 j)] h Q) →
    Xc T l_slices_Index_bool_bool_0 ks [(0, .ps 1 (bls l)), (1, .bool x), (7, .int .i64 l.length), (8, .int .i64 i)] h Q := by
  intro k
  induction k with
  | zero =>
    intro i hk ks Q h1 h2
    rw [L_slices_Index_bool_bool_0]; unfold bl_slices_Index_bool_bool_0
    have e0 : i = l.length := by omega
    subst e0
    simp (disch := omega)
    exact h1 (by simp)
  | succ k ih =>
    intro i hk ks Q h1 h2
    rw [L_slices_Index_bool_bool_0]; unfold bl_slices_Index_bool_bool_0
    have e1 : i < l.length := by omega
    have e3 : (i : Int) < l.length := by omega
    have da : l.drop i = l[i] :: l.drop (i + 1) := List.drop_eq_getElem_cons e1
    simp (disch := omega) [bls_get, e3, List.getElem?_eq_getElem e1]
    by_cases he : x = l[i]
    · simp (disch := omega) [he]
      exact h2 (by rw [da, ← he]; simp) i
    · have he2 : (x == l[i]) = false := by simpa using he
      simp (disch := omega) [he2]
      have := ih (i + 1) (by omega) ks Q (fun hh => h1 (by rw [da, List.mem_cons]; exact fun q => q.elim he hh)) (fun hh => h2 (by rw [da, List.mem_cons]; exact .inr hh))
      simpa using this
theorem Index_b_run (l : List Bool) (x : Bool) (h : Heap) (hb : l.length < 4611686018427387904) : ∃ j : Int, (0 ≤ j ↔ x ∈ l) ∧ Run T f_slices_Index_bool_bool [.ps 1 (bls l), .bool x] h (.int .i64 j) h := by
  obtain ⟨v, h', ⟨k, rfl, rfl, hk⟩, hr⟩ := Run.startP (P := fun v h' => ∃ k : Int, v = .int .i64 k ∧ h' = h ∧ (0 ≤ k ↔ x ∈ l)) t_slices_Index_bool_bool (vs := [.ps 1 (bls l), .bool x]) (h := h) (by
    unfold k_slices_Index_bool_bool
    simp (disch := omega) [bls_len]
    have := Index_b_loop h l x hb l.length 0 (by omega)
    simp at this
    refine this _ _ (fun hx => ?_) (fun hx j => ?_)
    · simp (disch := omega) [hx]
    · simp (disch := omega) [hx])
  exact ⟨k, hk, hr⟩
theorem Contains_b_run (l : List Bool) (x : Bool) (h : Heap) (hb : l.length < 4611686018427387904) : Run T f_slices_Contains_bool_bool [.ps 1 (bls l), .bool x] h (.bool (decide (x ∈ l))) h := by
  refine Run.start t_slices_Contains_bool_bool ?_
  unfold k_slices_Contains_bool_bool
  obtain ⟨j, hj, hr⟩ := Index_b_run l x [] hb
  simp (disch := omega)
  rw [Xp_run hr (by simp [bls_hfs]) rfl (by simp [scalar])]
  simp (disch := omega) [hj]
/-- What Fill yields. -/
def FillR (n : Int) (at' : List Int) (parts : List (List UInt8)) (u : V) : Prop := ∃ b e, u = .tup [.ps 1 (bys b), .int .i64 e] ∧
  ((n < 0 ∨ 3192 < n) ∧ b = [] ∧ e = 3 ∨ 0 ≤ n ∧ n ≤ 3192 ∧ (at'.length ≠ parts.length ∧ b = [] ∧ e = 2 ∨ at'.length = parts.length ∧
    ((∃ j, ∃ h1 : j < at'.length, ∃ h2 : j < parts.length, fitS n at'[j] parts[j] = false) ∧ b = [] ∧ e = 3 ∨
     (∀ j (h1 : j < at'.length) (h2 : j < parts.length), fitS n at'[j] parts[j] = true) ∧ FillP n.toNat (wAll (zS at' parts)) b e)))
theorem Fill_run (n : Int) (at' : List Int) (parts : List (List UInt8)) (hl1 : at'.length < 4611686018427387904) (hl2 : parts.length < 4611686018427387904) (hp : ∀ p ∈ parts, p.length ≤ 140737488351232) :
    ∃ u h', FillR n at' parts u ∧ Run T f_seg_Fill [.int .i64 n, .ps 1 (ints at'), .ps 1 (byss parts)] [] u h' := by
  refine Run.startP (P := fun u h' => FillR n at' parts u) t_seg_Fill ?_
  unfold k_seg_Fill
  simp (disch := omega)
  have f1 : (n < 0 ∨ 3192 < n) → FillR n at' parts (.tup [.ps 1 [], .int .i64 3]) := fun c => ⟨[], 3, rfl, .inl ⟨c, rfl, rfl⟩⟩
  refine Xg_decn (fun c1 => ?_) (fun c1 => ?_)
  · simp (disch := omega) [c1]
    refine Xb_dec (fun c2 => ?_) (fun c2 => ?_)
    · have := f1 (.inr (by omega))
      simp (disch := omega) [this]
    · have c3 : 0 ≤ n := by omega
      have c4 : n ≤ 3192 := by omega
      obtain ⟨m, rfl⟩ := Int.eq_ofNat_of_zero_le c3
      by_cases c5 : at'.length = parts.length
      · simp (disch := omega) [ints_len, byss_len, c5]
        apply Xc_regf
        simp (disch := omega)
        simp (disch := omega) [flagsIn, flagP, evOp]
        have hH : [some [V.int IntKind.i64 (m : Int)], some [V.ps 1 (ints at')], some [V.ps 1 (byss parts)], some (List.replicate m (V.int IntKind.u8 0)), some (List.replicate m (V.bool false))] = HF (m : Int) at' parts (List.replicate m 0) (List.replicate m false) := by
          unfold HF; rw [bys_rep, bls_rep]
        rw [byss_len, hH]
        refine fill_loop0 m at' parts _ _ c3 c4 c5 hl2 hp parts.length 0 (by omega) _ _ (fun hfit e => ?_) (fun hex => ?_)
        · simp (disch := omega) [byss_len]
          have hfit' : ∀ j (h1 : j < at'.length) (h2 : j < parts.length), fitS m at'[j] parts[j] = true := fun j h1 h2 => hfit j h1 h2 (Nat.zero_le _)
          have fin : ∀ b e, FillP m (wAll (zS at' parts)) b e → FillR m at' parts (.tup [.ps 1 (bys b), .int .i64 e]) := fun b e hP => ⟨b, e, rfl, .inr ⟨c3, c4, .inr ⟨c5, .inr ⟨fun j h1 h2 => hfit j h1 h2 (Nat.zero_le _), hP⟩⟩⟩⟩
          refine fill_loop2 m at' parts (by omega) c5 hl2 hfit' parts.length 0 _ _ (by omega) (by simpa [wAll] using Laid.start m) _ _ (fun out there e hL => ?_) (fun hno h => ?_)
          · have hcs : hsCells (HF (m : Int) at' parts out there) 1 4 0 m = some (bls there) := by
              rw [hs_cells HF_4 (by rw [bls_len, hL.tlen]; omega)]
              simp only [List.drop_zero, Nat.mul_one]
              rw [← hL.tlen, ← bls_len, List.take_length]
            have htl : there.length < 4611686018427387904 := by rw [hL.tlen]; omega
            have hck : chunk 1 false m (bls there) = bls there := chunk1 _ _ (by rw [bls_len, hL.tlen])
            have hok : chunkOk 1 false (bls there) = true := by simp only [chunkOk, bls_one]; rfl
            simp (disch := omega) [hcs, hok, hck]
            rw [Xp_run (Contains_b_run there false [] htl) (by simp [bls_hfs]) rfl (by simp [scalar])]
            simp (disch := omega)
            refine Xb_dec (fun d1 => ?_) (fun d1 => ?_)
            · have hnc : ¬ covW (wAll (zS at' parts)) m := fun hc => by
                obtain ⟨k, hk, hk2⟩ := List.getElem_of_mem d1
                have := (hL.th k (by rw [← hL.tlen]; exact hk)).2 (hc k (by rw [← hL.tlen]; exact hk))
                rw [List.getElem?_eq_getElem hk, hk2] at this
                cases this
              have := fin [] 8 (.inr (.inl ⟨hL.ok, hnc, rfl, rfl⟩))
              simp (disch := omega)
              exact this
            · have hc : covW (wAll (zS at' parts)) m := fun k hk => by
                have hk2 : k < there.length := by rw [hL.tlen]; exact hk
                refine (hL.th k hk).1 ?_
                rw [List.getElem?_eq_getElem hk2]
                cases hb : there[k] with
                | true => rfl
                | false => exact absurd (hb ▸ List.getElem_mem hk2) d1
              have hfz := freeze_hs (h := HF (m : Int) at' parts out there) (b := 3) HF_3 (bys_one out)
              rw [bys_len, hL.len] at hfz
              have := fin out 0 (.inr (.inr ⟨hL.ok, hc, hL.len, hL.val, rfl⟩))
              simp (disch := omega) [hfz]
              exact this
          · have := fin [] 6 (.inl ⟨hno, rfl, rfl⟩)
            simp (disch := omega)
            exact this
        · have : FillR m at' parts (.tup [.ps 1 [], .int .i64 3]) := ⟨[], 3, rfl, .inr ⟨c3, c4, .inr ⟨c5, .inl ⟨hex, rfl, rfl⟩⟩⟩⟩
          simp (disch := omega)
          exact this
      · have : FillR m at' parts (.tup [.ps 1 [], .int .i64 2]) := ⟨[], 2, rfl, .inr ⟨c3, c4, .inl ⟨c5, rfl, rfl⟩⟩⟩
        have c6 : ¬ ((at'.length : Int) = parts.length) := by omega
        simp (disch := omega) [ints_len, byss_len, c6, this]
  · have := f1 (.inl (by omega))
    simp (disch := omega) [c1, this]
def u64L (l : List Int) : List V := l.map (V.int .u64 ·)
theorem u64L_len (l : List Int) : (u64L l).length = l.length := by simp [u64L]
theorem u64L_get (l : List Int) (i : Nat) : (u64L l)[i]? = (l[i]?).map (V.int .u64 ·) := by simp [u64L]
theorem u64L_hfs (l : List Int) : V.hfs (u64L l) = true := hfs_map _ (fun _ => rfl) _
theorem u64L_one (l : List Int) : (u64L l).all V.one = true := by simp [u64L]
/-- A heap with the row that is sorted. -/
def SD (h : Heap) (b : Nat) (d : Array Int) : Heap := h.set b (some (u64L d.toList))
def atD (d : Array Int) (i : Nat) : Int := d[i]!
section
variable {h : Heap} {b : Nat}
theorem SD_len (d : Array Int) : (SD h b d).length = h.length := by simp [SD]
theorem SD_row (hb : b < h.length) (d : Array Int) : (SD h b d).row b = some (u64L d.toList) := by unfold SD; rw [row_set hb]
theorem SD_getN (d : Array Int) (i : Nat) (h1 : i < d.size) : (u64L d.toList)[i]? = some (.int .u64 (atD d i)) := by
  rw [u64L_get]
  simp [h1, atD]
theorem SD_ints (d : Array Int) : (u64L d.toList).length = d.size := by simp [u64L]
theorem SD_lt (hb : b < h.length) (d : Array Int) : b < List.length (SD h b d) := by rw [SD_len]; exact hb
theorem swp_size (d : Array Int) (i j : Nat) : (Sort.swp d i j).size = d.size := by simp [Sort.swp]
@[simp] theorem SD_swap (d : Array Int) (i j : Nat) : List.set (SD h b d) b (some (((u64L d.toList).set i (.int .u64 (atD d j))).set j (.int .u64 (atD d i)))) = SD h b (Sort.swp d i j) := by
  unfold SD Sort.swp atD
  rw [List.set_set]
  congr 2
  simp [u64L, List.map_set]
end
theorem isNaN_run (x : Int) (h : Heap) : Run T f_cmp_isNaN_uint64 [.int .u64 x] h (.bool false) h := by
  refine Run.start t_cmp_isNaN_uint64 ?_
  unfold k_cmp_isNaN_uint64
  simp (disch := omega)
section
variable {ks : List Kt} {ops : List AOpr} {K : Kp} {e : Env} {h : Heap} {Q : Ex → Env → Heap → Prop} {d : Nat} {lent : Bool}
theorem isNaN_p (x : Int) : Xp T f_cmp_isNaN_uint64 (some ([.int .u64 x], lent)) h (some d) ops K ks e Q = Xo T ops K ks ((d, .bool false) :: e) h Q :=
  Xp_run (isNaN_run x []) (by simp) rfl (by simp [scalar])
end
theorem Less_run (x y : Int) (h : Heap) : Run T f_cmp_Less_uint64 [.int .u64 x, .int .u64 y] h (.bool (decide (x < y))) h := by
  refine Run.start t_cmp_Less_uint64 ?_
  unfold k_cmp_Less_uint64
  simp (disch := omega) [isNaN_p]
section
variable {ks : List Kt} {ops : List AOpr} {K : Kp} {e : Env} {h : Heap} {Q : Ex → Env → Heap → Prop} {d : Nat} {lent : Bool}
theorem Less_p (x y : Int) : Xp T f_cmp_Less_uint64 (some ([.int .u64 x, .int .u64 y], lent)) h (some d) ops K ks e Q = Xo T ops K ks ((d, .bool (decide (x < y))) :: e) h Q :=
  Xp_run (Less_run x y []) (by simp) rfl (by simp [scalar])
end
section
variable {h : Heap} {b : Nat}
theorem ins_in (hb : b < h.length) (a n : Nat) (v1 v6 : V) (a' : Nat) (hv1 : v1 = .int .i64 a) : ∀ (j : Nat) (d : Array Int), d.size = n → n < 4611686018427387904 → j < n → ∀ ks Q,
    (∀ j', Xk T ks (.x 2) [(0, .hs 1 b 0 n), (1, v1), (2, .int .i64 a'), (6, v6), (7, .int .i64 j'), (30, .bool false)] (SD h b (Sort.insInner Sort.ltInt a j d)) Q) →
    Xc T l_slices_insertionSortOrdered_uint64_0 ks [(0, .hs 1 b 0 n), (1, v1), (2, .int .i64 a'), (6, v6), (7, .int .i64 j)] (SD h b d) Q := by
  intro j
  subst hv1
  induction j with
  | zero =>
    intro d hd hn hj ks Q hQ
    rw [L_slices_insertionSortOrdered_uint64_0]; unfold bl_slices_insertionSortOrdered_uint64_0
    have c1 : ¬ (a : Int) < 0 := by omega
    simp (disch := omega) [c1]
    exact hQ 0
  | succ j ih =>
    intro d hd hn hj ks Q hQ
    rw [L_slices_insertionSortOrdered_uint64_0]; unfold bl_slices_insertionSortOrdered_uint64_0
    have e1 : j < d.size := by omega
    have e2 : j + 1 < d.size := by omega
    have g1 := SD_getN d j e1
    have g2 := SD_getN d (j + 1) e2
    have r1 := SD_row hb d
    have gl := SD_ints d
    have hbs := SD_lt hb d
    have e5 : ((j : Int) + 1 - 1) = j := by omega
    have e6 : ((j : Int) + 1).toNat = j + 1 := by omega
    by_cases c1 : a < j + 1
    · have c1' : (a : Int) < (j : Int) + 1 := by omega
      simp (disch := omega) [c1, c1', e5, e6, r1, g1, g2, Less_p]
      by_cases c3 : atD d (j + 1) < atD d j
      · have hl : Sort.ltInt d[j + 1]! d[j]! = true := decide_eq_true c3
        have hi := ih (Sort.swp d (j + 1) j) (by rw [swp_size]; exact hd) hn (by omega) ks Q (fun j' => by
          have := hQ j'
          unfold Sort.insInner at this
          rw [if_pos (by simp [hl]; omega)] at this
          exact this)
        simp (disch := omega) [c3, e5, e6, r1, g1, g2, gl]
        exact hi
      · have hl : Sort.ltInt d[j + 1]! d[j]! = false := decide_eq_false c3
        have := hQ ((j : Int) + 1)
        unfold Sort.insInner at this
        rw [if_neg (by simp [hl])] at this
        simp (disch := omega) [c3]
        simpa using this
    · have c1' : ¬ (a : Int) < (j : Int) + 1 := by omega
      have := hQ ((j : Int) + 1)
      unfold Sort.insInner at this
      rw [if_neg (by simp; omega)] at this
      simp (disch := omega) [c1, c1']
      simpa using this
theorem insInner_size (lt : Int → Int → Bool) (a : Nat) : ∀ (j : Nat) (d : Array Int), (Sort.insInner lt a j d).size = d.size
  | 0, d => rfl
  | j + 1, d => by
    unfold Sort.insInner
    split
    · rw [insInner_size lt a j, swp_size]
    · rfl
theorem ins_out (hb : b < h.length) (a e n : Nat) (hn : n < 4611686018427387904) (he : e ≤ n) : ∀ (m i : Nat) (d : Array Int), e - i ≤ m → d.size = n → ∀ ks Q,
    (∀ i' : Int, Xk T ks (.x 0) [(0, .hs 1 b 0 n), (1, .int .i64 a), (2, .int .i64 e), (6, .int .i64 i'), (12, .bool false)] (SD h b (Sort.insOuter Sort.ltInt a e i d)) Q) →
    Xc T l_slices_insertionSortOrdered_uint64_1 ks [(0, .hs 1 b 0 n), (1, .int .i64 a), (2, .int .i64 e), (6, .int .i64 i)] (SD h b d) Q := by
  intro m
  induction m with
  | zero =>
    intro i d hm hd ks Q hQ
    rw [L_slices_insertionSortOrdered_uint64_1]; unfold bl_slices_insertionSortOrdered_uint64_1
    have c1 : ¬ (i : Int) < e := by omega
    have c2 : ¬ i < e := by omega
    have := hQ i
    unfold Sort.insOuter at this
    rw [if_neg c2] at this
    simp (disch := omega) [c1, c2]
    exact this
  | succ m ih =>
    intro i d hm hd ks Q hQ
    by_cases c2 : i < e
    · rw [L_slices_insertionSortOrdered_uint64_1]; unfold bl_slices_insertionSortOrdered_uint64_1
      simp (disch := omega) [c2]
      refine ins_in hb a n (.int .i64 a) (.int .i64 i) e rfl i d hd hn (by omega) _ _ fun j' => ?_
      simp (disch := omega)
      have := ih (i + 1) (Sort.insInner Sort.ltInt a i d) (by omega) (by rw [← hd]; exact insInner_size _ _ _ _) ks Q (fun i' => by
        have := hQ i'
        unfold Sort.insOuter at this
        rw [if_pos c2] at this
        exact this)
      simpa using this
    · rw [L_slices_insertionSortOrdered_uint64_1]; unfold bl_slices_insertionSortOrdered_uint64_1
      have := hQ i
      unfold Sort.insOuter at this
      rw [if_neg c2] at this
      simp (disch := omega) [c2]
      exact this
theorem ins_run (hb : b < h.length) (d : Array Int) (a e : Nat) (hn : d.size < 4611686018427387904) (hae : a ≤ e) (he : e ≤ d.size) :
    Run T f_slices_insertionSortOrdered_uint64 [.hs 1 b 0 d.size, .int .i64 a, .int .i64 e] (SD h b d) (.tup []) (SD h b (Sort.insertionSort Sort.ltInt d a e)) := by
  refine Run.start t_slices_insertionSortOrdered_uint64 ?_
  unfold k_slices_insertionSortOrdered_uint64
  simp (disch := omega)
  have := ins_out hb a e d.size hn he (e - (a + 1)) (a + 1) d (by omega) rfl
  simp at this
  refine this _ _ fun i' => ?_
  simp (disch := omega) [Sort.insertionSort]
end
theorem lenTab_get : ∀ n, n < 64 → ([0, 1, 2, 2, 3, 3, 3, 3, 4, 4, 4, 4, 4, 4, 4, 4, 5, 5, 5, 5, 5, 5, 5, 5, 5, 5, 5, 5, 5, 5, 5, 5, 6, 6, 6, 6, 6, 6, 6, 6, 6, 6, 6, 6, 6, 6, 6, 6, 6, 6, 6, 6, 6, 6, 6, 6, 6, 6, 6, 6, 6, 6, 6, 6, 7, 7, 7, 7, 7, 7, 7, 7, 7, 7, 7, 7, 7, 7, 7, 7, 7, 7, 7, 7, 7, 7, 7, 7, 7, 7, 7, 7, 7, 7, 7, 7, 7, 7, 7, 7, 7, 7, 7, 7, 7, 7, 7, 7, 7, 7, 7, 7, 7, 7, 7, 7, 7, 7, 7, 7, 7, 7, 7, 7, 7, 7, 7, 7, 8, 8, 8, 8, 8, 8, 8, 8, 8, 8, 8, 8, 8, 8, 8, 8, 8, 8, 8, 8, 8, 8, 8, 8, 8, 8, 8, 8, 8, 8, 8, 8, 8, 8, 8, 8, 8, 8, 8, 8, 8, 8, 8, 8, 8, 8, 8, 8, 8, 8, 8, 8, 8, 8, 8, 8, 8, 8, 8, 8, 8, 8, 8, 8, 8, 8, 8, 8, 8, 8, 8, 8, 8, 8, 8, 8, 8, 8, 8, 8, 8, 8, 8, 8, 8, 8, 8, 8, 8, 8, 8, 8, 8, 8, 8, 8, 8, 8, 8, 8, 8, 8, 8, 8, 8, 8, 8, 8, 8, 8, 8, 8, 8, 8, 8, 8, 8, 8, 8, 8, 8, 8, 8, 8, 8, 8, 8, 8] : List UInt8)[n]? = some (UInt8.ofNat (Sort.bitsLen n)) := by decide +kernel
theorem bitsLen_le : ∀ n, n < 64 → Sort.bitsLen n ≤ 6 := by decide +kernel
theorem len64_run (h : Heap) (n : Nat) (hn : n < 64) : Run T f_math_bits_Len64 [.int .u64 n] h (.int .i64 (Sort.bitsLen n : Nat)) h := by
  refine Run.start t_math_bits_Len64 ?_
  unfold k_math_bits_Len64
  have c1 : ¬ (4294967296 : Int) ≤ n := by omega
  have c2 : ¬ (65536 : Int) ≤ n := by omega
  have c3 : ¬ (256 : Int) ≤ n := by omega
  have hb := bitsLen_le n hn
  have hm : Sort.bitsLen n % 256 = Sort.bitsLen n := by omega
  simp (disch := omega) [c1, c2, c3, lenTab_get n hn, byteV, hm]
theorem len_run (h : Heap) (n : Nat) (hn : n < 64) : Run T f_math_bits_Len [.int .u64 n] h (.int .i64 (Sort.bitsLen n : Nat)) h := by
  refine Run.start t_math_bits_Len ?_
  unfold k_math_bits_Len
  simp (disch := omega)
  rw [Xp_run (len64_run [] n hn) (by simp) (by simp) (by simp)]
  simp (disch := omega)
section
variable {h : Heap} {b : Nat}
end
section
variable {h : Heap} {b : Nat}
theorem sift_loop (hb : b < h.length) (hi first n : Nat) (hn : n < 1152921504606846976) (hf1 : first + hi ≤ n) : ∀ (m root : Nat) (d : Array Int), hi - root ≤ m → d.size = n → (root < hi ∨ hi = 0 ∧ root = 0 ∨ hi ≤ root ∧ root ≤ n) → ∀ ks Q,
    (∀ e, Xk T ks (.x 0) e (SD h b (Sort.siftDown (Sort.ltInt) hi first root d)) Q) → (∀ e, Xk T ks .r e (SD h b (Sort.siftDown (Sort.ltInt) hi first root d)) Q) →
    Xc T l_slices_siftDownOrdered_uint64_0 ks [(0, .hs 1 b 0 n), (2, .int .i64 hi), (3, .int .i64 first), (8, .int .i64 root)] (SD h b d) Q := by
  intro m
  induction m with
  | zero =>
    intro root d hm hd hr ks Q hx hr2
    rw [L_slices_siftDownOrdered_uint64_0]; unfold bl_slices_siftDownOrdered_uint64_0
    have c1 : (hi : Int) ≤ 2 * root + 1 := by omega
    have := fun e => hx e
    unfold Sort.siftDown at this
    simp (disch := omega) [c1]
    have h2 : 2 * root + 1 ≥ hi := by omega
    rw [dif_pos h2] at this
    exact this _
  | succ m ih =>
    intro root d hm hd hr ks Q hx hr2
    rw [L_slices_siftDownOrdered_uint64_0]; unfold bl_slices_siftDownOrdered_uint64_0
    have r1 := SD_row hb d
    have gl := SD_ints d
    have hbs := SD_lt hb d
    unfold Sort.siftDown at hx hr2
    by_cases h2 : 2 * root + 1 ≥ hi
    · have c1 : (hi : Int) ≤ 2 * root + 1 := by omega
      simp (disch := omega) [c1]
      rw [dif_pos h2] at hx
      exact hx _
    · have c1 : ¬ (hi : Int) ≤ 2 * root + 1 := by omega
      rw [dif_neg h2] at hx hr2
      have g0 := SD_getN d (first + root) (by omega)
      have g1 := SD_getN d (first + (2 * root + 1)) (by omega)
      have i0 : ((first : Int) + root).toNat = first + root := by omega
      have i1 : ((first : Int) + (2 * root + 1)).toNat = first + (2 * root + 1) := by omega
      have i2 : ((first : Int) + (2 * root + 1) + 1).toNat = first + (2 * root + 1) + 1 := by omega
      have i3 : ((first : Int) + (2 * root + 1 + 1)).toNat = first + (2 * root + 2) := by omega
      simp (disch := omega) [c1]
      refine share2 (fun (ch : Nat) (_ : List (Nat × V)) => ch < hi ∧ root < ch ∧ ∀ P : Array Int → Prop, (P (if 2 * root + 1 + 1 < hi && Sort.ltInt d[first + (2 * root + 1)]! d[first + (2 * root + 1) + 1]! then
        if !Sort.ltInt d[first + root]! d[first + (2 * root + 2)]! then d else
          if _h2 : 2 * root + 2 < hi then Sort.siftDown (Sort.ltInt) hi first (2 * root + 2) (Sort.swp d (first + root) (first + (2 * root + 2))) else d
        else
          if !Sort.ltInt d[first + root]! d[first + (2 * root + 1)]! then d else Sort.siftDown (Sort.ltInt) hi first (2 * root + 1) (Sort.swp d (first + root) (first + (2 * root + 1))))) →
        P (if !Sort.ltInt d[first + root]! d[first + ch]! then d else Sort.siftDown (Sort.ltInt) hi first ch (Sort.swp d (first + root) (first + ch)))) ?R (fun hR => ?main) ?rest
      case main =>
        apply Xg_dec
        · intro c2
          have c2' : 2 * root + 1 + 1 < hi := by omega
          have g2 := SD_getN d (first + (2 * root + 1) + 1) (by omega)
          simp (disch := omega) [c2, i1, i2, r1, g1, g2, Less_p]
          apply Xb_dec
          · intro c3
            have hl : Sort.ltInt d[first + (2 * root + 1)]! d[first + (2 * root + 1) + 1]! = true := decide_eq_true c3
            simp (disch := omega)
            obtain ⟨ch, hch⟩ : ∃ ch, ch = 2 * root + 2 := ⟨_, rfl⟩
            rw [show (2 : Int) * root + 1 + 1 = (ch : Int) by omega]
            generalize ([] : List (Nat × V)) = tl
            refine hR ch tl ⟨by omega, by omega, fun P hP => ?_⟩
            subst hch
            rw [if_pos (by simp [hl, c2'])] at hP
            rw [dif_pos (show 2 * root + 2 < hi by omega)] at hP
            exact hP
          · intro c3
            have hl : Sort.ltInt d[first + (2 * root + 1)]! d[first + (2 * root + 1) + 1]! = false := decide_eq_false c3
            simp (disch := omega) [c3]
            obtain ⟨ch, hch⟩ : ∃ ch, ch = 2 * root + 1 := ⟨_, rfl⟩
            rw [show (2 : Int) * root + 1 = (ch : Int) by omega]
            generalize [((36 : Nat), V.bool false)] = tl
            refine hR ch tl ⟨by omega, by omega, fun P hP => ?_⟩
            subst hch
            rw [if_neg (by simp [hl])] at hP
            exact hP
        · intro c2
          have c2' : ¬ 2 * root + 1 + 1 < hi := by omega
          simp (disch := omega) [c2]
          obtain ⟨ch, hch⟩ : ∃ ch, ch = 2 * root + 1 := ⟨_, rfl⟩
          rw [show (2 : Int) * root + 1 = (ch : Int) by omega]
          generalize [((36 : Nat), V.bool false)] = tl
          refine hR ch tl ⟨by omega, by omega, fun P hP => ?_⟩
          subst hch
          rw [if_neg (by simp [c2'])] at hP
          exact hP
      case rest =>
        intro ch tl ⟨h5, h6, hP⟩
        have gc := SD_getN d (first + ch) (by omega)
        have ic : ((first : Int) + ch).toNat = first + ch := by omega
        simp (disch := omega) [i0, ic, r1, g0, gc, Less_p]
        apply Xb_decn
        · intro c3
          have hl : Sort.ltInt d[first + root]! d[first + ch]! = false := decide_eq_false c3
          simp (disch := omega)
          have := hP (fun z => Xk T ks .r [(0, .hs 1 b 0 n), (2, .int .i64 hi), (3, .int .i64 first), (8, .int .i64 root), (9, .int .i64 ch), (52, .bool true)] (SD h b z) Q) (hr2 _)
          rw [if_pos (by simp [hl])] at this
          simpa [c3] using this
        · intro c3
          have hl : Sort.ltInt d[first + root]! d[first + ch]! = true := decide_eq_true c3
          simp (disch := omega) [i0, ic, r1, g0, gc, gl]
          refine ih ch (Sort.swp d (first + root) (first + ch)) (by omega) (by rw [swp_size]; exact hd) (Or.inl h5) ks Q (fun e => ?_) (fun e => ?_)
          · have := hP (fun z => Xk T ks (.x 0) e (SD h b z) Q) (hx e)
            rwa [if_neg (by simp [hl])] at this
          · have := hP (fun z => Xk T ks .r e (SD h b z) Q) (hr2 e)
            rwa [if_neg (by simp [hl])] at this
theorem sift_run (hb : b < h.length) (d : Array Int) (lo hi first : Nat) (hn : d.size < 1152921504606846976) (hf1 : first + hi ≤ d.size) (hlo : lo < hi ∨ hi = 0 ∧ lo = 0) :
    Run T f_slices_siftDownOrdered_uint64 [.hs 1 b 0 d.size, .int .i64 lo, .int .i64 hi, .int .i64 first] (SD h b d) (.tup []) (SD h b (Sort.siftDown (Sort.ltInt) hi first lo d)) := by
  refine Run.start t_slices_siftDownOrdered_uint64 ?_
  unfold k_slices_siftDownOrdered_uint64
  simp (disch := omega)
  refine sift_loop hb hi first d.size hn hf1 (hi - lo) lo d (by omega) rfl (by omega) _ _ (fun e => ?_) (fun e => ?_)
  · simp
  · simp
theorem siftDown_size (lt : Int → Int → Bool) (hi first : Nat) : ∀ (m root : Nat) (d : Array Int), hi - root ≤ m → (Sort.siftDown lt hi first root d).size = d.size := by
  intro m
  induction m with
  | zero =>
    intro root d hm
    unfold Sort.siftDown
    rw [dif_pos (by omega)]
  | succ m ih =>
    intro root d hm
    unfold Sort.siftDown
    repeat' split
    all_goals first | rfl | (rw [ih _ _ (by omega), swp_size])
theorem build_loop (hb : b < h.length) (hi first n : Nat) (hn : n < 1152921504606846976) (hf1 : first + hi ≤ n) : ∀ (k : Nat) (d : Array Int), d.size = n → (k ≤ hi ∨ k = 1 ∧ hi = 0) → ∀ ks Q,
    (∀ tl, Xk T ks (.x 0) ([(0, .hs 1 b 0 n), (6, .int .i64 first), (7, .int .i64 0), (8, .int .i64 hi)] ++ tl) (SD h b (Sort.heapBuild (Sort.ltInt) hi first k d)) Q) →
    Xc T l_slices_heapSortOrdered_uint64_0 ks [(0, .hs 1 b 0 n), (6, .int .i64 first), (7, .int .i64 0), (8, .int .i64 hi), (9, .int .i64 ((k : Int) - 1))] (SD h b d) Q := by
  intro k
  induction k with
  | zero =>
    intro d hd hk ks Q hx
    rw [L_slices_heapSortOrdered_uint64_0]; unfold bl_slices_heapSortOrdered_uint64_0
    simp (disch := omega)
    exact hx _
  | succ k ih =>
    intro d hd hk ks Q hx
    rw [L_slices_heapSortOrdered_uint64_0]; unfold bl_slices_heapSortOrdered_uint64_0
    have e1 : ((k : Int) + 1 - 1) = k := by omega
    simp (disch := omega) [e1]
    subst hd
    rw [Xf_run (sift_run hb d k hi first hn hf1 (by omega))]
    simp (disch := omega)
    have := ih (Sort.siftDown (Sort.ltInt) hi first k d) (siftDown_size _ _ _ _ _ _ (Nat.le_refl _)) (by omega) ks Q hx
    simpa using this
end
section
variable {h : Heap} {b : Nat}
theorem build_size (lt : Int → Int → Bool) (hi first : Nat) : ∀ (k : Nat) (d : Array Int), (Sort.heapBuild lt hi first k d).size = d.size
  | 0, d => rfl
  | k + 1, d => by
    unfold Sort.heapBuild
    rw [build_size lt hi first k, siftDown_size _ _ _ _ _ _ (Nat.le_refl _)]
theorem pop_loop (hb : b < h.length) (first n : Nat) (hn : n < 1152921504606846976) : ∀ (k : Nat) (d : Array Int), d.size = n → first + k ≤ n → ∀ ks Q,
    (∀ e, Xk T ks (.x 2) e (SD h b (Sort.heapPop (Sort.ltInt) first k d)) Q) →
    Xc T l_slices_heapSortOrdered_uint64_1 ks [(0, .hs 1 b 0 n), (6, .int .i64 first), (7, .int .i64 0), (10, .int .i64 ((k : Int) - 1))] (SD h b d) Q := by
  intro k
  induction k with
  | zero =>
    intro d hd hk ks Q hx
    rw [L_slices_heapSortOrdered_uint64_1]; unfold bl_slices_heapSortOrdered_uint64_1
    simp (disch := omega)
    exact hx _
  | succ k ih =>
    intro d hd hk ks Q hx
    rw [L_slices_heapSortOrdered_uint64_1]; unfold bl_slices_heapSortOrdered_uint64_1
    have e1 : ((k : Int) + 1 - 1) = k := by omega
    have r1 := SD_row hb d
    have gl := SD_ints d
    have hbs := SD_lt hb d
    have g0 := SD_getN d first (by omega)
    have g1 := SD_getN d (first + k) (by omega)
    have i1 : ((first : Int) + k).toNat = first + k := by omega
    simp (disch := omega) [e1, i1, r1, g0, g1, gl]
    have hsz : (Sort.swp d first (first + k)).size = n := by rw [swp_size]; exact hd
    subst hsz
    rw [Xf_run (by simpa using sift_run hb (Sort.swp d first (first + k)) 0 k first hn (by omega) (by omega))]
    simp (disch := omega)
    have := ih (Sort.siftDown (Sort.ltInt) k first 0 (Sort.swp d first (first + k))) (siftDown_size _ _ _ _ _ _ (Nat.le_refl _)) (by omega) ks Q hx
    simpa using this
theorem tdiv2 (a : Int) (h : 0 ≤ a) : a.tdiv 2 = a / 2 := Int.tdiv_eq_ediv_of_nonneg h
theorem heap_run (hb : b < h.length) (d : Array Int) (a e : Nat) (hn : d.size < 1152921504606846976) (hae : a < e) (he : e ≤ d.size) :
    Run T f_slices_heapSortOrdered_uint64 [.hs 1 b 0 d.size, .int .i64 a, .int .i64 e] (SD h b d) (.tup []) (SD h b (Sort.heapSort (Sort.ltInt) d a e)) := by
  refine Run.start t_slices_heapSortOrdered_uint64 ?_
  unfold k_slices_heapSortOrdered_uint64
  obtain ⟨m, hm⟩ : ∃ m, m = e - a := ⟨_, rfl⟩
  obtain ⟨k, hk⟩ : ∃ k, k = (m - 1) / 2 + 1 := ⟨_, rfl⟩
  have e1 : (e : Int) - a = (m : Int) := by omega
  have e2 : ((m : Int) - 1).tdiv 2 = ((k : Int) - 1) := by
    rw [tdiv2 _ (by omega)]; omega
  unfold Sort.heapSort
  rw [← hm, ← hk]
  simp (disch := omega) [e1, e2]
  refine build_loop hb m a d.size hn (by omega) k d rfl (by omega) _ _ fun tl => ?_
  simp (disch := omega)
  refine pop_loop hb a d.size hn m _ (build_size _ _ _ _ _) (by omega) _ _ fun e => ?_
  simp (disch := omega)
/-- A heap with the row that is sorted and a counter. -/
theorem row_SD {r : Nat} (hr : r ≠ b) (d : Array Int) : (SD h b d).row r = h.row r := by unfold SD; exact row_ne (fun e => hr e.symm)
theorem set_SD {r : Nat} (hr : r ≠ b) (d : Array Int) (X : Option (List V)) : (SD h b d).set r X = SD (h.set r X) b d := by
  unfold SD; exact (List.set_comm _ _ (fun e => hr e.symm))
/-- A counter's cell, at row s. -/
def SW (h : Heap) (s : Nat) (z : Int) : Heap := h.set s (some [.int .i64 z])
theorem SW_len (s : Nat) (z : Int) : (SW h s z).length = h.length := by simp [SW]
theorem SW_row {s : Nat} (hs : s < h.length) (z : Int) : (SW h s z).row s = some [.int .i64 z] := by unfold SW; rw [row_set hs]
theorem SW_set {s : Nat} (z z' : Int) : (SW h s z).set s (some [.int .i64 z']) = SW h s z' := by unfold SW; rw [List.set_set]
theorem ps_getN (d : Array Int) (i : Nat) (h1 : i < d.size) : (u64L d.toList)[i]? = some (.int .u64 (atD d i)) := SD_getN d i h1
theorem ord2_run (s : Nat) (hs : s < h.length) (d : Array Int) (x y z : Nat) (hx : x < d.size) (hy : y < d.size) (hn : d.size < 1152921504606846976) (hz : z < 1000) :
    Run T f_slices_order2Ordered_uint64 [.ps 1 (u64L d.toList), .int .i64 x, .int .i64 y, .ptr s 0] (SW h s z)
      (.tup [.int .i64 ((Sort.order2 (Sort.ltInt) d x y z).1 : Nat), .int .i64 ((Sort.order2 (Sort.ltInt) d x y z).2.1 : Nat)]) (SW h s ((Sort.order2 (Sort.ltInt) d x y z).2.2 : Nat)) := by
  refine Run.start t_slices_order2Ordered_uint64 ?_
  unfold k_slices_order2Ordered_uint64
  have g0 := ps_getN d x hx
  have g1 := ps_getN d y hy
  have vc : ∀ z : Int, (V.int .i64 z).cells = [V.int .i64 z] := fun _ => rfl
  have r2 : (SW h s z).row s = some [.int .i64 z] := SW_row hs z
  have hlt : s < List.length (SW h s z) := by rw [SW_len]; exact hs
  by_cases c3 : atD d y < atD d x
  · have hl : Sort.ltInt d[y]! d[x]! = true := decide_eq_true c3
    have ho : Sort.order2 (Sort.ltInt) d x y z = (y, x, z + 1) := by unfold Sort.order2; rw [if_pos hl]
    simp (disch := omega) [g0, g1, vc, Less_p, c3, r2, hlt]
    rw [SW_set, ho]
    simp
  · have hl : Sort.ltInt d[y]! d[x]! = false := decide_eq_false c3
    have ho : Sort.order2 (Sort.ltInt) d x y z = (x, y, z) := by unfold Sort.order2; rw [if_neg (by rw [hl]; simp)]
    simp (disch := omega) [g0, g1, vc, Less_p, c3, ho]
theorem median_run (s : Nat) (hs : s < h.length) (d : Array Int) (x y w z : Nat) (hx : x < d.size) (hy : y < d.size) (hw : w < d.size) (hn : d.size < 1152921504606846976) (hz : z < 900) :
    Run T f_slices_medianOrdered_uint64 [.ps 1 (u64L d.toList), .int .i64 x, .int .i64 y, .int .i64 w, .ptr s 0] (SW h s z)
      (.int .i64 ((Sort.median (Sort.ltInt) d x y w z).1 : Nat)) (SW h s ((Sort.median (Sort.ltInt) d x y w z).2 : Nat)) := by
  refine Run.start t_slices_medianOrdered_uint64 ?_
  unfold k_slices_medianOrdered_uint64 Sort.median
  have hr : ∀ (x y z : Nat), x < d.size → y < d.size → z < 1000 → (Sort.order2 (Sort.ltInt) d x y z).1 < d.size ∧ (Sort.order2 (Sort.ltInt) d x y z).2.1 < d.size ∧ (Sort.order2 (Sort.ltInt) d x y z).2.2 ≤ z + 1 := by
    intro x y z h1 h2 h3
    unfold Sort.order2
    split <;> refine ⟨?_, ?_, ?_⟩ <;> simp <;> omega
  simp (disch := omega)
  rw [Xf_run (ord2_run s hs d x y z hx hy hn (by omega))]
  have k1 := hr x y z hx hy (by omega)
  generalize Sort.order2 (Sort.ltInt) d x y z = r1 at k1
  obtain ⟨k1, k2, k3⟩ := k1
  simp (disch := omega)
  rw [Xf_run (ord2_run s hs d r1.2.1 w r1.2.2 k2 hw hn (by omega))]
  have l1 := hr r1.2.1 w r1.2.2 k2 hw (by omega)
  generalize Sort.order2 (Sort.ltInt) d r1.2.1 w r1.2.2 = r2 at l1
  obtain ⟨l1, l2, l3⟩ := l1
  simp (disch := omega)
  rw [Xf_run (ord2_run s hs d r1.1 r2.1 r2.2.2 k1 l1 hn (by omega))]
  simp (disch := omega)
end
section
variable {h : Heap} {b : Nat}
theorem SD_app (hb : b < h.length) (d : Array Int) (k : Heap) : SD h b d ++ k = SD (h ++ k) b d := by
  unfold SD; rw [List.set_append_left _ _ hb]
def hintN : Sort.Hint → Int
  | .unknown => 0
  | .increasing => 1
  | .decreasing => 2
theorem tdiv4 (a : Int) (h : 0 ≤ a) : a.tdiv 4 = a / 4 := Int.tdiv_eq_ediv_of_nonneg h
theorem ord2_lt (lt : Int → Int → Bool) (d : Array Int) (x y z : Nat) (hx : x < d.size) (hy : y < d.size) : (Sort.order2 lt d x y z).1 < d.size ∧ (Sort.order2 lt d x y z).2.1 < d.size ∧ (Sort.order2 lt d x y z).2.2 ≤ z + 1 := by
  unfold Sort.order2
  split <;> refine ⟨?_, ?_, ?_⟩ <;> simp <;> omega
theorem med_lt (lt : Int → Int → Bool) (d : Array Int) (x y w z : Nat) (hx : x < d.size) (hy : y < d.size) (hw : w < d.size) : (Sort.median lt d x y w z).1 < d.size ∧ (Sort.median lt d x y w z).2 ≤ z + 3 := by
  obtain ⟨a1, a2, a3⟩ := ord2_lt lt d x y z hx hy
  unfold Sort.median
  dsimp only
  obtain ⟨b1, b2, b3⟩ := ord2_lt lt d _ w (Sort.order2 lt d x y z).2.2 a2 hw
  obtain ⟨c1, c2, c3⟩ := ord2_lt lt d _ _ (Sort.order2 lt d (Sort.order2 lt d x y z).2.1 w (Sort.order2 lt d x y z).2.2).2.2 a1 b1
  exact ⟨c2, by omega⟩
theorem adj_run (s : Nat) (hs : s < h.length) (d : Array Int) (a z : Nat) (h0 : 1 ≤ a) (h1 : a + 1 < d.size) (hn : d.size < 1152921504606846976) (hz : z < 900) :
    Run T f_slices_medianAdjacentOrdered_uint64 [.ps 1 (u64L d.toList), .int .i64 a, .ptr s 0] (SW h s z)
      (.int .i64 ((Sort.medianAdjacent (Sort.ltInt) d a z).1 : Nat)) (SW h s ((Sort.medianAdjacent (Sort.ltInt) d a z).2 : Nat)) := by
  refine Run.start t_slices_medianAdjacentOrdered_uint64 ?_
  unfold k_slices_medianAdjacentOrdered_uint64 Sort.medianAdjacent
  have e1 : (a : Int) - 1 = ((a - 1 : Nat) : Int) := by omega
  simp (disch := omega) [e1]
  rw [Xf_run (by simpa using median_run s hs d (a - 1) a (a + 1) z (by omega) (by omega) h1 hn hz)]
  simp (disch := omega)
theorem choose_run (d : Array Int) (a e : Nat) (hn : d.size < 1000) (hae : a + 12 < e) (he : e ≤ d.size) :
    ∃ h', Run T f_slices_choosePivotOrdered_uint64 [.ps 1 (u64L d.toList), .int .i64 a, .int .i64 e] []
      (.tup [.int .i64 ((Sort.choosePivot (Sort.ltInt) d a e).1 : Nat), .int .i64 (hintN (Sort.choosePivot (Sort.ltInt) d a e).2)]) h' := by
  obtain ⟨q, hq⟩ : ∃ q, q = (e - a) / 4 := ⟨_, rfl⟩
  obtain ⟨x, hx⟩ : ∃ x, x = a + q * 1 := ⟨_, rfl⟩
  obtain ⟨y, hy⟩ : ∃ y, y = a + q * 2 := ⟨_, rfl⟩
  obtain ⟨w, hw⟩ : ∃ w, w = a + q * 3 := ⟨_, rfl⟩
  obtain ⟨l, hl⟩ : ∃ l, l = e - a := ⟨_, rfl⟩
  have e1 : (e : Int) - a = (l : Int) := by omega
  have e2 : (l : Int).tdiv 4 = (q : Int) := by rw [tdiv4 _ (by omega)]; omega
  have e3 : (a : Int) + q * 2 = y := by omega
  have e4 : (a : Int) + q * 3 = w := by omega
  have e5 : (a : Int) + q = x := by omega
  have c1 : (8 : Int) ≤ l := by omega
  have c1' : 8 ≤ l := by omega
  have hh : ([some [.int .i64 0]] : Heap) = SW [some [.int .i64 0]] 0 ((0 : Nat) : Int) := rfl
  have hlA : 0 < ([some [V.int .i64 0]] : Heap).length := by simp
  have r2 : ∀ z : Int, Heap.row (SW [some [.int .i64 0]] 0 z) 0 = some [.int .i64 z] := fun z => rfl
  by_cases c2 : l < 50
  · have hcp : Sort.choosePivot (Sort.ltInt) d a e = ((Sort.median (Sort.ltInt) d x y w 0).1, if (Sort.median (Sort.ltInt) d x y w 0).2 = 0 then .increasing else if (Sort.median (Sort.ltInt) d x y w 0).2 = 12 then .decreasing else .unknown) := by
      unfold Sort.choosePivot
      dsimp only
      rw [if_pos (show e - a ≥ 8 by omega), if_neg (show ¬ e - a ≥ 50 by omega), ← hq, ← hx, ← hy, ← hw]
    rw [hcp]
    refine Run.startE t_slices_choosePivotOrdered_uint64 ?_
    unfold k_slices_choosePivotOrdered_uint64
    have c2' : ¬ (50 : Int) ≤ l := by omega
    have c2n : ¬ 50 ≤ l := by omega
    simp (disch := omega) [e1, e2, e3, e4, e5, c1, c1', c2', c2n]
    have q0 := median_run 0 hlA d x y w 0 (by omega) (by omega) (by omega) (by omega) (by omega)
    rw [← hh] at q0
    rw [Xf_run q0]
    generalize Sort.median (Sort.ltInt) d x y w 0 = r
    by_cases c3 : r.2 = 0
    · simp (disch := omega) [c3, hintN, r2]
    · by_cases c4 : r.2 = 12
      · simp (disch := omega) [c4, hintN, r2]
      · have c5 : ¬ (r.2 : Int) = 12 := by omega
        simp (disch := omega) [c3, c4, c5, hintN, r2]
  · obtain ⟨p1, hp1⟩ : ∃ p, p = Sort.medianAdjacent (Sort.ltInt) d x 0 := ⟨_, rfl⟩
    obtain ⟨p2, hp2⟩ : ∃ p, p = Sort.medianAdjacent (Sort.ltInt) d y p1.2 := ⟨_, rfl⟩
    obtain ⟨p3, hp3⟩ : ∃ p, p = Sort.medianAdjacent (Sort.ltInt) d w p2.2 := ⟨_, rfl⟩
    have hcp : Sort.choosePivot (Sort.ltInt) d a e = ((Sort.median (Sort.ltInt) d p1.1 p2.1 p3.1 p3.2).1, if (Sort.median (Sort.ltInt) d p1.1 p2.1 p3.1 p3.2).2 = 0 then .increasing else if (Sort.median (Sort.ltInt) d p1.1 p2.1 p3.1 p3.2).2 = 12 then .decreasing else .unknown) := by
      unfold Sort.choosePivot
      dsimp only
      rw [if_pos (show e - a ≥ 8 by omega), if_pos (show e - a ≥ 50 by omega), ← hq, ← hx, ← hy, ← hw, ← hp1, ← hp2, ← hp3]
    rw [hcp]
    have m1 := med_lt (Sort.ltInt) d (x - 1) x (x + 1) 0 (by omega) (by omega) (by omega)
    have m2 := med_lt (Sort.ltInt) d (y - 1) y (y + 1) p1.2 (by omega) (by omega) (by omega)
    have m3 := med_lt (Sort.ltInt) d (w - 1) w (w + 1) p2.2 (by omega) (by omega) (by omega)
    have f1 : Sort.median (Sort.ltInt) d (x - 1) x (x + 1) 0 = p1 := hp1.symm
    have f2 : Sort.median (Sort.ltInt) d (y - 1) y (y + 1) p1.2 = p2 := hp2.symm
    have f3 : Sort.median (Sort.ltInt) d (w - 1) w (w + 1) p2.2 = p3 := hp3.symm
    rw [f1] at m1
    rw [f2] at m2
    rw [f3] at m3
    have q1 := adj_run 0 hlA d x 0 (by omega) (by omega) (by omega) (by omega)
    have q2 := adj_run 0 hlA d y p1.2 (by omega) (by omega) (by omega) (by omega)
    have q3 := adj_run 0 hlA d w p2.2 (by omega) (by omega) (by omega) (by omega)
    rw [← hp1] at q1
    rw [← hp2] at q2
    rw [← hp3] at q3
    refine Run.startE t_slices_choosePivotOrdered_uint64 ?_
    unfold k_slices_choosePivotOrdered_uint64
    have c2' : (50 : Int) ≤ l := by omega
    have c2n : 50 ≤ l := by omega
    simp (disch := omega) [e1, e2, e3, e4, e5, c1, c1', c2', c2n]
    rw [← hh] at q1
    rw [Xf_run q1]
    simp (disch := omega)
    rw [Xf_run q2]
    simp (disch := omega)
    rw [Xf_run q3]
    simp (disch := omega)
    rw [Xf_run (median_run 0 hlA d p1.1 p2.1 p3.1 p3.2 m1.1 m2.1 m3.1 (by omega) (by omega))]
    generalize Sort.median (Sort.ltInt) d p1.1 p2.1 p3.1 p3.2 = r
    by_cases c3 : r.2 = 0
    · simp (disch := omega) [c3, hintN, r2]
    · by_cases c4 : r.2 = 12
      · simp (disch := omega) [c4, hintN, r2]
      · have c5 : ¬ (r.2 : Int) = 12 := by omega
        simp (disch := omega) [c3, c4, c5, hintN, r2]
theorem rev_loop (hb : b < h.length) (n : Nat) (hn : n < 1152921504606846976) : ∀ (m i j : Nat) (d : Array Int), j - i ≤ m → j < n → d.size = n → ∀ ks Q,
    (∀ e, Xk T ks (.x 0) e (SD h b (Sort.reverseLoop i j d)) Q) →
    Xc T l_slices_reverseRangeOrdered_uint64_0 ks [(0, .hs 1 b 0 n), (6, .int .i64 i), (7, .int .i64 j)] (SD h b d) Q := by
  intro m
  induction m with
  | zero =>
    intro i j d hm hj hd ks Q hx
    rw [L_slices_reverseRangeOrdered_uint64_0]; unfold bl_slices_reverseRangeOrdered_uint64_0
    unfold Sort.reverseLoop at hx
    rw [if_neg (by omega)] at hx
    have c1 : ¬ (i : Int) < j := by omega
    have c2 : ¬ i < j := by omega
    simp (disch := omega) [c1, c2]
    exact hx _
  | succ m ih =>
    intro i j d hm hj hd ks Q hx
    rw [L_slices_reverseRangeOrdered_uint64_0]; unfold bl_slices_reverseRangeOrdered_uint64_0
    unfold Sort.reverseLoop at hx
    by_cases c2 : i < j
    · rw [if_pos c2] at hx
      have r1 := SD_row hb d
      have gl := SD_ints d
      have hbs := SD_lt hb d
      have g0 := SD_getN d i (by omega)
      have g1 := SD_getN d j (by omega)
      have e1 : (j : Int) - 1 = ((j - 1 : Nat) : Int) := by omega
      simp (disch := omega) [c2, r1, g0, g1, gl]
      have := ih (i + 1) (j - 1) (Sort.swp d i j) (by omega) (by omega) (by rw [swp_size]; exact hd) ks Q hx
      rw [e1]
      simpa using this
    · rw [if_neg c2] at hx
      have c1 : ¬ (i : Int) < j := by omega
      simp (disch := omega) [c1, c2]
      exact hx _
theorem rev_run (hb : b < h.length) (d : Array Int) (a e : Nat) (hn : d.size < 1152921504606846976) (hae : a < e) (he : e ≤ d.size) :
    Run T f_slices_reverseRangeOrdered_uint64 [.hs 1 b 0 d.size, .int .i64 a, .int .i64 e] (SD h b d) (.tup []) (SD h b (Sort.reverseRange d a e)) := by
  refine Run.start t_slices_reverseRangeOrdered_uint64 ?_
  unfold k_slices_reverseRangeOrdered_uint64 Sort.reverseRange
  obtain ⟨j, hj⟩ : ∃ j, j = e - 1 := ⟨_, rfl⟩
  have e1 : (e : Int) - 1 = (j : Int) := by omega
  rw [← hj]
  simp (disch := omega) [e1]
  refine rev_loop hb d.size hn (j - a) a j d (by omega) (by omega) rfl _ _ fun e => ?_
  simp
end
theorem pow_bits : ∀ n, n < 64 → 8 ≤ n → 1 <<< Sort.bitsLen n ≤ 2 * n ∧ n < 1 <<< Sort.bitsLen n := by decide +kernel
theorem next2_run (h : Heap) (n : Nat) (hn : n < 64) : Run T f_slices_nextPowerOfTwo [.int .i64 n] h (.int .u64 (1 <<< Sort.bitsLen n : Nat)) h := by
  refine Run.start t_slices_nextPowerOfTwo ?_
  unfold k_slices_nextPowerOfTwo
  have hb := bitsLen_le n hn
  have hp : ∀ k, k ≤ 6 → (IntKind.u64.wrap (2 ^ k) : Int) = ((1 <<< k : Nat) : Int) := by decide +kernel
  have hp := hp _ hb
  generalize 1 <<< Sort.bitsLen n = z at hp
  have hm : min (Sort.bitsLen n) 64 = Sort.bitsLen n := by omega
  simp (disch := omega)
  rw [Xp_run (len_run [] n hn) (by simp) (by simp) (by simp)]
  simp (disch := omega) [IntKind.bits, hp, hm]
  trace_state
theorem b64_shl (y : BitVec 64) (k : Nat) (z : Int) (hz : z = 2 ^ k) : BitVec.ofInt 64 (IntKind.u64.wrap ((y.toNat : Int) * z)) = y <<< k := by
  apply BitVec.eq_of_toNat_eq
  have : (2 : Int) ^ k = ((2 ^ k : Nat) : Int) := by simp
  subst hz
  simp only [IntKind.wrap, IntKind.bits, IntKind.signed, BitVec.toNat_ofInt, BitVec.toNat_shiftLeft, Nat.shiftLeft_eq, this]
  simp only [Bool.false_and, Bool.false_eq_true, if_false]
  have h2 : ((2 : Int) ^ 64) = ((2 ^ 64 : Nat) : Int) := by simp
  rw [h2, Int.emod_emod_of_dvd _ (Int.dvd_refl _), ← Int.natCast_mul, ← Int.natCast_emod, Int.toNat_natCast]
theorem b64_shr (y : BitVec 64) (k : Nat) (z : Int) (hz : z = 2 ^ k) : BitVec.ofInt 64 ((y.toNat : Int).fdiv z) = y >>> k := by
  apply BitVec.eq_of_toNat_eq
  have : (2 : Int) ^ k = ((2 ^ k : Nat) : Int) := by simp
  subst hz
  rw [Int.fdiv_eq_ediv_of_nonneg _ (by rw [this]; exact Int.natCast_nonneg _), this]
  simp only [BitVec.toNat_ofInt, BitVec.toNat_ushiftRight, Nat.shiftRight_eq_div_pow]
  have h2 : ((2 ^ 64 : Nat) : Int) = (((2 ^ 64 : Nat)) : Int) := rfl
  rw [← Int.natCast_ediv, ← Int.natCast_emod, Int.toNat_natCast]
  have := Nat.div_le_self y.toNat (2 ^ k)
  have := y.isLt
  exact Nat.mod_eq_of_lt (by omega)
theorem xorNext_bv (x : UInt64) : (Sort.xorNext x).toBitVec = x.toBitVec ^^^ x.toBitVec <<< 13 ^^^ (x.toBitVec ^^^ x.toBitVec <<< 13) >>> 7 ^^^ (x.toBitVec ^^^ x.toBitVec <<< 13 ^^^ (x.toBitVec ^^^ x.toBitVec <<< 13) >>> 7) <<< 17 := by
  simp [Sort.xorNext]
theorem next_run (h : Heap) (s : Nat) (hs : s < h.length) (x : UInt64) (hr : h.row s = some [.int .u64 (x.toNat : Int)]) :
    Run T f_slices_xorshift_Next [.ptr s 0] h (.int .u64 ((Sort.xorNext x).toNat : Int)) (h.set s (some [.int .u64 ((Sort.xorNext x).toNat : Int)])) := by
  refine Run.start t_slices_xorshift_Next ?_
  unfold k_slices_xorshift_Next
  have hx := xorNext_bv x
  rw [show (Sort.xorNext x).toNat = (Sort.xorNext x).toBitVec.toNat from rfl, hx]
  rw [show x.toNat = x.toBitVec.toNat from rfl] at hr
  generalize x.toBitVec = y at hr
  have s1 := fun y => b64_shl y 13 8192 rfl
  have s2 := fun y => b64_shr y 7 128 rfl
  have s3 := fun y => b64_shl y 17 131072 rfl
  generalize hz : y ^^^ y <<< 13 ^^^ (y ^^^ y <<< 13) >>> 7 ^^^ (y ^^^ y <<< 13 ^^^ (y ^^^ y <<< 13) >>> 7) <<< 17 = z
  simp (disch := omega) [hr, hs, IntKind.bits, s1, s2, s3]
  subst hz
  exact ⟨rfl, rfl⟩
section
variable {h : Heap} {b : Nat}
/-- The random state's cell, at row s. -/
def XW (h : Heap) (s : Nat) (x : UInt64) : Heap := h.set s (some [.int .u64 (x.toNat : Int)])
theorem XW_len (s : Nat) (x : UInt64) : (XW h s x).length = h.length := by simp [XW]
theorem XW_row {s : Nat} (hs : s < h.length) (x : UInt64) : (XW h s x).row s = some [.int .u64 (x.toNat : Int)] := by unfold XW; rw [row_set hs]
theorem XW_set {s : Nat} (x x' : UInt64) : (XW h s x).set s (some [.int .u64 (x'.toNat : Int)]) = XW h s x' := by unfold XW; rw [List.set_set]
def brk (a l m : Nat) : Nat → UInt64 × Array Int → Nat → UInt64 × Array Int
  | 0, st, _ => st
  | k + 1, st, i => brk a l m k (Sort.breakStep a l m st i) (i + 1)
set_option maxHeartbeats 2000000 in
theorem brk_loop (s n a l m last : Nat) (hb : b < h.length) (hs : s < h.length) (hsb : s ≠ b) (hn : n < 64) (hl : 8 ≤ l) (hal : a + l ≤ n) (hm : m ≤ 2 * l) (hm0 : 0 < m) (hlast : last = a + l / 4 * 2 + 1) : ∀ (k i : Nat) (st : UInt64 × Array Int), i + k = last + 1 → st.2.size = n → ∀ ks Q,
    (∀ x e, Xk T ks (.x 0) e (SD (XW h s x) b (brk a l m k st i).2) Q) →
    Xc T l_slices_breakPatternsOrdered_uint64_0 ks [(0, .hs 1 b 0 n), (1, .int .i64 a), (6, .int .i64 l), (7, .ptr s 0), (8, .int .u64 m), (9, .int .i64 i)] (SD (XW h s st.1) b st.2) Q := by
  intro k
  induction k with
  | zero =>
    intro i st hi hd ks Q hx
    rw [L_slices_breakPatternsOrdered_uint64_0]; unfold bl_slices_breakPatternsOrdered_uint64_0
    have c1 : ¬ (i : Int) ≤ a + (l : Int) / 4 * 2 + 1 := by omega
    simp (disch := omega) [c1]
    exact hx _ _
  | succ k ih =>
    intro i st hi hd ks Q hx
    rw [L_slices_breakPatternsOrdered_uint64_0]; unfold bl_slices_breakPatternsOrdered_uint64_0
    have c1 : (i : Int) ≤ a + (l : Int) / 4 * 2 + 1 := by omega
    obtain ⟨x, d⟩ := st
    have r1 : (SD (XW h s x) b d).row s = some [.int .u64 (x.toNat : Int)] := by rw [row_SD hsb, XW_row hs]
    have hlt : s < List.length (SD (XW h s x) b d) := by rw [SD_len, XW_len]; exact hs
    simp (disch := omega) [c1]
    rw [Xf_run (next_run _ s hlt x r1)]
    have e1 : (m : Int) - 1 = ((m - 1 : Nat) : Int) := by omega
    rw [set_SD hsb, XW_set]
    generalize hx' : Sort.xorNext x = x'
    simp (disch := omega) [e1]
    obtain ⟨o, ho⟩ : ∃ o, o = x'.toNat &&& (m - 1) := ⟨_, rfl⟩
    have hom : o ≤ m - 1 := by rw [ho]; exact Nat.and_le_right
    have hw : IntKind.i64.wrap (IntKind.u64.wrap (((x'.toNat % 2 ^ IntKind.u64.bits &&& (m - 1) % 2 ^ IntKind.u64.bits : Nat)) : Int)) = (o : Int) := by
      rw [Nat.mod_eq_of_lt (a := x'.toNat) (by exact x'.toNat_lt), Nat.mod_eq_of_lt (a := m - 1) (by simp only [IntKind.bits]; omega), ← ho]
      simp (disch := omega)
    rw [hw]
    have hx2 : ∀ y, (if o ≥ l then o - l else o) = y → ∀ x e, Xk T ks (.x 0) e (SD (XW h s x) b (brk a l m k (x', Sort.swp d i (a + y)) (i + 1)).2) Q := by
      intro y hy
      unfold brk at hx
      have : Sort.breakStep a l m (x, d) i = (x', Sort.swp d i (a + y)) := by
        unfold Sort.breakStep
        simp only [hx', ← ho, hy]
      rw [this] at hx
      exact hx
    have hd' : d.size = n := hd
    refine share2 (fun (y : Nat) (_ : List (Nat × V)) => y < l ∧ (if o ≥ l then o - l else o) = y) ?R (fun hR => ?main) ?rest
    case main =>
      apply Xb_dec
      · intro c2
        obtain ⟨y, hy⟩ : ∃ y, y = o - l := ⟨_, rfl⟩
        have e2 : (o : Int) - l = (y : Int) := by omega
        simp (disch := omega) [e2]
        generalize [((45 : Nat), V.bool (decide ((l : Int) ≤ o)))] = tl
        generalize ([] : List (Nat × V)) = tl
        exact hR y tl ⟨by omega, by rw [if_pos (by omega)]; exact hy.symm⟩
      · intro c2
        simp (disch := omega) [c2]
        generalize [((45 : Nat), V.bool false)] = tl
        exact hR o tl ⟨by omega, by rw [if_neg (by omega)]⟩
    case rest =>
      intro y tl ⟨hy1, hy2⟩
      have hb' : b < List.length (XW h s x') := by rw [XW_len]; exact hb
      have r1 := SD_row hb' d
      have gl := SD_ints d
      have hbs := SD_lt hb' d
      have g0 := SD_getN d i (by omega)
      have g1 := SD_getN d (a + y) (by omega)
      have i1 : ((a : Int) + y).toNat = a + y := by omega
      have i2 : (((l : Int) / 4).toNat) = l / 4 := by omega
      simp (disch := omega) [i1, r1, g0, g1, gl]
      have := ih (i + 1) (x', Sort.swp d i (a + y)) (by omega) (by simp only [swp_size]; exact hd) ks Q (hx2 y hy2)
      simpa using this
theorem XW_app (z : UInt64) (v : V) : (h ++ [some [v]]).set h.length (some [.int .u64 (z.toNat : Int)]) = XW (h ++ [some [.int .u64 0]]) h.length z := by
  unfold XW; rw [List.set_append_right _ _ (Nat.le_refl _), List.set_append_right _ _ (Nat.le_refl _)]; simp
theorem XW_app' (z : UInt64) : XW (h ++ [some [.int .u64 0]]) h.length z = h ++ [some [.int .u64 (z.toNat : Int)]] := by
  unfold XW; rw [List.set_append_right _ _ (Nat.le_refl _)]; simp
theorem brk_run (hb : b < h.length) (d : Array Int) (a e : Nat) (hn : d.size < 64) (hae : a + 12 < e) (he : e ≤ d.size) :
    ∃ z : V, Run T f_slices_breakPatternsOrdered_uint64 [.hs 1 b 0 d.size, .int .i64 a, .int .i64 e] (SD h b d) (.tup []) (SD (h ++ [some [z]]) b (Sort.breakPatterns d a e)) := by
  have key : ∃ v h', (v = .tup [] ∧ ∃ z : V, h' = SD (h ++ [some [z]]) b (Sort.breakPatterns d a e)) ∧ Run T f_slices_breakPatternsOrdered_uint64 [.hs 1 b 0 d.size, .int .i64 a, .int .i64 e] (SD h b d) v h' := by
    refine Run.startP t_slices_breakPatternsOrdered_uint64 ?_
    unfold k_slices_breakPatternsOrdered_uint64
    obtain ⟨l, hl⟩ : ∃ l, l = e - a := ⟨_, rfl⟩
    obtain ⟨m, hm⟩ : ∃ m, m = 1 <<< Sort.bitsLen l := ⟨_, rfl⟩
    obtain ⟨i, hi⟩ : ∃ i, i = a + l / 4 * 2 - 1 := ⟨_, rfl⟩
    have e1 : (e : Int) - a = (l : Int) := by omega
    have c1 : (8 : Int) ≤ l := by omega
    have e2 : (a : Int) + (l : Int) / 4 * 2 - 1 = i := by omega
    have hp := pow_bits l (by omega) (by omega)
    have hk : Sort.breakPatterns d a e = (brk a l m 3 (UInt64.ofNat l, d) i).2 := by
      unfold Sort.breakPatterns
      dsimp only
      rw [if_pos (show e - a ≥ 8 by omega), ← hl, ← hm, ← hi]
      rfl
    have hsb : h.length ≠ b := by omega
    have hu : ((UInt64.ofNat l).toNat : Int) = (l : Int) := by
      have : (UInt64.ofNat l).toNat = l := by simp; omega
      rw [this]
    have hxa : (h ++ [some [V.int .u64 0]]).set h.length (some [.int .u64 (l : Int)]) = XW (h ++ [some [.int .u64 0]]) h.length (UInt64.ofNat l) := by rw [← hu]; exact XW_app _ _
    have r2 : (SD (h ++ [some [.int .u64 0]]) b d).row h.length = some [.int .u64 0] := by rw [row_SD hsb, row_new]
    simp (disch := omega) [e1, c1, SD_len, SD_app hb, r2]
    rw [set_SD hsb, hxa]
    rw [Xp_run (next2_run [] l (by omega)) (by simp) (by simp) (by simp), ← hm]
    simp (disch := omega) [e2]
    refine brk_loop h.length d.size a l m (i + 2) (by simp; omega) (by simp) hsb hn (by omega) (by omega) (by omega) (by omega) (by omega) 3 i (UInt64.ofNat l, d) (by omega) rfl _ _ fun x e => ?_
    rw [XW_app', ← hk]
    simp
    exact ⟨_, rfl⟩
  obtain ⟨v, h', ⟨rfl, z, rfl⟩, hr⟩ := key
  exact ⟨z, hr⟩
end
section
variable {h : Heap} {b : Nat}
theorem scanS_le (lt : Int → Int → Bool) (d : Array Int) (e : Nat) : ∀ (m i : Nat), e - i ≤ m → i ≤ e → i ≤ Sort.scanSorted lt d e i ∧ Sort.scanSorted lt d e i ≤ e := by
  intro m
  induction m with
  | zero =>
    intro i h1 h2
    unfold Sort.scanSorted
    rw [if_neg (by simp; omega)]
    omega
  | succ m ih =>
    intro i h1 h2
    unfold Sort.scanSorted
    split
    · rename_i h3
      simp at h3
      have := ih (i + 1) (by omega) (by omega)
      omega
    · omega
theorem scanS_loop (hb : b < h.length) (a e n : Nat) (d : Array Int) (hd : d.size = n) (hn : n < 1152921504606846976) (he : e ≤ n) (z : V) : ∀ (m i : Nat), e - i ≤ m → 0 < i → ∀ tl ks Q,
    Xk T ks (.x 2) [(0, .hs 1 b 0 n), (1, .int .i64 a), (2, .int .i64 e), (7, .int .i64 (Sort.scanSorted (Sort.ltInt) d e i : Nat)), (8, z), (32, .bool false)] (SD h b d) Q →
    Xc T l_slices_partialInsertionSortOrdered_uint64_0 ks ([(0, .hs 1 b 0 n), (1, .int .i64 a), (2, .int .i64 e), (7, .int .i64 i), (8, z)] ++ tl) (SD h b d) Q := by
  intro m
  have r1 := SD_row hb d
  induction m with
  | zero =>
    intro i hm hi tl ks Q hx
    rw [L_slices_partialInsertionSortOrdered_uint64_0]; unfold bl_slices_partialInsertionSortOrdered_uint64_0
    have c1 : ¬ (i : Int) < e := by omega
    have c2 : ¬ i < e := by omega
    unfold Sort.scanSorted at hx
    rw [if_neg (by simp; omega)] at hx
    simp (disch := omega) [c1, c2]
    simpa [c2] using hx
  | succ m ih =>
    intro i hm hi tl ks Q hx
    rw [L_slices_partialInsertionSortOrdered_uint64_0]; unfold bl_slices_partialInsertionSortOrdered_uint64_0
    unfold Sort.scanSorted at hx
    by_cases c2 : i < e
    · have g0 := SD_getN d i (by omega)
      have g1 := SD_getN d (i - 1) (by omega)
      have i1 : ((i : Int) - 1).toNat = i - 1 := by omega
      simp (disch := omega) [c2, i1, r1, g0, g1, Less_p]
      apply Xb_decn
      · intro c3
        have hl : Sort.ltInt d[i]! d[i - 1]! = false := decide_eq_false c3
        rw [if_pos (by simp only [hl]; simp [c2])] at hx
        simp (disch := omega)
        have := ih (i + 1) (by omega) (by omega) [] ks Q hx
        simpa using this
      · intro c3
        have hl : Sort.ltInt d[i]! d[i - 1]! = true := decide_eq_true c3
        rw [if_neg (by simp only [hl]; simp)] at hx
        simp (disch := omega)
        simpa [c3] using hx
    · have c1 : ¬ (i : Int) < e := by omega
      rw [if_neg (by simp; omega)] at hx
      simp (disch := omega) [c1, c2]
      simpa [c2] using hx
theorem shiftDown_size (lt : Int → Int → Bool) : ∀ (j : Nat) (d : Array Int), (Sort.shiftDown lt j d).size = d.size
  | 0, d => rfl
  | j + 1, d => by
    unfold Sort.shiftDown
    split
    · rfl
    · rw [shiftDown_size lt j, swp_size]
theorem shiftUp_size (lt : Int → Int → Bool) (e : Nat) : ∀ (m j : Nat) (d : Array Int), e - j ≤ m → (Sort.shiftUp lt e j d).size = d.size := by
  intro m
  induction m with
  | zero =>
    intro j d hm
    unfold Sort.shiftUp
    rw [if_neg (by omega)]
  | succ m ih =>
    intro j d hm
    unfold Sort.shiftUp
    split
    · split
      · rfl
      · rw [ih _ _ (by omega), swp_size]
    · rfl
theorem sdn_loop (hb : b < h.length) (n : Nat) (hn : n < 1152921504606846976) (x1 x2 x7 x8 : V) : ∀ (j : Nat) (d : Array Int), d.size = n → j < n → ∀ ks Q,
    (∀ z, Xk T ks (.x 4) ((0, .hs 1 b 0 n) :: (1, x1) :: (2, x2) :: (7, x7) :: (8, x8) :: z) (SD h b (Sort.shiftDown (Sort.ltInt) j d)) Q) →
    Xc T l_slices_partialInsertionSortOrdered_uint64_1 ks [(0, .hs 1 b 0 n), (1, x1), (2, x2), (7, x7), (8, x8), (9, .int .i64 j)] (SD h b d) Q := by
  intro j
  induction j with
  | zero =>
    intro d hd hj ks Q hx
    rw [L_slices_partialInsertionSortOrdered_uint64_1]; unfold bl_slices_partialInsertionSortOrdered_uint64_1
    simp (disch := omega)
    exact hx _
  | succ j ih =>
    intro d hd hj ks Q hx
    rw [L_slices_partialInsertionSortOrdered_uint64_1]; unfold bl_slices_partialInsertionSortOrdered_uint64_1
    have r1 := SD_row hb d
    have gl := SD_ints d
    have hbs := SD_lt hb d
    have g1 := SD_getN d j (by omega)
    have g2 := SD_getN d (j + 1) (by omega)
    have e5 : ((j : Int) + 1 - 1) = j := by omega
    have e6 : ((j : Int) + 1).toNat = j + 1 := by omega
    have c1 : (1 : Int) ≤ (j : Int) + 1 := by omega
    unfold Sort.shiftDown at hx
    by_cases c3 : atD d (j + 1) < atD d j
    · have hl : Sort.ltInt d[j + 1]! d[j]! = true := decide_eq_true c3
      rw [if_neg (by simp [hl])] at hx
      simp (disch := omega) [c1, e5, e6, r1, g1, g2, gl, Less_p, c3]
      exact ih (Sort.swp d (j + 1) j) (by rw [swp_size]; exact hd) (by omega) ks Q hx
    · have hl : Sort.ltInt d[j + 1]! d[j]! = false := decide_eq_false c3
      rw [if_pos (by simp [hl])] at hx
      simp (disch := omega) [c1, e5, e6, r1, g1, g2, gl, Less_p, c3]
      exact hx _
theorem sup_loop (hb : b < h.length) (n e : Nat) (hn : n < 1152921504606846976) (he : e ≤ n) (x1 x7 x8 : V) : ∀ (m j : Nat) (d : Array Int), e - j ≤ m → 1 ≤ j → d.size = n → ∀ ks Q,
    (∀ z, Xk T ks (.x 6) ((0, .hs 1 b 0 n) :: (1, x1) :: (2, .int .i64 e) :: (7, x7) :: (8, x8) :: z) (SD h b (Sort.shiftUp (Sort.ltInt) e j d)) Q) →
    Xc T l_slices_partialInsertionSortOrdered_uint64_2 ks [(0, .hs 1 b 0 n), (1, x1), (2, .int .i64 e), (7, x7), (8, x8), (10, .int .i64 j)] (SD h b d) Q := by
  intro m
  induction m with
  | zero =>
    intro j d hm hj hd ks Q hx
    rw [L_slices_partialInsertionSortOrdered_uint64_2]; unfold bl_slices_partialInsertionSortOrdered_uint64_2
    have c1 : ¬ (j : Int) < e := by omega
    have c2 : ¬ j < e := by omega
    unfold Sort.shiftUp at hx
    rw [if_neg c2] at hx
    simp (disch := omega) [c1, c2]
    exact hx _
  | succ m ih =>
    intro j d hm hj hd ks Q hx
    rw [L_slices_partialInsertionSortOrdered_uint64_2]; unfold bl_slices_partialInsertionSortOrdered_uint64_2
    unfold Sort.shiftUp at hx
    by_cases c2 : j < e
    · rw [if_pos c2] at hx
      have c1 : (j : Int) < e := by omega
      have r1 := SD_row hb d
      have gl := SD_ints d
      have hbs := SD_lt hb d
      have g1 := SD_getN d j (by omega)
      have g2 := SD_getN d (j - 1) (by omega)
      have e6 : ((j : Int) - 1).toNat = j - 1 := by omega
      by_cases c3 : atD d j < atD d (j - 1)
      · have hl : Sort.ltInt d[j]! d[j - 1]! = true := decide_eq_true c3
        rw [if_neg (by simp [hl])] at hx
        simp (disch := omega) [c1, c2, e6, r1, g1, g2, gl, Less_p, c3]
        have := ih (j + 1) (Sort.swp d j (j - 1)) (by omega) (by omega) (by rw [swp_size]; exact hd) ks Q hx
        simpa using this
      · have hl : Sort.ltInt d[j]! d[j - 1]! = false := decide_eq_false c3
        rw [if_pos (by simp [hl])] at hx
        simp (disch := omega) [c1, c2, e6, r1, g1, g2, gl, Less_p, c3]
        exact hx _
    · rw [if_neg c2] at hx
      have c1 : ¬ (j : Int) < e := by omega
      simp (disch := omega) [c1, c2]
      exact hx _
theorem pi_loop (hb : b < h.length) (a e n : Nat) (hn : n < 1152921504606846976) (he : e ≤ n) : ∀ (s q i : Nat) (d : Array Int), q + s = 5 → a < i → i ≤ e → d.size = n → ∀ ks Q,
    (∀ w d', Sort.partialIns (Sort.ltInt) a e s i d = (d', w) → Xk T ks .r [(6, .bool w)] (SD h b d') Q) →
    (∀ z d', Sort.partialIns (Sort.ltInt) a e s i d = (d', false) → Xk T ks (.x 0) z (SD h b d') Q) →
    Xc T l_slices_partialInsertionSortOrdered_uint64_3 ks [(0, .hs 1 b 0 n), (1, .int .i64 a), (2, .int .i64 e), (7, .int .i64 i), (8, .int .i64 q)] (SD h b d) Q := by
  intro s
  induction s with
  | zero =>
    intro q i d hs hi hie hd ks Q h1 h2
    rw [L_slices_partialInsertionSortOrdered_uint64_3]; unfold bl_slices_partialInsertionSortOrdered_uint64_3
    have c0 : ¬ (q : Int) < 5 := by omega
    have c0n : ¬ q < 5 := by omega
    simp (disch := omega) [c0, c0n]
    exact h2 _ d rfl
  | succ s ih =>
    intro q i d hs hi hie hd ks Q h1 h2
    rw [L_slices_partialInsertionSortOrdered_uint64_3]; unfold bl_slices_partialInsertionSortOrdered_uint64_3
    have c0 : (q : Int) < 5 := by omega
    have c0n : q < 5 := by omega
    obtain ⟨k1, k2⟩ := scanS_le (Sort.ltInt) d e (e - i) i (Nat.le_refl _) hie
    unfold Sort.partialIns at h1 h2
    dsimp only at h1 h2
    generalize hI : Sort.scanSorted (Sort.ltInt) d e i = I at *
    simp (disch := omega) [c0, c0n]
    have sl := scanS_loop (z := .int .i64 q) hb a e n d hd hn he (e - i) i (Nat.le_refl _) (by omega) [(14, .bool true)]
    rw [hI] at sl
    refine sl _ _ ?_
    by_cases c1 : I = e
    · rw [if_pos c1] at h1
      have c1' : (I : Int) = e := by omega
      simp (disch := omega) [c1, c1']
      exact h1 true d rfl
    have c1' : ¬ (I : Int) = e := by omega
    rw [if_neg c1] at h1 h2
    by_cases c2 : e - a < 50
    · rw [if_pos c2] at h1
      have c2' : (e : Int) - a < 50 := by omega
      simp (disch := omega) [c1, c1', c2']
      exact h1 false d rfl
    have c2' : ¬ (e : Int) - a < 50 := by omega
    rw [if_neg c2] at h1 h2
    have r1 := SD_row hb d
    have gl := SD_ints d
    have hbs := SD_lt hb d
    have g0 := SD_getN d I (by omega)
    have g1 := SD_getN d (I - 1) (by omega)
    have i1 : ((I : Int) - 1).toNat = I - 1 := by omega
    simp (disch := omega) [c1, c1', c2', i1, r1, g0, g1, gl]
    have sz1 : (Sort.swp d I (I - 1)).size = n := by rw [swp_size]; exact hd
    by_cases c4 : I - a ≥ 2
    · have c4' : (2 : Int) ≤ (I : Int) - a := by omega
      have sz2 : (Sort.shiftDown (Sort.ltInt) (I - 1) (Sort.swp d I (I - 1))).size = n := by rw [shiftDown_size]; exact sz1
      have e7 : (I : Int) - 1 = ((I - 1 : Nat) : Int) := by omega
      rw [if_pos c4] at h1 h2
      simp (disch := omega) [c4, c4', e7]
      refine sdn_loop hb n hn (.int .i64 a) (.int .i64 e) (.int .i64 I) (.int .i64 q) (I - 1) _ sz1 (by omega) _ _ fun z => ?_
      simp (disch := omega)
      by_cases c5 : e - I ≥ 2
      · have c5' : (2 : Int) ≤ (e : Int) - I := by omega
        rw [if_pos c5] at h1 h2
        simp (disch := omega) [c5, c5']
        have su := sup_loop hb n e hn he (.int .i64 a) (.int .i64 I) (.int .i64 q) (e - (I + 1)) (I + 1) (Sort.shiftDown (Sort.ltInt) (I - 1) (Sort.swp d I (I - 1))) (Nat.le_refl _) (by omega) sz2
        rw [show ((I + 1 : Nat) : Int) = (I : Int) + 1 from rfl] at su
        refine su _ _ fun z => ?_
        simp (disch := omega)
        have := ih (q + 1) I _ (by omega) (by omega) k2 (by rw [shiftUp_size _ _ _ _ _ (Nat.le_refl _)]; exact sz2) ks Q h1 h2
        rw [show ((q + 1 : Nat) : Int) = (q : Int) + 1 from rfl] at this
        exact this
      · have c5' : ¬ (2 : Int) ≤ (e : Int) - I := by omega
        rw [if_neg c5] at h1 h2
        simp (disch := omega) [c5, c5']
        have := ih (q + 1) I (Sort.shiftDown (Sort.ltInt) (I - 1) (Sort.swp d I (I - 1))) (by omega) (by omega) k2 sz2 ks Q h1 h2
        rw [show ((q + 1 : Nat) : Int) = (q : Int) + 1 from rfl] at this
        exact this
    · have c4' : ¬ (2 : Int) ≤ (I : Int) - a := by omega
      rw [if_neg c4] at h1 h2
      simp (disch := omega) [c4, c4']
      by_cases c5 : e - I ≥ 2
      · have c5' : (2 : Int) ≤ (e : Int) - I := by omega
        rw [if_pos c5] at h1 h2
        simp (disch := omega) [c5, c5']
        have su := sup_loop hb n e hn he (.int .i64 a) (.int .i64 I) (.int .i64 q) (e - (I + 1)) (I + 1) (Sort.swp d I (I - 1)) (Nat.le_refl _) (by omega) sz1
        rw [show ((I + 1 : Nat) : Int) = (I : Int) + 1 from rfl] at su
        refine su _ _ fun z => ?_
        simp (disch := omega)
        have := ih (q + 1) I _ (by omega) (by omega) k2 (by rw [shiftUp_size _ _ _ _ _ (Nat.le_refl _)]; exact sz1) ks Q h1 h2
        rw [show ((q + 1 : Nat) : Int) = (q : Int) + 1 from rfl] at this
        exact this
      · exact absurd c4 (by omega)
theorem pins_run (hb : b < h.length) (d : Array Int) (a e : Nat) (hn : d.size < 1152921504606846976) (hae : a < e) (he : e ≤ d.size) :
    Run T f_slices_partialInsertionSortOrdered_uint64 [.hs 1 b 0 d.size, .int .i64 a, .int .i64 e] (SD h b d) (.bool (Sort.partialInsertionSort (Sort.ltInt) d a e).2) (SD h b (Sort.partialInsertionSort (Sort.ltInt) d a e).1) := by
  obtain ⟨d', w, hp⟩ : ∃ d' w, Sort.partialInsertionSort (Sort.ltInt) d a e = (d', w) := ⟨_, _, rfl⟩
  rw [hp]
  unfold Sort.partialInsertionSort at hp
  refine Run.start t_slices_partialInsertionSortOrdered_uint64 ?_
  unfold k_slices_partialInsertionSortOrdered_uint64
  simp (disch := omega)
  have pl := pi_loop hb a e d.size hn he 5 0 (a + 1) d (by omega) (by omega) (by omega) rfl
  rw [show ((a + 1 : Nat) : Int) = (a : Int) + 1 from rfl] at pl
  refine pl _ _ (fun w' d2 h => ?_) (fun z d2 h => ?_)
  · rw [hp] at h
    cases h
    simp
  · rw [hp] at h
    cases h
    simp
end
section
variable {h : Heap} {b : Nat}
theorem up0 (hb : b < h.length) (a n : Nat) (d : Array Int) (hd : d.size = n) (hn : n < 1152921504606846976) (han : a < n) (j : Nat) (hj : j < n) (p : Int → Bool) (hp : ∀ x, p x = Sort.ltInt x (atD d a)) : ∀ (m i : Nat), j + 1 - i ≤ m → i ≤ n → ∀ tl ks Q,
    Xk T ks (.x 0) [(0, .hs 1 b 0 n), (1, .int .i64 a), (10, .int .i64 (Sort.scanUp p d j i : Nat)), (11, .int .i64 j), (43, .bool false)] (SD h b d) Q →
    Xc T l_slices_partitionOrdered_uint64_0 ks ([(0, .hs 1 b 0 n), (1, .int .i64 a), (10, .int .i64 i), (11, .int .i64 j)] ++ tl) (SD h b d) Q := by
  intro m
  have r1 := SD_row hb d
  have ga := SD_getN d a (by omega)
  induction m with
  | zero =>
    intro i hm hi tl ks Q hx
    rw [L_slices_partitionOrdered_uint64_0]; unfold bl_slices_partitionOrdered_uint64_0
    have c1 : ¬ (i : Int) ≤ j := by omega
    have c2 : ¬ i ≤ j := by omega
    unfold Sort.scanUp at hx
    rw [if_neg (by simp; omega)] at hx
    simp (disch := omega) [c1, c2]
    simpa [c2] using hx
  | succ m ih =>
    intro i hm hi tl ks Q hx
    rw [L_slices_partitionOrdered_uint64_0]; unfold bl_slices_partitionOrdered_uint64_0
    unfold Sort.scanUp at hx
    by_cases c2 : i ≤ j
    · have g0 := SD_getN d i (by omega)
      simp (disch := omega) [c2, r1, g0, ga, Less_p]
      apply Xb_dec
      · intro c3
        have hl : p d[i]! = true := by rw [hp]; exact decide_eq_true c3
        rw [if_pos (by simp only [hl]; simp [c2])] at hx
        simp (disch := omega)
        have := ih (i + 1) (by omega) (by omega) [] ks Q hx
        simpa using this
      · intro c3
        have hl : p d[i]! = false := by rw [hp]; exact decide_eq_false c3
        rw [if_neg (by simp only [hl]; simp)] at hx
        simp (disch := omega)
        simpa [c3] using hx
    · have c1 : ¬ (i : Int) ≤ j := by omega
      rw [if_neg (by simp; omega)] at hx
      simp (disch := omega) [c1, c2]
      simpa [c2] using hx
theorem up2 (hb : b < h.length) (a n : Nat) (d : Array Int) (hd : d.size = n) (hn : n < 1152921504606846976) (han : a < n) (j : Nat) (hj : j < n) (p : Int → Bool) (hp : ∀ x, p x = Sort.ltInt x (atD d a)) : ∀ (m i : Nat), j + 1 - i ≤ m → i ≤ n → ∀ tl ks Q,
    Xk T ks (.x 6) [(0, .hs 1 b 0 n), (1, .int .i64 a), (10, .int .i64 (Sort.scanUp p d j i : Nat)), (11, .int .i64 j), (112, .bool false)] (SD h b d) Q →
    Xc T l_slices_partitionOrdered_uint64_2 ks ([(0, .hs 1 b 0 n), (1, .int .i64 a), (10, .int .i64 i), (11, .int .i64 j)] ++ tl) (SD h b d) Q := by
  intro m
  have r1 := SD_row hb d
  have ga := SD_getN d a (by omega)
  induction m with
  | zero =>
    intro i hm hi tl ks Q hx
    rw [L_slices_partitionOrdered_uint64_2]; unfold bl_slices_partitionOrdered_uint64_2
    have c1 : ¬ (i : Int) ≤ j := by omega
    have c2 : ¬ i ≤ j := by omega
    unfold Sort.scanUp at hx
    rw [if_neg (by simp; omega)] at hx
    simp (disch := omega) [c1, c2]
    simpa [c2] using hx
  | succ m ih =>
    intro i hm hi tl ks Q hx
    rw [L_slices_partitionOrdered_uint64_2]; unfold bl_slices_partitionOrdered_uint64_2
    unfold Sort.scanUp at hx
    by_cases c2 : i ≤ j
    · have g0 := SD_getN d i (by omega)
      simp (disch := omega) [c2, r1, g0, ga, Less_p]
      apply Xb_dec
      · intro c3
        have hl : p d[i]! = true := by rw [hp]; exact decide_eq_true c3
        rw [if_pos (by simp only [hl]; simp [c2])] at hx
        simp (disch := omega)
        have := ih (i + 1) (by omega) (by omega) [] ks Q hx
        simpa using this
      · intro c3
        have hl : p d[i]! = false := by rw [hp]; exact decide_eq_false c3
        rw [if_neg (by simp only [hl]; simp)] at hx
        simp (disch := omega)
        simpa [c3] using hx
    · have c1 : ¬ (i : Int) ≤ j := by omega
      rw [if_neg (by simp; omega)] at hx
      simp (disch := omega) [c1, c2]
      simpa [c2] using hx
theorem dn1 (hb : b < h.length) (a n : Nat) (d : Array Int) (hd : d.size = n) (hn : n < 1152921504606846976) (han : a < n) (i : Nat) (hi : 1 ≤ i) (hin : i ≤ n) (p : Int → Bool) (hp : ∀ x, p x = (!Sort.ltInt x (atD d a))) : ∀ (j : Nat), j < n → ∀ tl ks Q,
    Xk T ks (.x 2) [(0, .hs 1 b 0 n), (1, .int .i64 a), (10, .int .i64 i), (11, .int .i64 (Sort.scanDown p d i j : Nat)), (60, .bool false)] (SD h b d) Q →
    Xc T l_slices_partitionOrdered_uint64_1 ks ([(0, .hs 1 b 0 n), (1, .int .i64 a), (10, .int .i64 i), (11, .int .i64 j)] ++ tl) (SD h b d) Q := by
  intro j
  have r1 := SD_row hb d
  have ga := SD_getN d a (by omega)
  induction j with
  | zero =>
    intro hj tl ks Q hx
    rw [L_slices_partitionOrdered_uint64_1]; unfold bl_slices_partitionOrdered_uint64_1
    have c1 : ¬ (i : Int) ≤ (0 : Nat) := by omega
    have c2 : ¬ i = 0 := by omega
    have c4 : ¬ (i : Int) ≤ 0 := by omega
    unfold Sort.scanDown at hx
    simp (disch := omega) [c1, c2, c4]
    simpa [c2] using hx
  | succ j ih =>
    intro hj tl ks Q hx
    rw [L_slices_partitionOrdered_uint64_1]; unfold bl_slices_partitionOrdered_uint64_1
    unfold Sort.scanDown at hx
    by_cases c2 : i ≤ j + 1
    · have g0 := SD_getN d (j + 1) (by omega)
      have i1 : ((j : Int) + 1).toNat = j + 1 := by omega
      have c1 : (i : Int) ≤ j + 1 := by omega
      simp (disch := omega) [c1, c2, r1, g0, ga, Less_p, i1]
      apply Xb_decn
      · intro c3
        have hl : p d[j + 1]! = true := by rw [hp]; have h9 : Sort.ltInt (atD d (j + 1)) (atD d a) = false := decide_eq_false c3; exact congrArg Bool.not h9
        rw [if_pos (by simp only [hl]; simp [c2])] at hx
        have e1 : (j : Int) + 1 - 1 = j := by omega
        simp (disch := omega) [e1]
        have := ih (by omega) [] ks Q hx
        simpa using this
      · intro c3
        have hl : p d[j + 1]! = false := by rw [hp]; have h9 : Sort.ltInt (atD d (j + 1)) (atD d a) = true := decide_eq_true c3; exact congrArg Bool.not h9
        rw [if_neg (by simp only [hl]; simp)] at hx
        simp (disch := omega)
        simpa [c3] using hx
    · have c1 : ¬ (i : Int) ≤ j + 1 := by omega
      rw [if_neg (by simp; omega)] at hx
      simp (disch := omega) [c1, c2]
      simpa [c2] using hx
theorem dn3 (hb : b < h.length) (a n : Nat) (d : Array Int) (hd : d.size = n) (hn : n < 1152921504606846976) (han : a < n) (i : Nat) (hi : 1 ≤ i) (hin : i ≤ n) (p : Int → Bool) (hp : ∀ x, p x = (!Sort.ltInt x (atD d a))) : ∀ (j : Nat), j < n → ∀ tl ks Q,
    Xk T ks (.x 8) [(0, .hs 1 b 0 n), (1, .int .i64 a), (10, .int .i64 i), (11, .int .i64 (Sort.scanDown p d i j : Nat)), (129, .bool false)] (SD h b d) Q →
    Xc T l_slices_partitionOrdered_uint64_3 ks ([(0, .hs 1 b 0 n), (1, .int .i64 a), (10, .int .i64 i), (11, .int .i64 j)] ++ tl) (SD h b d) Q := by
  intro j
  have r1 := SD_row hb d
  have ga := SD_getN d a (by omega)
  induction j with
  | zero =>
    intro hj tl ks Q hx
    rw [L_slices_partitionOrdered_uint64_3]; unfold bl_slices_partitionOrdered_uint64_3
    have c1 : ¬ (i : Int) ≤ (0 : Nat) := by omega
    have c2 : ¬ i = 0 := by omega
    have c4 : ¬ (i : Int) ≤ 0 := by omega
    unfold Sort.scanDown at hx
    simp (disch := omega) [c1, c2, c4]
    simpa [c2] using hx
  | succ j ih =>
    intro hj tl ks Q hx
    rw [L_slices_partitionOrdered_uint64_3]; unfold bl_slices_partitionOrdered_uint64_3
    unfold Sort.scanDown at hx
    by_cases c2 : i ≤ j + 1
    · have g0 := SD_getN d (j + 1) (by omega)
      have i1 : ((j : Int) + 1).toNat = j + 1 := by omega
      have c1 : (i : Int) ≤ j + 1 := by omega
      simp (disch := omega) [c1, c2, r1, g0, ga, Less_p, i1]
      apply Xb_decn
      · intro c3
        have hl : p d[j + 1]! = true := by rw [hp]; have h9 : Sort.ltInt (atD d (j + 1)) (atD d a) = false := decide_eq_false c3; exact congrArg Bool.not h9
        rw [if_pos (by simp only [hl]; simp [c2])] at hx
        have e1 : (j : Int) + 1 - 1 = j := by omega
        simp (disch := omega) [e1]
        have := ih (by omega) [] ks Q hx
        simpa using this
      · intro c3
        have hl : p d[j + 1]! = false := by rw [hp]; have h9 : Sort.ltInt (atD d (j + 1)) (atD d a) = true := decide_eq_true c3; exact congrArg Bool.not h9
        rw [if_neg (by simp only [hl]; simp)] at hx
        simp (disch := omega)
        simpa [c3] using hx
    · have c1 : ¬ (i : Int) ≤ j + 1 := by omega
      rw [if_neg (by simp; omega)] at hx
      simp (disch := omega) [c1, c2]
      simpa [c2] using hx
theorem eq0 (hb : b < h.length) (a n : Nat) (d : Array Int) (hd : d.size = n) (hn : n < 1152921504606846976) (han : a < n) (j : Nat) (hj : j < n) (p : Int → Bool) (hp : ∀ x, p x = (!Sort.ltInt (atD d a) x)) : ∀ (m i : Nat), j + 1 - i ≤ m → i ≤ n → ∀ tl ks Q,
    Xk T ks (.x 2) [(0, .hs 1 b 0 n), (1, .int .i64 a), (9, .int .i64 (Sort.scanUp p d j i : Nat)), (10, .int .i64 j), (43, .bool false)] (SD h b d) Q →
    Xc T l_slices_partitionEqualOrdered_uint64_0 ks ([(0, .hs 1 b 0 n), (1, .int .i64 a), (9, .int .i64 i), (10, .int .i64 j)] ++ tl) (SD h b d) Q := by
  intro m
  have r1 := SD_row hb d
  have ga := SD_getN d a (by omega)
  induction m with
  | zero =>
    intro i hm hi tl ks Q hx
    rw [L_slices_partitionEqualOrdered_uint64_0]; unfold bl_slices_partitionEqualOrdered_uint64_0
    have c1 : ¬ (i : Int) ≤ j := by omega
    have c2 : ¬ i ≤ j := by omega
    unfold Sort.scanUp at hx
    rw [if_neg (by simp; omega)] at hx
    simp (disch := omega) [c1, c2]
    simpa [c2] using hx
  | succ m ih =>
    intro i hm hi tl ks Q hx
    rw [L_slices_partitionEqualOrdered_uint64_0]; unfold bl_slices_partitionEqualOrdered_uint64_0
    unfold Sort.scanUp at hx
    by_cases c2 : i ≤ j
    · have g0 := SD_getN d i (by omega)
      simp (disch := omega) [c2, r1, g0, ga, Less_p]
      apply Xb_decn
      · intro c3
        have hl : p d[i]! = true := by rw [hp]; have h9 : Sort.ltInt (atD d a) (atD d i) = false := decide_eq_false c3; exact congrArg Bool.not h9
        rw [if_pos (by simp only [hl]; simp [c2])] at hx
        simp (disch := omega)
        have := ih (i + 1) (by omega) (by omega) [] ks Q hx
        simpa using this
      · intro c3
        have hl : p d[i]! = false := by rw [hp]; have h9 : Sort.ltInt (atD d a) (atD d i) = true := decide_eq_true c3; exact congrArg Bool.not h9
        rw [if_neg (by simp only [hl]; simp)] at hx
        simp (disch := omega)
        simpa [c3] using hx
    · have c1 : ¬ (i : Int) ≤ j := by omega
      rw [if_neg (by simp; omega)] at hx
      simp (disch := omega) [c1, c2]
      simpa [c2] using hx
theorem eq1 (hb : b < h.length) (a n : Nat) (d : Array Int) (hd : d.size = n) (hn : n < 1152921504606846976) (han : a < n) (i : Nat) (hi : 1 ≤ i) (hin : i ≤ n) (p : Int → Bool) (hp : ∀ x, p x = Sort.ltInt (atD d a) x) : ∀ (j : Nat), j < n → ∀ tl ks Q,
    Xk T ks (.x 4) [(0, .hs 1 b 0 n), (1, .int .i64 a), (9, .int .i64 i), (10, .int .i64 (Sort.scanDown p d i j : Nat)), (59, .bool false)] (SD h b d) Q →
    Xc T l_slices_partitionEqualOrdered_uint64_1 ks ([(0, .hs 1 b 0 n), (1, .int .i64 a), (9, .int .i64 i), (10, .int .i64 j)] ++ tl) (SD h b d) Q := by
  intro j
  have r1 := SD_row hb d
  have ga := SD_getN d a (by omega)
  induction j with
  | zero =>
    intro hj tl ks Q hx
    rw [L_slices_partitionEqualOrdered_uint64_1]; unfold bl_slices_partitionEqualOrdered_uint64_1
    have c1 : ¬ (i : Int) ≤ (0 : Nat) := by omega
    have c2 : ¬ i = 0 := by omega
    have c4 : ¬ (i : Int) ≤ 0 := by omega
    unfold Sort.scanDown at hx
    simp (disch := omega) [c1, c2, c4]
    simpa [c2] using hx
  | succ j ih =>
    intro hj tl ks Q hx
    rw [L_slices_partitionEqualOrdered_uint64_1]; unfold bl_slices_partitionEqualOrdered_uint64_1
    unfold Sort.scanDown at hx
    by_cases c2 : i ≤ j + 1
    · have g0 := SD_getN d (j + 1) (by omega)
      have i1 : ((j : Int) + 1).toNat = j + 1 := by omega
      have c1 : (i : Int) ≤ j + 1 := by omega
      simp (disch := omega) [c1, c2, r1, g0, ga, Less_p, i1]
      apply Xb_dec
      · intro c3
        have hl : p d[j + 1]! = true := by rw [hp]; exact decide_eq_true c3
        rw [if_pos (by simp only [hl]; simp [c2])] at hx
        have e1 : (j : Int) + 1 - 1 = j := by omega
        simp (disch := omega) [e1]
        have := ih (by omega) [] ks Q hx
        simpa using this
      · intro c3
        have hl : p d[j + 1]! = false := by rw [hp]; exact decide_eq_false c3
        rw [if_neg (by simp only [hl]; simp)] at hx
        simp (disch := omega)
        simpa [c3] using hx
    · have c1 : ¬ (i : Int) ≤ j + 1 := by omega
      rw [if_neg (by simp; omega)] at hx
      simp (disch := omega) [c1, c2]
      simpa [c2] using hx
end
end Ev
