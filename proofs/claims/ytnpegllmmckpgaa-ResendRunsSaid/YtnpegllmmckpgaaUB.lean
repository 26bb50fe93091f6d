/- Bytes: rows of them as abstract values; how many frames; small functions of the references. Seg: parts of bytes, and what any writes come to. Heaps whose other rows stay; slices of the heap cut and cleared. The sort itself. A station: frames as values; may a frame be? A station: does a frame go with those of its bundle? A station takes a frame. A station: the numbers that were heard. A station: pairs of numbers, what is missing. Records as values; may a record be, twice told; which of two numbers is less. Records in a slice of the heap: the first that is not below a number, by halving. An index: where a record stands; a copy of a record; one more record. An index: put, and made of records. An index: of which record a frame is. Frames of a range; and of records held as a plain list. The document's answers: frames counted, the first record of a frame, records put, asks that are light. The law ResendRange. Runs of the frames that are not held; frames of a state counted. Each theorem states its own conditions. -/
import Derived.Test.YtnpegllmmckpgaaUCode
import Derived.Test.YtnpegllmmckpgaaUR01
import Derived.Sort.AssemblyPlain
import Derived.KernelRfl
set_option linter.all false
namespace Ev
open Go
set_option maxRecDepth 10000
attribute [-simp] getElem?_pos getElem?_neg
@[simp] theorem row_app_k (h l : Heap) (k : Nat) : Heap.row (h ++ l) (h.length + k) = Heap.row l k := by
  simp [Heap.row, List.getElem?_append_right]
@[simp] theorem row_app_0 (h l : Heap) : Heap.row (h ++ l) h.length = Heap.row l 0 := by
  simp [Heap.row, List.getElem?_append_right]
def bys (b : List UInt8) : List V := b.map byteV
theorem byteV_def (c : UInt8) : byteV c = .int .u8 (c.toNat : Int) := rfl
theorem u8_inj {a b : UInt8} : ((a.toNat : Int) = b.toNat) ↔ a = b := ⟨fun h => UInt8.toNat_inj.1 (by omega), fun h => by rw [h]⟩
/-- A number of eight bits, as a byte. -/
theorem byte_of (n : Int) (h0 : 0 ≤ n) (h1 : n < 256) : V.int .u8 n = byteV (UInt8.ofNat n.toNat) := by
  rw [byteV_def]
  congr 1
  have := UInt8.toNat_ofNat_of_lt' (n := n.toNat) (by show n.toNat < 256; omega)
  omega
@[simp] theorem eq_byte (a b : UInt8) : eqV .int (byteV a) (byteV b) = some (decide (a = b)) := by
  rw [byteV_def, byteV_def, eq_int]
  congr 1
  exact decide_eq_decide.2 u8_inj
@[simp] theorem conv_byte (h : Heap) (k : IntKind) (c : UInt8) : convV h (.i k) (byteV c) = some (.int k (k.wrap (c.toNat : Int))) := rfl
@[simp] theorem cells_byte (c : UInt8) : V.cells (byteV c) = [byteV c] := rfl
@[simp] theorem one_byte (c : UInt8) : V.one (byteV c) = true := rfl
@[simp] theorem hf_byte (c : UInt8) : V.hf (byteV c) = true := rfl
theorem Ty.bytes {b : Nat} {x : V} (h : Ty (.sl false b [.i .u8]) x) : ∃ l : List UInt8, x = .ps 1 (bys l) ∧ l.length * b ≤ 140737488351232 := by
  obtain ⟨xs, rfl, h1, h2⟩ := h.elems_one
  obtain ⟨l, rfl, _⟩ := exists_map byteV (fun _ => True) xs fun y hy => by
    obtain ⟨n, rfl, h3, h4⟩ := (h2 y hy).int
    have h3 : 0 ≤ n := h3
    have h4 : n ≤ 255 := h4
    exact ⟨_, byte_of n h3 (by omega), trivial⟩
  exact ⟨l, rfl, by simpa using h1⟩
section
variable {ks : List Kt} {ops : List AOpr} {K : Kp} {e : Env} {h : Heap} {Q : Ex → Env → Heap → Prop} {d : Nat} {lent : Bool}
end
section
variable {ks : List Kt} {ops : List AOpr} {K : Kp} {e : Env} {h : Heap} {Q : Ex → Env → Heap → Prop} {d : Nat} {lent : Bool}
end
section
variable {ks : List Kt} {ops : List AOpr} {K : Kp} {e : Env} {h : Heap} {Q : Ex → Env → Heap → Prop} {d : Nat} {lent : Bool}
end
/-- Bytes at places. -/
abbrev Wr := List (Nat × UInt8)
def okW (w : Wr) : Prop := ∀ p ∈ w, ∀ q ∈ w, p.1 = q.1 → p.2 = q.2
/-- What out and there are behind writes that fit. -/
structure Laid (n : Nat) (w : Wr) (out : List UInt8) (there : List Bool) : Prop where
  len : out.length = n
  tlen : there.length = n
  ok : okW w
  lt : ∀ p ∈ w, p.1 < n
  val : ∀ p ∈ w, out[p.1]? = some p.2
  th : ∀ k, k < n → (there[k]? = some true ↔ ∃ p ∈ w, p.1 = k)
theorem Laid.start (n : Nat) : Laid n [] (List.replicate n 0) (List.replicate n false) where
  len := by simp
  tlen := by simp
  ok := by intro p hp; cases hp
  lt := by intro p hp; cases hp
  val := by intro p hp; cases hp
  th := fun k hk => by simp [List.getElem?_replicate, hk]
/-- The other rows stay. -/
def HK (g g' : Heap) (j : Nat) : Prop := g.length ≤ g'.length ∧ ∀ i, i ≠ j → i < g.length → Heap.row g' i = Heap.row g i
theorem HK.app (g w : Heap) (j : Nat) : HK g (g ++ w) j := ⟨by simp, fun i _ h => row_app h⟩
theorem HK.set (g : Heap) (j : Nat) (v : Option (List V)) : HK g (g.set j v) j := ⟨by simp, fun i hi h => row_ne (fun e => hi e.symm)⟩
theorem slN_lo (s b len M : Nat) (h : M < len) : slV (.sl s) (.hs s b 0 len) (some (.int .i64 M)) none none = some (.hs s b (M * s) (len - M)) := by
  have h1 : (0 : Int) ≤ M ∧ (M : Int) ≤ len := by omega
  have h2 : len - M ≠ 0 := by omega
  have h3 : M ≤ len := by omega
  simp [slV, bndO, bndV, h3, h2]
/-- The rows of h0 but row b are as they were. -/
def Agree (h0 : Heap) (b : Nat) (g : Heap) : Prop := h0.length ≤ g.length ∧ ∀ r, r < h0.length → r ≠ b → g.row r = h0.row r
section
variable {h0 h : Heap} {b : Nat}
theorem Agree.app {g : Heap} (ha : Agree h0 b g) (k : Heap) : Agree h0 b (g ++ k) := ⟨by rw [List.length_append]; have := ha.1; omega, fun r h1 h2 => by
  rw [row_app (by have := ha.1; omega)]; exact ha.2 r h1 h2⟩
theorem Agree.hb (ha : Agree h0 b h) (hb0 : b < h0.length) : b < h.length := Nat.lt_of_lt_of_le hb0 ha.1
end
structure Fm where
  num : Int
  id : Int
  off : Int
  tot : Int
  dat : List UInt8
  deriving DecidableEq
def Fm.cs (f : Fm) : List V := [.int .u64 f.num, .int .u64 f.id, .int .i64 f.off, .int .i64 f.tot, .str f.dat]
def Fm.v (f : Fm) : V := .agg f.cs
/-- What a frame's numbers are at all. -/
structure Fm.ok (f : Fm) : Prop where
  n0 : 0 ≤ f.num
  n1 : f.num < 18446744073709551616
  i0 : 0 ≤ f.id
  i1 : f.id < 18446744073709551616
  o0 : -9223372036854775808 ≤ f.off
  o1 : f.off < 9223372036854775808
  t0 : -9223372036854775808 ≤ f.tot
  t1 : f.tot < 9223372036854775808
  d1 : f.dat.length < 4611686018427387904
section
variable {ks : List Kt} {ops : List AOpr} {K : Kp} {e : Env} {h : Heap} {Q : Ex → Env → Heap → Prop} {d : Nat} {lent : Bool}
end
theorem Fm.vc (f : Fm) : f.v.cells = f.cs := rfl
theorem Fm.one (f : Fm) : f.cs.all V.one = true := rfl
theorem Fm.len (f : Fm) : f.cs.length = 5 := rfl
theorem Fm.hf (f : Fm) : f.v.hf = true := rfl
section
variable {ks : List Kt} {ops : List AOpr} {K : Kp} {e : Env} {h : Heap} {Q : Ex → Env → Heap → Prop} {d : Nat} {lent : Bool}
end
/-- A map's row: frames by their numbers. -/
def kvF (f : Fm) : V := .tup [.int .u64 f.num, f.v]
def kvL (L : List Fm) : List V := L.map kvF
/-- A station in the heap. -/
structure SH (h : Heap) (s m : Nat) (L : List Fm) : Prop where
  rs : h.row s = some [.mp m]
  rm : h.row m = some (kvL L)
  ne : s ≠ m
theorem SH.app {h : Heap} {s m : Nat} {L : List Fm} (k : SH h s m L) (J : Heap) : SH (h ++ J) s m L := ⟨by rw [row_app (row_lt k.rs)]; exact k.rs, by rw [row_app (row_lt k.rm)]; exact k.rm, k.ne⟩
theorem set_pre {a : Heap} {wk : Nat} {o : Option (List V)} {J : Heap} (h : a.length ≤ wk) : (a ++ J).set wk o = a ++ J.set (wk - a.length) o := by
  rw [List.set_append]
  rw [if_neg (by omega)]
theorem row_app_ge {h J : Heap} {b : Nat} (hb : h.length ≤ b) : (h ++ J).row b = J.row (b - h.length) := by unfold Heap.row; rw [List.getElem?_append_right hb]
def Fm.z : Fm := ⟨0, 0, 0, 0, []⟩
theorem Meets.row (i : Nat) (cs : List V) : Meets fun h => h.row i = some cs := fun x y hx hy => by
  have := hMeet_at x y i (some cs) (row_some hx) (row_some hy)
  simp [Heap.row, this]
structure Pr where
  lo : Int
  hi : Int
  deriving Inhabited
def Pr.cs (p : Pr) : List V := [.int .u64 p.lo, .int .u64 p.hi]
def Pr.v (p : Pr) : V := .agg p.cs
def prs (l : List Pr) : List V := l.flatMap Pr.cs
theorem prs_len : ∀ (l : List Pr), (prs l).length = l.length * 2
  | [] => rfl
  | x :: r => by
    have := prs_len r
    show (x.cs ++ prs r).length = _
    rw [List.length_append, this]; simp [Pr.cs]; omega
theorem prs_app (a b : List Pr) : prs (a ++ b) = prs a ++ prs b := by simp [prs]
def Pr.vs (l : List Pr) : List V := l.map Pr.v
structure Pr.ok (p : Pr) : Prop where
  l0 : 0 ≤ p.lo
  l1 : p.lo < 18446744073709551616
  h0 : 0 ≤ p.hi
  h1 : p.hi < 18446744073709551616
def inP (l : List Pr) (n : Int) : Bool := l.any fun p => decide (p.lo ≤ n) && decide (n ≤ p.hi)
theorem chunkPr : ∀ l : List Pr, chunk 2 true l.length (prs l) = Pr.vs l
  | [] => rfl
  | x :: l => by
    have ih := chunkPr l
    show V.agg ((prs (x :: l)).take 2) :: chunk 2 true l.length ((prs (x :: l)).drop 2) = x.v :: Pr.vs l
    have e : prs (x :: l) = x.cs ++ prs l := rfl
    have hl : x.cs.length = 2 := rfl
    rw [e, List.take_left' hl, List.drop_left' hl, ih]
    rfl
theorem freezePr (h : Heap) (j : Nat) (l : List Pr) (hr : h.row j = some (prs l)) (ag : Bool) : freeze1 (ag || decide (1 < 2)) (.hs 2 j 0 l.length) h = some (.ps 2 (Pr.vs l), h.set j none) := by
  have fl := prs_len l
  simp only [freeze1, hsCells, hr, Option.bind_some, Nat.zero_add, List.drop_zero]
  rw [if_pos (by omega), Option.bind_some, List.take_of_length_le (by omega), if_pos (by simp [chunkOk])]
  have := chunkPr l
  simp only [show (ag || decide (1 < 2)) = true from by simp]
  rw [this]
theorem vs_len (l : List Pr) : (Pr.vs l).length = l.length := by simp [Pr.vs]
theorem vs_get (l : List Pr) (i : Nat) : (Pr.vs l)[i]? = (l[i]?).map Pr.v := by simp [Pr.vs]
theorem In_loop (l : List Pr) (n : Int) (hb : l.length < 4611686018427387904) (h : Heap) : ∀ (m i : Nat), i + m = l.length → ∀ ks Q,
    (inP (l.drop i) n = false → ∀ z, Xk T ks (.x 0) z h Q) → (inP (l.drop i) n = true → Xk T ks .r [(4, .bool true)] h Q) →
    Xc T l_ref34_In_0 ks [(0, .ps 2 (Pr.vs l)), (1, .int .u64 n), (5, .int .i64 i)] h Q := by
  intro m
  induction m with
  | zero =>
    intro i hi ks Q h1 h2
    have e : l.drop i = [] := List.drop_eq_nil_of_le (by omega)
    rw [e] at h1
    have c1 : ¬ (i : Int) < l.length := by omega
    rw [L_ref34_In_0]; unfold bl_ref34_In_0
    simp (disch := omega) [c1, vs_len]
    exact h1 rfl _
  | succ m ih =>
    intro i hi ks Q h1 h2
    have hil : i < l.length := by omega
    have e := List.drop_eq_getElem_cons hil
    have c1 : (i : Int) < l.length := by omega
    have g1 : (Pr.vs l)[i]? = some l[i].v := by rw [vs_get, List.getElem?_eq_getElem hil]; rfl
    have vc : l[i].v.cells = [.int .u64 l[i].lo, .int .u64 l[i].hi] := rfl
    have q : inP (l.drop i) n = ((decide (l[i].lo ≤ n) && decide (n ≤ l[i].hi)) || inP (l.drop (i + 1)) n) := by rw [e]; exact List.any_cons
    rw [q] at h1 h2
    have ih := ih (i + 1) (by omega) ks Q
    rw [show ((i + 1 : Nat) : Int) = (i : Int) + 1 from rfl] at ih
    rw [L_ref34_In_0]; unfold bl_ref34_In_0
    by_cases c2 : l[i].lo ≤ n
    · by_cases c3 : n ≤ l[i].hi
      · simp (disch := omega) [c1, vs_len, g1, vc, c2, c3]
        exact h2 (by rw [decide_eq_true c2, decide_eq_true c3]; rfl)
      · simp (disch := omega) [c1, vs_len, g1, vc, c2, c3]
        rw [decide_eq_true c2, decide_eq_false c3] at h1 h2
        exact ih h1 h2
    · simp (disch := omega) [c1, vs_len, g1, vc, c2]
      rw [decide_eq_false c2] at h1 h2
      exact ih h1 h2
theorem In_run (l : List Pr) (n : Int) (hb : l.length < 4611686018427387904) (h : Heap) : Run T f_ref34_In [.ps 2 (Pr.vs l), .int .u64 n] h (.bool (inP l n)) h := by
  refine Run.start t_ref34_In ?_
  unfold k_ref34_In
  simp (disch := omega)
  have := In_loop l n hb h l.length 0 (by omega)
  refine this _ _ (fun h z => ?_) (fun h => ?_)
  · rw [List.drop_zero] at h; simp [h]
  · rw [List.drop_zero] at h; simp [h]
theorem vs_hf (l : List Pr) : V.hfs (Pr.vs l) = true := by
  induction l with
  | nil => rfl
  | cons x l ih => show (V.hf x.v && V.hfs (Pr.vs l)) = true; rw [ih]; rfl
def aptC (l : List Pr) (i : Nat) : Prop := ∃ p, l[i]? = some p ∧ p.lo ≤ p.hi ∧ (0 < i → ∃ q, l[i - 1]? = some q ∧ q.hi + 2 ≤ p.lo)
theorem Apart_loop (l : List Pr) (hb : l.length < 4611686018427387904) (hok : ∀ p ∈ l, p.ok) (ha : ∀ i, i < l.length → aptC l i) (h : Heap) : ∀ (m i : Nat), i + m = l.length → ∀ ks Q,
    (∀ z, Xk T ks (.x 0) z h Q) → Xc T l_ref34_Apart_0 ks [(0, .ps 2 (Pr.vs l)), (3, .int .i64 i)] h Q := by
  intro m
  induction m with
  | zero =>
    intro i hi ks Q h1
    have c1 : ¬ (i : Int) < l.length := by omega
    rw [L_ref34_Apart_0]; unfold bl_ref34_Apart_0
    simp (disch := omega) [c1, vs_len]
    exact h1 _
  | succ m ih =>
    intro i hi ks Q h1
    have hil : i < l.length := by omega
    have c1 : (i : Int) < l.length := by omega
    obtain ⟨p, hp, c2, c3⟩ := ha i hil
    have pok := hok p (List.mem_of_getElem? hp)
    have g1 : (Pr.vs l)[i]? = some p.v := by rw [vs_get, hp]; rfl
    have vc : ∀ p : Pr, p.v.cells = [.int .u64 p.lo, .int .u64 p.hi] := fun _ => rfl
    have ih := ih (i + 1) (by omega) ks Q h1
    rw [show ((i + 1 : Nat) : Int) = (i : Int) + 1 from rfl] at ih
    rw [L_ref34_Apart_0]; unfold bl_ref34_Apart_0
    have c4 : ¬ p.hi < p.lo := by omega
    by_cases i0 : i = 0
    · subst i0
      have c0 : 0 < l.length := hil
      simp (disch := omega) [c0, vs_len, g1, vc, c4]
      simpa using ih
    · obtain ⟨q, hq, c5⟩ := c3 (by omega)
      have qok := hok q (List.mem_of_getElem? hq)
      have g2 : (Pr.vs l)[i - 1]? = some q.v := by rw [vs_get, hq]; rfl
      have e5 : ((i : Int) - 1).toNat = i - 1 := by omega
      have c6 : ¬ p.lo ≤ q.hi := by omega
      have c7 : ¬ p.lo - q.hi < 2 := by omega
      have i1 : (0 : Int) < i := by omega
      have k1 := pok.l0
      have k2 := pok.l1
      have k3 := qok.h0
      have k4 := qok.h1
      have i2 : 0 < i := by omega
      simp (disch := omega) [c1, vs_len, g1, g2, vc, c4, c6, c7, i1, i2, e5]
      simpa using ih
theorem Apart_run (l : List Pr) (hb : l.length < 4611686018427387904) (hok : ∀ p ∈ l, p.ok) (ha : ∀ i, i < l.length → aptC l i) (h : Heap) : Run T f_ref34_Apart [.ps 2 (Pr.vs l)] h (.bool true) h := by
  refine Run.start t_ref34_Apart ?_
  unfold k_ref34_Apart
  simp (disch := omega)
  have := Apart_loop l hb hok ha h l.length 0 (by omega)
  refine this _ _ (fun z => ?_)
  simp
section
variable {ks : List Kt} {ops : List AOpr} {K : Kp} {e : Env} {h : Heap} {Q : Ex → Env → Heap → Prop} {d : Nat} {lent : Bool}
theorem In_p (l : List Pr) (n : Int) (hb : l.length < 4611686018427387904) : Xp T f_ref34_In (some ([.ps 2 (Pr.vs l), .int .u64 n], lent)) h (some d) ops K ks e Q = Xo T ops K ks ((d, .bool (inP l n)) :: e) h Q :=
  Xp_run (In_run l n hb []) (by simp [vs_hf]) rfl (by simp [scalar])
end
def ovP (acc : List Pr) (b : Nat) : V := if acc = [] then .hn 2 else .hs 2 b 0 acc.length
theorem row_end {h : Heap} {b : Nat} {o : Option (List V)} (e : b = h.length) : Heap.row (h ++ [o]) b = o := by subst e; exact row_new
structure Rc where
  id : Int
  fst : Int
  prio : Int
  len : Int
  fin : Int
  pl : Bool
  lpn : Int
  pgs : List Int
  deriving Inhabited
def i64s (l : List Int) : List V := l.map (V.int .i64)
theorem i64s_len (l : List Int) : (i64s l).length = l.length := by simp [i64s]
theorem i64s_get (l : List Int) (i : Nat) : (i64s l)[i]? = (l[i]?).map (V.int .i64) := by simp [i64s]
def Rc.cs (r : Rc) : List V := [.int .u64 r.id, .int .u64 r.fst, .int .i64 r.prio, .int .i64 r.len, .int .u64 r.fin, .bool r.pl, .int .i64 r.lpn, .ps 1 (i64s r.pgs)]
def Rc.v (r : Rc) : V := .agg r.cs
def pgB (n : Int) : Bool := decide (1 ≤ n) && decide (n ≤ 65535)
def preB (r : Rc) : Bool := decide (r.id < 2147483648) && (decide (r.fst < 2147483648) && (decide (0 ≤ r.prio) && (decide (r.prio ≤ 2) && (decide (1 ≤ r.len) && (decide (r.len ≤ 3192) && (decide (1 ≤ r.lpn) && (decide (r.lpn ≤ 65535) && (decide (1 ≤ (r.pgs.length : Int)) && decide ((r.pgs.length : Int) ≤ 14)))))))))
def mayB (r : Rc) : Bool := preB r && r.pgs.all pgB
theorem RcCheck1_run (n : Int) (h : Heap) : Run T f_meta_Check_1 [.int .i64 n] h (.bool (pgB n)) h := by
  refine Run.start t_meta_Check_1 ?_
  unfold k_meta_Check_1 pgB
  by_cases c1 : (1 : Int) ≤ n
  · by_cases c2 : n ≤ 65535
    · simp (disch := omega) [c1, c2]
    · simp (disch := omega) [c1, c2]
  · simp (disch := omega) [c1]
theorem RcCheck_loop (l : List Int) (hl : l.length ≤ 1000) (h : Heap) : ∀ (m i : Nat) (b : Bool), i + m = l.length → ∀ ks Q,
    (∀ e, Xk T ks (.x 0) ([(3, .fn f_meta_Check_1 []), (4, .bool (b && (l.drop i).all pgB))] ++ e) h Q) →
    Xc T l_meta_Check_0 ks [(3, .fn f_meta_Check_1 []), (4, .bool b), (54, .ps 1 (i64s l)), (55, .int .i64 l.length), (56, .int .i64 i)] h Q := by
  intro m
  induction m with
  | zero =>
    intro i b hi ks Q hQ
    rw [L_meta_Check_0]; unfold bl_meta_Check_0
    have c : ¬ (i : Int) < l.length := by omega
    simp (disch := omega) [c]
    rw [List.drop_of_length_le (by omega)] at hQ
    have := hQ [(54, .ps 1 (i64s l)), (55, .int .i64 l.length), (56, .int .i64 i), (57, .bool false)]
    simpa using this
  | succ m ih =>
    intro i b hi ks Q hQ
    rw [L_meta_Check_0]; unfold bl_meta_Check_0
    have c : (i : Int) < l.length := by omega
    have hil : i < l.length := by omega
    have g : (i64s l)[i]? = some (.int .i64 l[i]) := by rw [i64s_get, List.getElem?_eq_getElem hil]; rfl
    have e := List.drop_eq_getElem_cons hil
    have ih' := ih (i + 1) (b && pgB l[i]) (by omega) ks Q (by
      rw [e, List.all_cons, ← Bool.and_assoc] at hQ
      exact hQ)
    generalize l[i] = n at *
    cases b with
    | true =>
      simp (disch := omega) [c, g]
      rw [Xv_fn (hf := rfl)]
      simp only [List.cons_append, List.nil_append]
      rw [Xf_run (RcCheck1_run n h)]
      simp (disch := omega)
      simpa using ih'
    | false =>
      simp (disch := omega) [c, g]
      simpa using ih'
theorem RcCheck_run (r : Rc) (hl : r.pgs.length ≤ 1000) : ∃ h', Run T f_meta_Check [r.v] [] (.int .i64 (if mayB r then 0 else 3)) h' := by
  have hr : ∃ v h', v = .int .i64 (if mayB r then 0 else 3) ∧ Run T f_meta_Check [r.v] [] v h' := by
    refine Run.startP t_meta_Check ?_
    have rest : ∀ (h : Heap) (b : Bool), b = preB r → Xc T l_meta_Check_0 [Kt.block 0, Kt.seq (.seq (.seq (.reg [xT 67 4, xS 68 (.un .not (.t 67))] [68]) (.cond (.t 68) (.seq (.reg [xS 2 (.mv (xI 3) false)] [2]) .ret) .skip)) (.seq (.reg [xS 2 (.mv (xI 0) false)] [2]) .ret))] [(3, .fn f_meta_Check_1 []), (4, .bool b), (54, .ps 1 (i64s r.pgs)), (55, .int .i64 r.pgs.length), (56, .int .i64 0)] h (RetP [.t 2] [] fun v _ => v = .int .i64 (if mayB r then 0 else 3)) := by
      intro h b hb
      refine RcCheck_loop r.pgs hl h r.pgs.length 0 b (by omega) _ _ fun e => ?_
      have hm : (b && (r.pgs.drop 0).all pgB) = mayB r := by rw [hb, List.drop_zero]; rfl
      rw [hm]
      cases mayB r <;> simp
    unfold k_meta_Check Rc.v Rc.cs
    by_cases c1 : r.id < 2147483648
    rotate_left
    · simp (disch := omega) [c1, i64s_len]
      exact rest _ _ (by simp [preB, c1])
    by_cases c2 : r.fst < 2147483648
    rotate_left
    · simp (disch := omega) [c1, c2, i64s_len]
      exact rest _ _ (by simp [preB, c1, c2])
    by_cases c3 : 0 ≤ r.prio
    rotate_left
    · simp (disch := omega) [c1, c2, c3, i64s_len]
      exact rest _ _ (by simp [preB, c1, c2, c3])
    by_cases c4 : r.prio ≤ 2
    rotate_left
    · simp (disch := omega) [c1, c2, c3, c4, i64s_len]
      exact rest _ _ (by simp [preB, c1, c2, c3, c4])
    by_cases c5 : 1 ≤ r.len
    rotate_left
    · simp (disch := omega) [c1, c2, c3, c4, c5, i64s_len]
      exact rest _ _ (by simp [preB, c1, c2, c3, c4, c5])
    by_cases c6 : r.len ≤ 3192
    rotate_left
    · simp (disch := omega) [c1, c2, c3, c4, c5, c6, i64s_len]
      exact rest _ _ (by simp [preB, c1, c2, c3, c4, c5, c6])
    simp (disch := omega) [c1, c2, c3, c4, c5, c6]
    rw [Xv_fn (hf := rfl)]
    simp only [List.cons_append, List.nil_append]
    rw [Xf_run (RcCheck1_run _ _)]
    by_cases c7 : 1 ≤ r.lpn
    rotate_left
    · simp (disch := omega) [pgB, c7, i64s_len]
      exact rest _ _ (by simp [preB, c1, c2, c3, c4, c5, c6, c7])
    by_cases c8 : r.lpn ≤ 65535
    rotate_left
    · simp (disch := omega) [pgB, c7, c8, i64s_len]
      exact rest _ _ (by simp [preB, c1, c2, c3, c4, c5, c6, c7, c8])
    by_cases c9 : 1 ≤ (r.pgs.length : Int)
    rotate_left
    · simp (disch := omega) [pgB, c7, c8, c9, i64s_len]
      exact rest _ _ (by simp [preB, c1, c2, c3, c4, c5, c6, c7, c8, c9])
    by_cases c10 : (r.pgs.length : Int) ≤ 14
    rotate_left
    · simp (disch := omega) [pgB, c7, c8, c9, c10, i64s_len]
      exact rest _ _ (by simp [preB, c1, c2, c3, c4, c5, c6, c7, c8, c9, c10])
    simp (disch := omega) [pgB, c7, c8, c9, c10, i64s_len]
    exact rest _ _ (by simp [preB, c1, c2, c3, c4, c5, c6, c7, c8, c9, c10])
  obtain ⟨v, h', rfl, r⟩ := hr
  exact ⟨h', r⟩
section
variable {ks : List Kt} {ops : List AOpr} {K : Kp} {e : Env} {h : Heap} {Q : Ex → Env → Heap → Prop} {d : Nat} {lent : Bool}
theorem i64s_hf (l : List Int) : V.hfs (i64s l) = true := by
  induction l with
  | nil => rfl
  | cons x l ih => show (true && V.hfs (i64s l)) = true; rw [ih]; rfl
theorem Rc.hf (r : Rc) : V.hf r.v = true := by simp [Rc.v, Rc.cs, i64s_hf]
theorem RcCheck_p (r : Rc) (hl : r.pgs.length ≤ 1000) : Xp T f_meta_Check (some ([r.v], lent)) h (some d) ops K ks e Q = Xo T ops K ks ((d, .int .i64 (if mayB r then 0 else 3)) :: e) h Q := by
  obtain ⟨h', q⟩ := RcCheck_run r hl
  exact Xp_run q (by simp [Rc.hf]) rfl (by simp [scalar])
end
theorem isNaN64_run (x : Int) (h : Heap) : Run T f_cmp_isNaN_uint64 [.int .u64 x] h (.bool false) h := by
  refine Run.start t_cmp_isNaN_uint64 ?_
  unfold k_cmp_isNaN_uint64
  simp (disch := omega)
section
variable {ks : List Kt} {ops : List AOpr} {K : Kp} {e : Env} {h : Heap} {Q : Ex → Env → Heap → Prop} {d : Nat} {lent : Bool}
theorem isNaN64_p (x : Int) : Xp T f_cmp_isNaN_uint64 (some ([.int .u64 x], lent)) h (some d) ops K ks e Q = Xo T ops K ks ((d, .bool false) :: e) h Q :=
  Xp_run (isNaN64_run x []) (by simp) rfl (by simp [scalar])
end
def cmpI (x y : Int) : Int := if x < y then -1 else if y < x then 1 else 0
theorem Compare_run (x y : Int) (h : Heap) : Run T f_cmp_Compare_uint64 [.int .u64 x, .int .u64 y] h (.int .i64 (cmpI x y)) h := by
  refine Run.start t_cmp_Compare_uint64 ?_
  unfold k_cmp_Compare_uint64 cmpI
  by_cases c1 : x < y
  · simp (disch := omega) [isNaN64_p, c1]
  · by_cases c2 : y < x
    · simp (disch := omega) [isNaN64_p, c1, c2]
    · simp (disch := omega) [isNaN64_p, c1, c2]
section
variable {ks : List Kt} {ops : List AOpr} {K : Kp} {e : Env} {h : Heap} {Q : Ex → Env → Heap → Prop} {d : Nat} {lent : Bool}
theorem Compare_p (x y : Int) : Xp T f_cmp_Compare_uint64 (some ([.int .u64 x, .int .u64 y], lent)) h (some d) ops K ks e Q = Xo T ops K ks ((d, .int .i64 (cmpI x y)) :: e) h Q :=
  Xp_run (Compare_run x y []) (by simp) rfl (by simp [scalar])
end
theorem cmpI_neg (x y : Int) : (cmpI x y < 0) = (x < y) := by
  unfold cmpI
  split
  · simp [*]
  · split <;> simp [*]
theorem cmpI_zero (x y : Int) : (cmpI x y = 0) = (x = y) := by
  unfold cmpI
  refine propext ?_
  split
  · constructor <;> intro h <;> omega
  · split
    · constructor <;> intro h <;> omega
    · constructor <;> intro h <;> omega
theorem place1_run (r : Rc) (id : Int) (h : Heap) : Run T f_index_Index_place_1 [.agg r.cs, .int .u64 id] h (.int .i64 (cmpI r.id id)) h := by
  refine Run.start t_index_Index_place_1 ?_
  unfold k_index_Index_place_1 Rc.cs
  simp (disch := omega) [Compare_p]
def rcs (l : List Rc) : List V := l.flatMap Rc.cs
theorem rcs_len : ∀ (l : List Rc), (rcs l).length = l.length * 8
  | [] => rfl
  | x :: r => by
    have := rcs_len r
    show (x.cs ++ rcs r).length = _
    rw [List.length_append, this]; simp [Rc.cs]; omega
theorem rcs_drop : ∀ (l : List Rc) (i : Nat), (rcs l).drop (i * 8) = rcs (l.drop i)
  | [], i => by simp [rcs]
  | x :: r, 0 => by simp
  | x :: r, i + 1 => by
    have h := rcs_drop r i
    rw [List.drop_succ_cons]
    show (x.cs ++ rcs r).drop ((i + 1) * 8) = rcs (r.drop i)
    rw [List.drop_append, List.drop_eq_nil_of_le (by simp [Rc.cs]; omega), List.nil_append, ← h]
    congr 1
    simp [Rc.cs]; omega
theorem rcs_take : ∀ (l : List Rc) (i : Nat), (rcs l).take (i * 8) = rcs (l.take i)
  | [], i => by simp [rcs]
  | x :: r, 0 => by simp [rcs]
  | x :: r, i + 1 => by
    have h := rcs_take r i
    rw [List.take_succ_cons]
    show (x.cs ++ rcs r).take ((i + 1) * 8) = x.cs ++ rcs (r.take i)
    rw [List.take_append, List.take_of_length_le (by simp [Rc.cs]; omega), ← h]
    congr 2
    simp [Rc.cs]; omega
theorem rcs_app (a b : List Rc) : rcs (a ++ b) = rcs a ++ rcs b := by simp [rcs]
theorem rcs_at (l : List Rc) (i : Nat) (hi : i < l.length) : ((rcs l).drop (i * 8)).take 8 = l[i].cs := by
  rw [rcs_drop, List.drop_eq_getElem_cons hi]
  show (l[i].cs ++ rcs (l.drop (i + 1))).take 8 = _
  exact List.take_left' (show l[i].cs.length = 8 from rfl)
/-- Ids rise. -/
def Srt (l : List Rc) : Prop := l.Pairwise (fun a b => a.id < b.id)
/-- How many stand below an Id. -/
def lowI (l : List Rc) (id : Int) : Nat := (l.takeWhile fun r => decide (r.id < id)).length
theorem lowI_le (l : List Rc) (id : Int) : lowI l id ≤ l.length := (List.takeWhile_sublist _).length_le
theorem lowI_iff (id : Int) : ∀ (l : List Rc), Srt l → ∀ i (hi : i < l.length), l[i].id < id ↔ i < lowI l id
  | [], _, i, hi => by cases hi
  | x :: l, hs, i, hi => by
    have hs' := List.pairwise_cons.1 hs
    unfold lowI
    by_cases c : x.id < id
    · rw [List.takeWhile_cons_of_pos (by simpa using c)]
      cases i with
      | zero => simp [c]
      | succ i =>
        have := lowI_iff id l hs'.2 i (by simpa using hi)
        simpa [lowI] using this
    · rw [List.takeWhile_cons_of_neg (by simpa using c)]
      cases i with
      | zero => simp [c]
      | succ i =>
        have hi' : i < l.length := by simpa using hi
        have := hs'.1 l[i] (List.getElem_mem hi')
        simp
        omega
theorem bs_loop (l : List Rc) (hs : Srt l) (hl : l.length ≤ 1000) (id : Int) (h : Heap) (b : Nat) (hr : h.row b = some (rcs l)) : ∀ (m i j : Nat), j - i ≤ m → i ≤ lowI l id → lowI l id ≤ j → j ≤ l.length → ∀ ks Q,
    (∀ e, Xk T ks (.x 0) ([(0, .hs 8 b 0 l.length), (1, .int .u64 id), (2, .fn f_index_Index_place_1 []), (8, .int .i64 l.length), (9, .int .i64 (lowI l id))] ++ e) h Q) →
    Xc T l_slices_BinarySearchFunc_api_Record_api_Record_uint64_0 ks [(0, .hs 8 b 0 l.length), (1, .int .u64 id), (2, .fn f_index_Index_place_1 []), (8, .int .i64 l.length), (9, .int .i64 i), (10, .int .i64 j)] h Q := by
  intro m
  induction m with
  | zero =>
    intro i j hm h1 h2 hj ks Q hQ
    rw [L_slices_BinarySearchFunc_api_Record_api_Record_uint64_0]; unfold bl_slices_BinarySearchFunc_api_Record_api_Record_uint64_0
    have e : i = lowI l id := by omega
    have c : ¬ (i : Int) < j := by omega
    subst e
    simp (disch := omega) [c]
    have := hQ [(10, .int .i64 j), (17, .bool false)]
    simpa using this
  | succ m ih =>
    intro i j hm h1 h2 hj ks Q hQ
    rw [L_slices_BinarySearchFunc_api_Record_api_Record_uint64_0]; unfold bl_slices_BinarySearchFunc_api_Record_api_Record_uint64_0
    by_cases c : (i : Int) < j
    · have hd : IntKind.i64.wrap (((i : Int) + j).fdiv (2 ^ min 1 IntKind.u64.bits)) = ((i + j) / 2 : Nat) := by
        have e : (2 : Int) ^ min 1 IntKind.u64.bits = 2 := rfl
        rw [e, Int.fdiv_eq_ediv_of_nonneg _ (by omega), wrapI (by omega) (by omega)]
        omega
      have hh : (i + j) / 2 < l.length := by omega
      have pt := rcs_at l ((i + j) / 2) hh
      have iff := lowI_iff id l hs ((i + j) / 2) hh
      by_cases c2 : (l[(i + j) / 2]'hh).id < id
      · have ih' := ih ((i + j) / 2 + 1) j (by omega) (by have := iff.1 c2; omega) h2 hj ks Q hQ
        generalize l[(i + j) / 2]'hh = r at *
        generalize (i + j) / 2 = q at *
        simp (disch := omega) [c, hd, hr, pt, rcs_len]
        rw [Xv_fn (hf := rfl)]
        simp only [List.cons_append, List.nil_append]
        rw [Xf_run (place1_run r id h)]
        simp (disch := omega) [cmpI_neg, c2]
        simpa using ih'
      · have ih' := ih i ((i + j) / 2) (by omega) h1 (by have := fun k => c2 (iff.2 k); omega) (by omega) ks Q hQ
        generalize l[(i + j) / 2]'hh = r at *
        generalize (i + j) / 2 = q at *
        simp (disch := omega) [c, hd, hr, pt, rcs_len]
        rw [Xv_fn (hf := rfl)]
        simp only [List.cons_append, List.nil_append]
        rw [Xf_run (place1_run r id h)]
        simp (disch := omega) [cmpI_neg, c2]
        simpa using ih'
    · have e : i = lowI l id := by omega
      subst e
      simp (disch := omega) [c]
      have := hQ [(10, .int .i64 j), (17, .bool false)]
      simpa using this
/-- Does one stand at the place? -/
def isI (l : List Rc) (id : Int) : Bool := (l[lowI l id]?).any fun r => decide (r.id = id)
theorem bs_run (l : List Rc) (hs : Srt l) (hl : l.length ≤ 1000) (id : Int) (h : Heap) (b : Nat) (hr : h.row b = some (rcs l)) : Run T f_slices_BinarySearchFunc_api_Record_api_Record_uint64 [.hs 8 b 0 l.length, .int .u64 id, .fn f_index_Index_place_1 []] h (.tup [.int .i64 (lowI l id), .bool (isI l id)]) h := by
  refine Run.start t_slices_BinarySearchFunc_api_Record_api_Record_uint64 ?_
  unfold k_slices_BinarySearchFunc_api_Record_api_Record_uint64
  simp (disch := omega)
  have := bs_loop l hs hl id h b hr l.length 0 l.length (by omega) (by omega) (lowI_le _ _) (Nat.le_refl _)
  refine this _ _ fun e => ?_
  have hle := lowI_le l id
  by_cases c : lowI l id < l.length
  · have ci : (lowI l id : Int) < l.length := by omega
    have pt := rcs_at l (lowI l id) c
    have ei : isI l id = decide (l[lowI l id].id = id) := by unfold isI; rw [List.getElem?_eq_getElem c]; rfl
    rw [ei]
    generalize l[lowI l id] = r at *
    simp (disch := omega) [ci, hr, pt, rcs_len]
    rw [Xv_fn (hf := rfl)]
    simp only [List.cons_append, List.nil_append]
    rw [Xf_run (place1_run r id h)]
    simp (disch := omega) [cmpI_zero]
  · have ci : ¬ (lowI l id : Int) < l.length := by omega
    have ei : isI l id = false := by unfold isI; rw [List.getElem?_eq_none (by omega)]; rfl
    rw [ei]
    simp (disch := omega) [ci]
/-- No records: a nil slice. -/
theorem bs_run0 (id : Int) (h : Heap) : Run T f_slices_BinarySearchFunc_api_Record_api_Record_uint64 [.hn 8, .int .u64 id, .fn f_index_Index_place_1 []] h (.tup [.int .i64 0, .bool false]) h := by
  refine Run.start t_slices_BinarySearchFunc_api_Record_api_Record_uint64 ?_
  unfold k_slices_BinarySearchFunc_api_Record_api_Record_uint64
  simp (disch := omega)
  rw [L_slices_BinarySearchFunc_api_Record_api_Record_uint64_0]; unfold bl_slices_BinarySearchFunc_api_Record_api_Record_uint64_0
  simp (disch := omega)
theorem mayB_pgs {r : Rc} (h : mayB r = true) : 1 ≤ r.pgs.length ∧ r.pgs.length ≤ 14 := by
  simp [mayB, preB] at h
  omega
theorem CloneI_run (l : List Int) (hn : l.length ≤ 1000) (hl : l ≠ []) (h : Heap) : Run T f_slices_Clone_int_int [.ps 1 (i64s l)] h (.ps 1 (i64s l)) h := by
  have hl' : i64s l ≠ [] := by simpa [i64s] using hl
  have b1 : l.length * 8 ≤ 140737488355328 := by omega
  refine Run.start t_slices_Clone_int_int ?_
  unfold k_slices_Clone_int_int
  simp (disch := omega)
  refine Xc_nilc (fun C => rfl) rfl (v := .ps 1 (i64s l)) (by cases l with | nil => exact absurd rfl hl | cons _ _ => rfl) ?_
  simp (disch := omega) [i64s_len, b1]
section
variable {ks : List Kt} {ops : List AOpr} {K : Kp} {e : Env} {h : Heap} {Q : Ex → Env → Heap → Prop} {d : Nat} {lent : Bool}
theorem CloneI_p (l : List Int) (hn : l.length ≤ 1000) (hl : l ≠ []) : Xp T f_slices_Clone_int_int (some ([.ps 1 (i64s l)], false)) h (some d) ops K ks e Q = Xo T ops K ks ((d, .ps 1 (i64s l)) :: e) h Q :=
  Xp_run (CloneI_run l hn hl []) (by simp [i64s_hf]) (by simp [i64s_hf]) (by simp)
end
theorem copyOf_run (r : Rc) (hm : mayB r = true) : ∃ h', Run T f_index_copyOf [.agg r.cs] [] (.agg r.cs) h' := by
  obtain ⟨m1, m2⟩ := mayB_pgs hm
  have hl : r.pgs ≠ [] := fun e => by rw [e] at m1; simp at m1
  have hr : ∃ v h', v = .agg r.cs ∧ Run T f_index_copyOf [.agg r.cs] [] v h' := by
    refine Run.startP t_index_copyOf ?_
    unfold k_index_copyOf Rc.cs
    simp (disch := omega) [CloneI_p, hl]
  obtain ⟨v, h', rfl, r⟩ := hr
  exact ⟨h', r⟩
section
variable {ks : List Kt} {ops : List AOpr} {K : Kp} {e : Env} {h : Heap} {Q : Ex → Env → Heap → Prop} {d : Nat} {lent : Bool}
theorem copyOf_p (r : Rc) (hm : mayB r = true) : Xp T f_index_copyOf (some ([.agg r.cs], false)) h (some d) ops K ks e Q = Xo T ops K ks ((d, .agg r.cs) :: e) h Q := by
  obtain ⟨h', q⟩ := copyOf_run r hm
  exact Xp_run q (by show (V.hf r.v && true) = true; rw [Rc.hf]; rfl) (Rc.hf r) (by simp)
end
/-- An index in the heap. -/
def ixV (l : List Rc) (b : Nat) : V := if l = [] then .hn 8 else .hs 8 b 0 l.length
structure Ix (h0 g : Heap) (p : Nat) (l : List Rc) : Prop where
  pre : ∃ J, g = h0 ++ J
  lp : h0.length ≤ p
  row : ∃ b, g.row p = some [ixV l b] ∧ (l ≠ [] → g.row b = some (rcs l) ∧ b ≠ p ∧ h0.length ≤ b)
theorem Ix.app {h0 g : Heap} {p : Nat} {l : List Rc} (x : Ix h0 g p l) (J : Heap) : Ix h0 (g ++ J) p l := by
  obtain ⟨⟨J0, rfl⟩, lp, b, r1, r2⟩ := x
  refine ⟨⟨J0 ++ J, by simp⟩, lp, b, by rw [row_app (row_lt r1)]; exact r1, fun c => ?_⟩
  obtain ⟨q1, q2, q3⟩ := r2 c
  exact ⟨by rw [row_app (row_lt q1)]; exact q1, q2, q3⟩
theorem IxPlace_run {h0 g : Heap} {p : Nat} {l : List Rc} (x : Ix h0 g p l) (hs : Srt l) (hl : l.length ≤ 1000) (id : Int) : Run T f_index_Index_place [.ptr p 0, .int .u64 id] g (.tup [.int .i64 (lowI l id), .bool (isI l id)]) g := by
  obtain ⟨_, _, b, r1, r2⟩ := x
  refine Run.start t_index_Index_place ?_
  unfold k_index_Index_place
  by_cases c : l = []
  · subst c
    simp [ixV] at r1
    simp (disch := omega) [r1]
    rw [Xf_run (bs_run0 id g)]
    simp (disch := omega) [lowI, isI]
  · obtain ⟨q1, q2, q3⟩ := r2 c
    simp [ixV, c] at r1
    simp (disch := omega) [r1]
    rw [Xf_run (bs_run l hs hl id g b q1)]
    simp (disch := omega)
/-- Records, rising, with one more. -/
def putL (l : List Rc) (r : Rc) : List Rc := if mayB r && !isI l r.id then l.take (lowI l r.id) ++ [r] ++ l.drop (lowI l r.id) else l
def insL (l : List Rc) (i : Nat) (r : Rc) : List Rc := l.take i ++ [r] ++ l.drop i
theorem rcs_insL (l : List Rc) (i : Nat) (r : Rc) : laidC 8 0 i (rcs l) [.agg r.cs] = rcs (insL l i r) := by
  unfold laidC insL
  rw [List.drop_zero, rcs_take, rcs_drop, rcs_app, rcs_app]
  simp [flat, V.cells, rcs]
theorem insL_len (l : List Rc) (i : Nat) (hi : i ≤ l.length) (r : Rc) : (insL l i r).length = l.length + 1 := by
  simp [insL]; omega
theorem Insert0_run (r : Rc) (g : Heap) : Run T f_slices_Insert_api_Record_api_Record [.hn 8, .int .i64 0, .ps 8 [.agg r.cs]] g (.hs 8 g.length 0 1) (g ++ [some (rcs [r])]) := by
  have cl : r.cs.length = 8 := rfl
  refine Run.start t_slices_Insert_api_Record_api_Record ?_
  unfold k_slices_Insert_api_Record_api_Record
  have sl : slV (.sl 8) (.hn 8) (some (.int .i64 0)) none none = some (.hn 8) := rfl
  have ne : ¬ r.cs = [] := fun e => by rw [e] at cl; cases cl
  simp (disch := omega) [cl, rcs, sl, ne]
theorem Insert_run (l : List Rc) (hl : l ≠ []) (hn : l.length ≤ 1000) (i : Nat) (hi : i ≤ l.length) (r : Rc) (g : Heap) (b : Nat) (hr : g.row b = some (rcs l)) :
    Run T f_slices_Insert_api_Record_api_Record [.hs 8 b 0 l.length, .int .i64 i, .ps 8 [.agg r.cs]] g (.hs 8 g.length 0 (l.length + 1)) (g.set b none ++ [some (rcs (insL l i r))]) := by
  have cl : r.cs.length = 8 := rfl
  have rl := rcs_len l
  have h0 : l.length ≠ 0 := fun z => hl (List.eq_nil_of_length_eq_zero z)
  refine Run.start t_slices_Insert_api_Record_api_Record ?_
  unfold k_slices_Insert_api_Record_api_Record
  obtain ⟨sv, sl⟩ : ∃ v, slV (.sl 8) (.hs 8 b 0 l.length) (some (.int .i64 i)) none none = some v := by
    by_cases c : l.length - i = 0
    · exact ⟨.ps 8 [], by simp [slV, bndO, bndV, c, hi]⟩
    · exact ⟨_, slN_lo 8 b l.length i (by omega)⟩
  by_cases c : i = l.length
  · subst c
    have e : insL l l.length r = l ++ [r] := by simp [insL]
    have b1 : (l.length * 8 + 8) * 80 ≤ 140737488355328 := by omega
    simp (disch := omega) [cl, hr, rl, sl, e, rcs_app, b1]
    simp [rcs]
  · have ci : ¬ (i : Int) = l.length := by omega
    have iv := insV_at (s := 8) (bytes := 80) (xs := [.agg r.cs]) hr (off := 0) (n := l.length) (i := i) (by omega) (by simp) (by simp; omega) (by simp [flat, V.cells, cl, rl]; omega)
    simp only [List.length_singleton] at iv
    rw [rcs_insL] at iv
    simp (disch := omega) [cl, hr, rl, ci, Xc_ins, insE, sl]
    rw [show ((1 : Nat) : Int) = 1 from rfl] at iv
    rw [iv]
    simp
theorem isI_false {l : List Rc} (hs : Srt l) {id : Int} (h : isI l id = false) : ∀ r, r ∈ l.drop (lowI l id) → id < r.id := by
  intro r hr
  obtain ⟨k, hk, rfl⟩ := List.getElem_of_mem hr
  rw [List.getElem_drop]
  rw [List.length_drop] at hk
  have h1 := (lowI_iff id l hs (lowI l id + k) (by omega))
  have h0 := (lowI_iff id l hs (lowI l id) (by omega))
  have hne : l[lowI l id]'(by omega) ≠ l[lowI l id]'(by omega) ∨ ¬ (l[lowI l id]'(by omega)).id = id := by
    refine .inr fun e => ?_
    unfold isI at h
    rw [List.getElem?_eq_getElem (by omega)] at h
    simp [e] at h
  have hne := hne.resolve_left (fun k => k rfl)
  cases k with
  | zero => simp only [Nat.add_zero]; omega
  | succ k =>
    have := (List.pairwise_iff_getElem.1 hs) (lowI l id) (lowI l id + (k + 1)) (by omega) (by omega) (by omega)
    omega
theorem lowI_take {l : List Rc} {id : Int} : ∀ r, r ∈ l.take (lowI l id) → r.id < id := by
  induction l with
  | nil => intro r hr; simp at hr
  | cons x l ih =>
    intro r hr
    unfold lowI at hr
    by_cases c : x.id < id
    · rw [List.takeWhile_cons_of_pos (by simpa using c)] at hr
      simp only [List.length_cons, List.take_succ_cons, List.mem_cons] at hr
      rcases hr with rfl | hr
      · exact c
      · exact ih r hr
    · rw [List.takeWhile_cons_of_neg (by simpa using c)] at hr
      simp at hr
theorem putL_srt {l : List Rc} (hs : Srt l) (r : Rc) : Srt (putL l r) := by
  unfold putL
  split
  · rename_i c
    simp at c
    have h1 := lowI_take (l := l) (id := r.id)
    have h2 := isI_false hs c.2
    unfold Srt
    rw [List.append_assoc, List.pairwise_append]
    refine ⟨List.Pairwise.sublist (List.take_sublist _ _) hs, ?_, fun a ha b hb => ?_⟩
    · rw [List.pairwise_append]
      refine ⟨List.pairwise_singleton _ _, List.Pairwise.sublist (List.drop_sublist _ _) hs, fun a ha b hb => ?_⟩
      rw [List.mem_singleton] at ha
      subst ha
      exact h2 b hb
    · have ha' := h1 a ha
      rcases List.mem_append.1 hb with hb | hb
      · rw [List.mem_singleton] at hb; subst hb; exact ha'
      · have := h2 b hb
        omega
  · exact hs
theorem putL_may {l : List Rc} (hm : ∀ x, x ∈ l → mayB x = true) (r : Rc) : ∀ x, x ∈ putL l r → mayB x = true := by
  unfold putL
  split
  · rename_i c
    simp at c
    intro x hx
    rcases List.mem_append.1 hx with hx | hx
    · rcases List.mem_append.1 hx with hx | hx
      · exact hm x (List.mem_of_mem_take hx)
      · rw [List.mem_singleton] at hx; subst hx; exact c.1
    · exact hm x (List.mem_of_mem_drop hx)
  · exact hm
theorem putL_len (l : List Rc) (r : Rc) : (putL l r).length ≤ l.length + 1 := by
  unfold putL
  have := lowI_le l r.id
  split
  · simp; omega
  · omega
theorem Ix.ins {h0 g : Heap} {p : Nat} {l : List Rc} (x : Ix h0 g p l) {b : Nat} (hb : g.row p = some [ixV l b]) (hl : l ≠ []) (r : List Rc) (hr : r.length = l.length + 1) : Ix h0 ((g.set b none ++ [some (rcs r)]).set p (some [.hs 8 g.length 0 (l.length + 1)])) p r := by
  obtain ⟨⟨J, rfl⟩, lp, b', r1, r2⟩ := x
  obtain ⟨q1, q2, q3⟩ := r2 hl
  have eb : b' = b := by
    rw [r1] at hb
    simp [ixV, hl] at hb
    exact hb
  subst eb
  have q5 := row_lt r1
  have hne : r ≠ [] := fun e => by rw [e] at hr; simp at hr
  refine ⟨⟨_, by rw [set_pre q3, List.append_assoc, set_pre lp]⟩, lp, (h0 ++ J).length, by rw [row_set (by simp at q5 ⊢; omega)]; simp [ixV, hne, hr], fun _ => ⟨?_, by omega, by simp⟩⟩
  rw [row_ne (by omega), row_end (by simp)]
theorem Ix.ins0 {h0 g : Heap} {p : Nat} (x : Ix h0 g p []) (r : Rc) : Ix h0 ((g ++ [some (rcs [r])]).set p (some [.hs 8 g.length 0 1])) p [r] := by
  obtain ⟨⟨J, rfl⟩, lp, b', r1, r2⟩ := x
  have q5 := row_lt r1
  refine ⟨⟨_, by rw [List.append_assoc, set_pre lp]⟩, lp, (h0 ++ J).length, by rw [row_set (by simp at q5 ⊢; omega)]; simp [ixV], fun _ => ⟨?_, by omega, by simp⟩⟩
  rw [row_ne (by omega), row_end rfl]
theorem IxPut_run {h0 g : Heap} {p : Nat} {l : List Rc} (x : Ix h0 g p l) (hs : Srt l) (hl : l.length ≤ 500) (hm : ∀ y, y ∈ l → mayB y = true) (r : Rc) (hr : r.pgs.length ≤ 1000) :
    ∃ v g', Ix h0 g' p (putL l r) ∧ Run T f_index_Index_Put [.ptr p 0, .agg r.cs] g v g' := by
  have x1 := x.app [some r.cs]
  have rg : Heap.row (g ++ [some r.cs]) g.length = some r.cs := row_end rfl
  have gp : p < g.length := by obtain ⟨_, _, _, r1, _⟩ := x; exact row_lt r1
  have c0 : r.cs[0]? = some (.int .u64 r.id) := rfl
  have cl : r.cs.length = 8 := rfl
  have tk : r.cs.take 8 = r.cs := rfl
  have on : r.cs.all V.one = true := rfl
  have ck := fun {ks ops K e h Q d lent} => RcCheck_p (ks := ks) (ops := ops) (K := K) (e := e) (h := h) (Q := Q) (d := d) (lent := lent) r hr
  simp only [Rc.v] at ck
  obtain ⟨g1, hg1⟩ : ∃ g1, g1 = g ++ [some r.cs] := ⟨_, rfl⟩
  have pr := IxPlace_run x1 hs (by omega) r.id
  rw [← hg1] at x1 rg pr
  have hr' : ∃ v g', Ix h0 g' p (putL l r) ∧ Run T f_index_Index_Put [.ptr p 0, .agg r.cs] g v g' := by
    refine Run.startP t_index_Index_Put ?_
    unfold k_index_Index_Put
    by_cases cm : mayB r = true
    · simp (disch := omega) [← hg1, rg, c0, cl, tk, on, ck, cm]
      rw [Xf_run pr]
      by_cases ci : isI l r.id = true
      · have e : putL l r = l := by simp [putL, ci]
        simp (disch := omega) [ci]
        rw [e]
        exact x1
      · have ci' : isI l r.id = false := by simpa using ci
        have e : putL l r = insL l (lowI l r.id) r := by simp [putL, ci', cm, insL]
        obtain ⟨_, _, b, r1, r2⟩ := id x1
        by_cases c : l = []
        · subst c
          simp [ixV] at r1
          have lo : lowI [] r.id = 0 := rfl
          have iv := Insert0_run r g1
          have r3 : Heap.row (g1 ++ [some (rcs [r])]) p = some [.hn 8] := by rw [row_app (row_lt r1)]; exact r1
          have s1 : ∀ v : V, spliceL [.hn 8] 0 [v] = [v] := fun v => rfl
          simp (disch := omega) [ci', r1, rg, cl, tk, on, copyOf_p, cm, lo]
          rw [Xf_run iv]
          simp (disch := omega) [r3]
          rw [e]
          exact x1.ins0 r
        · have rb := r1
          simp [ixV, c] at r1
          obtain ⟨q1, q2, q3⟩ := r2 c
          have iv := Insert_run l c (by omega) (lowI l r.id) (lowI_le _ _) r g1 b q1
          have r3 : Heap.row (g1.set b none ++ [some (rcs (insL l (lowI l r.id) r))]) p = some [.hs 8 b 0 l.length] := by rw [row_app (by simpa using row_lt r1), row_ne q2]; exact r1
          simp (disch := omega) [ci', r1, rg, cl, tk, on, copyOf_p, cm]
          rw [Xf_run iv]
          simp (disch := omega) [r3]
          rw [e]
          exact x1.ins rb c _ (insL_len _ _ (lowI_le _ _) _)
    · have e : putL l r = l := by simp [putL, cm]
      simp (disch := omega) [← hg1, rg, c0, cl, tk, on, ck, cm]
      rw [e]
      exact x1
  exact hr'
/-- Records, put one behind another one. -/
def keptL (L : List Rc) : List Rc := L.foldl putL []
theorem foldl_ok (L : List Rc) : ∀ l, Srt l → (∀ y, y ∈ l → mayB y = true) → Srt (L.foldl putL l) ∧ (∀ y, y ∈ L.foldl putL l → mayB y = true) ∧ (L.foldl putL l).length ≤ l.length + L.length := by
  induction L with
  | nil => intro l h1 h2; exact ⟨h1, h2, by simp⟩
  | cons r L ih =>
    intro l h1 h2
    obtain ⟨a, b, c⟩ := ih (putL l r) (putL_srt h1 r) (putL_may h2 r)
    refine ⟨a, b, ?_⟩
    have := putL_len l r
    simp only [List.foldl_cons, List.length_cons]
    omega
theorem kept_ok (L : List Rc) : Srt (keptL L) ∧ (∀ y, y ∈ keptL L → mayB y = true) ∧ (keptL L).length ≤ L.length := by
  obtain ⟨a, b, c⟩ := foldl_ok L [] List.Pairwise.nil (fun y hy => by cases hy)
  exact ⟨a, b, by simpa [keptL] using c⟩
def rvs (l : List Rc) : List V := l.map Rc.v
theorem rvs_len (l : List Rc) : (rvs l).length = l.length := by simp [rvs]
theorem rvs_get (l : List Rc) (i : Nat) (hi : i < l.length) : (rvs l)[i]? = some (.agg l[i].cs) := by
  unfold rvs
  rw [List.getElem?_map, List.getElem?_eq_getElem hi]
  rfl
theorem rvs_hf : ∀ l : List Rc, V.hfs (rvs l) = true
  | [] => rfl
  | x :: l => by show (V.hf x.v && V.hfs (rvs l)) = true; rw [Rc.hf, rvs_hf l]; rfl
theorem New_loop {h0 : Heap} {p : Nat} (L : List Rc) (hL : L.length ≤ 100) (hp : ∀ r, r ∈ L → r.pgs.length ≤ 1000) : ∀ (m i : Nat) (g : Heap), i + m = L.length → Ix h0 g p ((L.take i).foldl putL []) → ∀ ks Q,
    (∀ g, Ix h0 g p (keptL L) → ∀ e, Xk T ks (.x 0) ([(3, .ptr p 0)] ++ e) g Q) →
    Xc T l_index_New_0 ks [(3, .ptr p 0), (8, .ps 8 (rvs L)), (9, .int .i64 L.length), (10, .int .i64 i)] g Q := by
  intro m
  induction m with
  | zero =>
    intro i g hi x ks Q hQ
    rw [L_index_New_0]; unfold bl_index_New_0
    have c : ¬ (i : Int) < L.length := by omega
    rw [List.take_of_length_le (by omega)] at x
    simp (disch := omega) [c]
    have := hQ g x [(8, .ps 8 (rvs L)), (9, .int .i64 L.length), (10, .int .i64 i), (11, .bool false)]
    simpa using this
  | succ m ih =>
    intro i g hi x ks Q hQ
    rw [L_index_New_0]; unfold bl_index_New_0
    have c : (i : Int) < L.length := by omega
    have hil : i < L.length := by omega
    have gt := rvs_get L i hil
    have ht : L.take (i + 1) = L.take i ++ [L[i]] := by rw [List.take_add_one, List.getElem?_eq_getElem hil]; rfl
    have ok := foldl_ok (L.take i) [] List.Pairwise.nil (fun y hy => by cases hy)
    have hr := hp L[i] (List.getElem_mem hil)
    have x1 := x.app [some (L[i]).cs]
    obtain ⟨v, g', x2, pr⟩ := IxPut_run x1 ok.1 (by have := ok.2.2; simp at this; omega) ok.2.1 L[i] hr
    have ih' := ih (i + 1) g' (by omega) (by rw [ht, List.foldl_append]; exact x2) ks Q hQ
    generalize L[i] = r at *
    have cl : r.cs.length = 8 := rfl
    have tk : r.cs.take 8 = r.cs := rfl
    have on : r.cs.all V.one = true := rfl
    have rg : Heap.row (g ++ [some r.cs]) g.length = some r.cs := row_end rfl
    have sp : spliceL [.int .u64 0, .int .u64 0, .int .i64 0, .int .i64 0, .int .u64 0, .bool false, .int .i64 0, .ps 1 []] 0 r.cs = r.cs := rfl
    simp (disch := omega) [c, rvs_len, gt, cl, tk, on, sp]
    rw [Xf_run pr]
    simp (disch := omega)
    simpa using ih'
theorem New_run (L : List Rc) (hL : L.length ≤ 100) (hp : ∀ r, r ∈ L → r.pgs.length ≤ 1000) (h : Heap) : ∃ p g, Ix h g p (keptL L) ∧ Run T f_index_New [.ps 8 (rvs L)] h (.ptr p 0) g := by
  have hr : ∃ v g, (∃ p, v = .ptr p 0 ∧ Ix h g p (keptL L)) ∧ Run T f_index_New [.ps 8 (rvs L)] h v g := by
    refine Run.startP t_index_New ?_
    unfold k_index_New
    simp (disch := omega) [rvs_len]
    refine New_loop (h0 := h) L hL hp L.length 0 _ (by omega) ?_ _ _ fun g x e => ?_
    · exact ⟨⟨_, rfl⟩, Nat.le_refl _, 0, by rw [row_end rfl]; rfl, fun c => absurd rfl c⟩
    · simp
      exact x
  obtain ⟨v, g, ⟨p, rfl, x⟩, r⟩ := hr
  exact ⟨p, g, x, r⟩
theorem Rc.tk (r : Rc) : r.cs.take 8 = r.cs := rfl
theorem Rc.cl (r : Rc) : r.cs.length = 8 := rfl
theorem Rc.on (r : Rc) : r.cs.all V.one = true := rfl
theorem Rc.sp (r : Rc) : spliceL [.int .u64 0, .int .u64 0, .int .i64 0, .int .i64 0, .int .u64 0, .bool false, .int .i64 0, .ps 1 []] 0 r.cs = r.cs := rfl
/-- How many frames so many bytes have. -/
def frI (n : Int) : Int := (n - 1) / 100 + 1
def inR (n : Int) (r : Rc) : Bool := decide (r.fst ≤ n) && decide (n - r.fst < frI r.len)
theorem mayB_len {r : Rc} (h : mayB r = true) : 1 ≤ r.len ∧ r.len ≤ 3192 := by
  simp [mayB, preB] at h
  omega
theorem Frames_run (n : Int) (h1 : 1 ≤ n) (h2 : n ≤ 3192) (h : Heap) : Run T f_index_Frames [.int .i64 n] h (.int .i64 (frI n)) h := by
  refine Run.start t_index_Frames ?_
  unfold k_index_Frames frI
  have c : ¬ n < 1 := by omega
  have d : (n - 1).tdiv 100 = (n - 1) / 100 := Int.tdiv_eq_ediv_of_nonneg (by omega)
  simp (disch := omega) [c, d]
section
variable {ks : List Kt} {ops : List AOpr} {K : Kp} {e : Env} {h : Heap} {Q : Ex → Env → Heap → Prop} {d : Nat} {lent : Bool}
theorem Frames_p (n : Int) (h1 : 1 ≤ n) (h2 : n ≤ 3192) : Xp T f_index_Frames (some ([.int .i64 n], lent)) h (some d) ops K ks e Q = Xo T ops K ks ((d, .int .i64 (frI n)) :: e) h Q :=
  Xp_run (Frames_run n h1 h2 []) (by simp) rfl (by simp [scalar])
end
theorem Frame1_run (r : Rc) (hm : mayB r = true) (hf : 0 ≤ r.fst) (n : Int) (hn : n < 18446744073709551616) (g : Heap) (c : Nat) (hc : g.row c = some [.int .u64 n]) : Run T f_index_Index_Frame_1 [.agg r.cs, .ptr c 0] g (.bool (inR n r)) (g ++ [some r.cs]) := by
  obtain ⟨m1, m2⟩ := mayB_len hm
  have hc' : Heap.row (g ++ [some r.cs]) c = some [.int .u64 n] := by rw [row_app (row_lt hc)]; exact hc
  have hr : Heap.row (g ++ [some r.cs]) g.length = some r.cs := row_end rfl
  have c1 : r.cs[1]? = some (.int .u64 r.fst) := rfl
  have c3 : r.cs[3]? = some (.int .i64 r.len) := rfl
  have fb : 1 ≤ frI r.len ∧ frI r.len ≤ 32 := by unfold frI; omega
  obtain ⟨g1, hg1⟩ : ∃ g1, g1 = g ++ [some r.cs] := ⟨_, rfl⟩
  refine Run.start t_index_Index_Frame_1 ?_
  unfold k_index_Index_Frame_1 inR
  rw [← hg1] at hc' hr ⊢
  by_cases q : r.fst ≤ n
  · simp (disch := omega) [Rc.on, Rc.cl, ← hg1, hc', hr, c1, c3, q, Frames_p]
  · simp (disch := omega) [Rc.on, Rc.cl, ← hg1, hc', hr, c1, c3, q]
theorem some_loop (l : List Rc) (hl : l.length ≤ 1000) (hm : ∀ r, r ∈ l → mayB r = true) (hf : ∀ r, r ∈ l → 0 ≤ r.fst) (n : Int) (hn : n < 18446744073709551616) (b c : Nat) : ∀ (m i : Nat) (g : Heap), i + m = l.length → g.row b = some (rcs l) → g.row c = some [.int .u64 n] → ∀ ks Q,
    (∀ J e, Xk T ks (.x 0) ([(1, .fn f_index_Index_Frame_1 [.ptr c 0]), (5, .ps 8 (rvs (l.filter (inR n))))] ++ e) (g ++ J) Q) →
    Xc T l_index_Index_some_0 ks [(1, .fn f_index_Index_Frame_1 [.ptr c 0]), (5, .ps 8 (rvs ((l.take i).filter (inR n)))), (14, .hs 8 b 0 l.length), (15, .int .i64 l.length), (16, .int .i64 i)] g Q := by
  intro m
  induction m with
  | zero =>
    intro i g hi hb hc ks Q hQ
    rw [L_index_Index_some_0]; unfold bl_index_Index_some_0
    have ci : ¬ (i : Int) < l.length := by omega
    rw [List.take_of_length_le (by omega)]
    simp (disch := omega) [ci]
    have := hQ [] [(14, .hs 8 b 0 l.length), (15, .int .i64 l.length), (16, .int .i64 i), (17, .bool false)]
    simpa using this
  | succ m ih =>
    intro i g hi hb hc ks Q hQ
    rw [L_index_Index_some_0]; unfold bl_index_Index_some_0
    have ci : (i : Int) < l.length := by omega
    have hil : i < l.length := by omega
    have pt := rcs_at l i hil
    have ht : l.take (i + 1) = l.take i ++ [l[i]] := by rw [List.take_add_one, List.getElem?_eq_getElem hil]; rfl
    have rm := hm l[i] (List.getElem_mem hil)
    have rf := hf l[i] (List.getElem_mem hil)
    have fl : ((l.take i).filter (inR n)).length ≤ 1000 := Nat.le_trans (List.length_filter_le _ _) (by simp; omega)
    generalize l[i] = r at *
    have rg : Heap.row (g ++ [some r.cs]) g.length = some r.cs := row_end rfl
    have c1 : Heap.row (g ++ [some r.cs]) c = some [.int .u64 n] := by rw [row_app (row_lt hc)]; exact hc
    have b1 : Heap.row (g ++ [some r.cs]) b = some (rcs l) := by rw [row_app (row_lt hb)]; exact hb
    have f1 := Frame1_run r rm rf n hn _ c c1
    have rg2 : Heap.row (g ++ [some r.cs] ++ [some r.cs]) g.length = some r.cs := by rw [row_app (row_lt rg)]; exact rg
    have ih' := ih (i + 1) (g ++ [some r.cs] ++ [some r.cs]) (by omega) (by rw [row_app (row_lt b1)]; exact b1) (by rw [row_app (row_lt c1)]; exact c1) ks Q (fun J e => by
      have := hQ ([some r.cs] ++ [some r.cs] ++ J) e
      simpa [List.append_assoc] using this)
    rw [ht, List.filter_append] at ih'
    simp (disch := omega) [ci, hb, pt, rcs_len, Rc.on, Rc.cl, Rc.sp, Rc.tk, rg]
    rw [Xv_fn (hf := rfl)]
    simp only [List.cons_append, List.nil_append]
    rw [Xf_run f1]
    cases q : inR n r with
    | true =>
      rw [List.filter_cons_of_pos (by simp [q]), List.filter_nil] at ih'
      simp only [List.append_assoc, List.cons_append, List.nil_append] at rg2
      have b2 : (((l.take i).filter (inR n)).length + 1) * 80 ≤ 140737488355328 := by omega
      simp (disch := omega) [Rc.tk, Rc.cl, rg2]
      rw [copyOf_p r rm]
      simp (disch := omega) [Rc.on, Rc.cl, rvs_len, b2]
      simpa [rvs, Rc.v] using ih'
    | false =>
      rw [List.filter_cons_of_neg (by simp [q])] at ih'
      simp (disch := omega)
      simpa using ih'
theorem some_run {h0 g : Heap} {p : Nat} {l : List Rc} (x : Ix h0 g p l) (hl : l.length ≤ 1000) (hm : ∀ r, r ∈ l → mayB r = true) (hf : ∀ r, r ∈ l → 0 ≤ r.fst) (n : Int) (hn : n < 18446744073709551616) (c : Nat) (hc : g.row c = some [.int .u64 n]) :
    ∃ J, Run T f_index_Index_some [.ptr p 0, .fn f_index_Index_Frame_1 [.ptr c 0]] g (.ps 8 (rvs (l.filter (inR n)))) (g ++ J) := by
  obtain ⟨_, _, b, r1, r2⟩ := x
  have hr : ∃ v g', (v = .ps 8 (rvs (l.filter (inR n))) ∧ ∃ J, g' = g ++ J) ∧ Run T f_index_Index_some [.ptr p 0, .fn f_index_Index_Frame_1 [.ptr c 0]] g v g' := by
    refine Run.startP t_index_Index_some ?_
    unfold k_index_Index_some
    by_cases cl : l = []
    · subst cl
      simp [ixV] at r1
      simp (disch := omega) [r1]
      rw [L_index_Index_some_0]; unfold bl_index_Index_some_0
      simp (disch := omega)
      rfl
    · obtain ⟨q1, q2, q3⟩ := r2 cl
      simp [ixV, cl] at r1
      simp (disch := omega) [r1]
      have := some_loop l hl hm hf n hn b c l.length 0 g (by omega) q1 hc
      refine this _ _ fun J e => ?_
      simp
  obtain ⟨v, g', ⟨rfl, J, rfl⟩, r⟩ := hr
  exact ⟨J, r⟩
/-- The first record of which a frame is. -/
def fndR (l : List Rc) (n : Int) : Option Rc := (l.filter (inR n)).head?
def zRc : Rc := ⟨0, 0, 0, 0, 0, false, 0, []⟩
def frV (o : Option Rc) (n : Int) : V := match o with
  | none => .tup [.agg zRc.cs, .int .i64 0, .bool false]
  | some r => .tup [.agg r.cs, .int .i64 (n - r.fst), .bool true]
theorem zcs : zRc.cs = [.int .u64 0, .int .u64 0, .int .i64 0, .int .i64 0, .int .u64 0, .bool false, .int .i64 0, .ps 1 []] := rfl
theorem inR_u {n : Int} {r : Rc} (hm : mayB r = true) (h : inR n r = true) : r.fst ≤ n ∧ n - r.fst < 32 := by
  obtain ⟨m1, m2⟩ := mayB_len hm
  unfold inR frI at h
  rw [Bool.and_eq_true, decide_eq_true_eq, decide_eq_true_eq] at h
  obtain ⟨h1, h2⟩ := h
  exact ⟨h1, by omega⟩
theorem Frame_run {h0 g : Heap} {p : Nat} {l : List Rc} (x : Ix h0 g p l) (hl : l.length ≤ 1000) (hm : ∀ r, r ∈ l → mayB r = true) (hf : ∀ r, r ∈ l → 0 ≤ r.fst) (n : Int) (hn : n < 18446744073709551616) :
    ∃ J, Run T f_index_Index_Frame [.ptr p 0, .int .u64 n] g (frV (fndR l n) n) (g ++ J) := by
  obtain ⟨J, sr⟩ := some_run (x.app ([some [.int .u64 n]] ++ [some zRc.cs])) hl hm hf n hn g.length (by rw [← List.append_assoc, row_app (by simp), row_end rfl])
  have rc : Heap.row (g ++ ([some [.int .u64 n]] ++ [some zRc.cs]) ++ J) g.length = some [.int .u64 n] := by rw [List.append_assoc, List.append_assoc, row_app_ge (by omega), Nat.sub_self]; rfl
  have rz : Heap.row (g ++ ([some [.int .u64 n]] ++ [some zRc.cs]) ++ J) (g.length + 1) = some zRc.cs := by rw [List.append_assoc, List.append_assoc, row_app_ge (by omega)]; simp [Heap.row]
  obtain ⟨g1, hg1⟩ : ∃ g1, g1 = g ++ ([some [.int .u64 n]] ++ [some zRc.cs]) ++ J := ⟨_, rfl⟩
  rw [← hg1] at sr rc rz
  have hr : ∃ v g', (v = frV (fndR l n) n ∧ ∃ J, g' = g ++ J) ∧ Run T f_index_Index_Frame [.ptr p 0, .int .u64 n] g v g' := by
    refine Run.startP t_index_Index_Frame ?_
    unfold k_index_Index_Frame
    simp (disch := omega)
    have sr' := sr
    simp only [List.cons_append, List.nil_append, zcs] at sr'
    rw [Xf_run sr']
    have zl : zRc.cs.length = 8 := rfl
    have l4 := row_lt rz
    have zs : spliceL zRc.cs 0 zRc.cs = zRc.cs := rfl
    have hset : ∀ o, ∃ J, g1.set (g.length + 1) o = g ++ J := fun o => ⟨_, by rw [hg1, List.append_assoc, set_pre (by omega)]⟩
    unfold fndR
    cases q : l.filter (inR n) with
    | nil =>
      simp (disch := omega) [rvs, rz, ← zcs, Rc.on, Rc.cl, Rc.sp, Rc.tk, zs]
      exact ⟨rfl, hset _⟩
    | cons r r' =>
      have rl : ¬ (r'.length : Int) + 1 = 0 := by omega
      have rm : r ∈ l.filter (inR n) := by rw [q]; exact List.mem_cons_self
      obtain ⟨rm1, rm2⟩ := List.mem_filter.1 rm
      obtain ⟨u1, u2⟩ := inR_u (hm r rm1) rm2
      have r0 := hf r rm1
      have c1 : r.cs[1]? = some (.int .u64 r.fst) := rfl
      simp (disch := omega) [rvs, rl]
      apply Xc_regf
      have zs : spliceL zRc.cs 0 r.cs = r.cs := rfl
      simp (disch := omega) [Rc.v, Rc.on, Rc.cl, Rc.sp, Rc.tk, rc, rz, c1]
      have rc' : ∀ o, Heap.row (g1.set (g.length + 1) o) g.length = some [.int .u64 n] := fun o => by rw [row_ne (by omega)]; exact rc
      simp (disch := omega) [flagsIn, flagP, evOp, Rc.v, Rc.on, Rc.cl, Rc.sp, Rc.tk, rc, rz, c1, zs, rc']
      exact ⟨rfl, hset _⟩
  obtain ⟨v, g', ⟨rfl, J, rfl⟩, r⟩ := hr
  exact ⟨J, r⟩
structure Fq where
  num : Int
  st : Int
  id : Int
  i : Int
  deriving Inhabited, DecidableEq
def Fq.cs (f : Fq) : List V := [.int .u64 f.num, .int .i64 f.st, .int .u64 f.id, .int .i64 f.i]
def Fq.v (f : Fq) : V := .agg f.cs
/-- What a frame is. -/
def oneQ (l : List Rc) (n next : Int) : Fq := match fndR l n with
  | some r => ⟨n, 0, r.id, n - r.fst⟩
  | none => if n < next then ⟨n, 1, 0, 0⟩ else ⟨n, 2, 0, 0⟩
theorem One_run {h0 g : Heap} {p : Nat} {l : List Rc} (x : Ix h0 g p l) (hl : l.length ≤ 1000) (hm : ∀ r, r ∈ l → mayB r = true) (hf : ∀ r, r ∈ l → 0 ≤ r.fst) (n next : Int) (hn : n < 18446744073709551616) :
    ∃ J, Run T f_resend_One [.ptr p 0, .int .u64 n, .int .u64 next] g (.agg (oneQ l n next).cs) (g ++ J) := by
  obtain ⟨z4, hz4⟩ : ∃ z : List V, z = [.int .u64 0, .int .i64 0, .int .u64 0, .int .i64 0] := ⟨_, rfl⟩
  obtain ⟨J, fr⟩ := Frame_run (x.app [some z4]) hl hm hf n hn
  obtain ⟨g1, hg1⟩ : ∃ g1, g1 = g ++ [some z4] ++ J := ⟨_, rfl⟩
  have rz : g1.row g.length = some z4 := by rw [hg1, row_app (by simp), row_end rfl]
  rw [← hg1] at fr
  have sp : ∀ a b c d : V, spliceL z4 0 [a, b, c, d] = [a, b, c, d] := fun a b c d => by rw [hz4]; rfl
  have zl : z4.length = 4 := by rw [hz4]; rfl
  have lg := row_lt rz
  have hset : ∀ (o : Option (List V)) J', ∃ J, g1.set g.length o ++ J' = g ++ J := fun o J' => ⟨_, by rw [hg1, List.append_assoc, set_pre (Nat.le_refl _), List.append_assoc]⟩
  have b1 : ∀ a b : V, spliceL (z4.set 0 a) 1 [b] = [a, b, .int .u64 0, .int .i64 0] := fun a b => by rw [hz4]; rfl
  have b2 : ∀ a b c : V, (spliceL (z4.set 0 a) 2 [b]).set 3 c = [a, .int .i64 0, b, c] := fun a b c => by rw [hz4]; rfl
  have b4 : ∀ a b c : V, spliceL (spliceL (z4.set 0 a) 2 [b]) 3 [c] = [a, .int .i64 0, b, c] := fun a b c => by rw [hz4]; rfl
  have rs : ∀ (o : Option (List V)) J', Heap.row (g1.set g.length o ++ J') g.length = o := fun o J' => by rw [row_app (by simpa using lg), row_set lg]
  have b3 : ∀ a b : V, (spliceL (z4.set 0 a) 2 [b]).length = 4 := fun a b => by rw [hz4]; rfl
  have hr : ∃ v g', (v = .agg (oneQ l n next).cs ∧ ∃ J, g' = g ++ J) ∧ Run T f_resend_One [.ptr p 0, .int .u64 n, .int .u64 next] g v g' := by
    refine Run.startP t_resend_One ?_
    unfold k_resend_One
    simp (disch := omega) [← hz4]
    rw [Xf_run fr]
    unfold oneQ frV
    cases q : fndR l n with
    | some r =>
      have rg : ∀ J', Heap.row (g1 ++ J') g.length = some z4 := fun J' => by rw [row_app lg]; exact rz
      have rr : Heap.row (g1 ++ [some r.cs]) g1.length = some r.cs := row_end rfl
      have c0 : r.cs[0]? = some (.int .u64 r.id) := rfl
      simp (disch := omega) [Rc.on, Rc.cl, Rc.sp, Rc.tk, rg, rr, c0, b2, b3, b4, zl, sp, rs]
      exact ⟨rfl, hset _ _⟩
    | none =>
      have zsp : spliceL zRc.cs 0 zRc.cs = zRc.cs := rfl
      have rg : ∀ J', Heap.row (g1 ++ J') g.length = some z4 := fun J' => by rw [row_app lg]; exact rz
      by_cases c : n < next
      · simp (disch := omega) [← zcs, Rc.on, Rc.cl, Rc.sp, Rc.tk, zsp, rg, c, b1, zl, sp, rs]
        exact ⟨rfl, hset _ _⟩
      · simp (disch := omega) [← zcs, Rc.on, Rc.cl, Rc.sp, Rc.tk, zsp, rg, c, b1, zl, sp, rs]
        exact ⟨rfl, hset _ _⟩
  obtain ⟨v, g', ⟨rfl, J, rfl⟩, r⟩ := hr
  exact ⟨J, r⟩
def fqs (l : List Fq) : List V := l.map Fq.v
theorem fqs_len (l : List Fq) : (fqs l).length = l.length := by simp [fqs]
theorem fqs_get (l : List Fq) (i : Nat) (hi : i < l.length) : (fqs l)[i]? = some (.agg l[i].cs) := by
  unfold fqs
  rw [List.getElem?_map, List.getElem?_eq_getElem hi]
  rfl
theorem fqs_hf : ∀ l : List Fq, V.hfs (fqs l) = true
  | [] => rfl
  | x :: l => by show (V.hf x.v && V.hfs (fqs l)) = true; rw [fqs_hf l]; rfl
theorem Fq.cl (f : Fq) : f.cs.length = 4 := rfl
theorem Fq.on (f : Fq) : f.cs.all V.one = true := rfl
theorem Fq.tk (f : Fq) : f.cs.take 4 = f.cs := rfl
theorem Fq.sp (f : Fq) : spliceL [.int .u64 0, .int .i64 0, .int .u64 0, .int .i64 0] 0 f.cs = f.cs := rfl
/-- Frames of a range. -/
def rngQ (l : List Rc) (a next : Int) (k : Nat) : List Fq := (List.range k).map fun j : Nat => oneQ l (a + (j : Int)) next
theorem rngQ_len (l : List Rc) (a next : Int) (k : Nat) : (rngQ l a next k).length = k := by simp [rngQ]
theorem rngQ_succ (l : List Rc) (a next : Int) (k : Nat) : rngQ l a next (k + 1) = rngQ l a next k ++ [oneQ l (a + k) next] := by simp [rngQ, List.range_succ]
theorem rng_loop {h0 : Heap} {p : Nat} {l : List Rc} (hl : l.length ≤ 1000) (hm : ∀ r, r ∈ l → mayB r = true) (hf : ∀ r, r ∈ l → 0 ≤ r.fst) (next a : Int) (N : Nat) (hN : N ≤ 256) (ha : 0 ≤ a) (hb : a + N ≤ 18446744073709551616) : ∀ (m k : Nat) (g : Heap), k + m = N → Ix h0 g p l → ∀ ks Q,
    (∀ J e, Xk T ks (.x 0) ([(0, .ptr p 0), (1, .int .u64 next), (2, .int .u64 a), (10, .ps 4 (fqs (rngQ l a next N)))] ++ e) (g ++ J) Q) →
    Xc T l_resend_Range_0 ks [(0, .ptr p 0), (1, .int .u64 next), (2, .int .u64 a), (10, .ps 4 (fqs (rngQ l a next k))), (24, .int .u64 N), (25, .int .u64 k)] g Q := by
  intro m
  induction m with
  | zero =>
    intro k g hk x ks Q hQ
    rw [L_resend_Range_0]; unfold bl_resend_Range_0
    have c : ¬ (k : Int) < N := by omega
    have e : k = N := by omega
    subst e
    simp (disch := omega)
    have := hQ [] [(24, .int .u64 k), (25, .int .u64 k), (26, .bool false)]
    simpa using this
  | succ m ih =>
    intro k g hk x ks Q hQ
    rw [L_resend_Range_0]; unfold bl_resend_Range_0
    have c : (k : Int) < N := by omega
    obtain ⟨J, orun⟩ := One_run x hl hm hf (a + k) next (by omega)
    have ih' := ih (k + 1) (g ++ J) (by omega) (x.app J) ks Q (fun J2 e => by
      have := hQ (J ++ J2) e
      simpa [List.append_assoc] using this)
    rw [rngQ_succ] at ih'
    have rl := rngQ_len l a next k
    generalize rngQ l a next k = R at *
    generalize oneQ l (a + k) next = f at *
    have bd : (R.length + 1) * 32 ≤ 140737488355328 := by omega
    simp (disch := omega) [c]
    rw [Xf_run orun]
    simp (disch := omega) [Fq.cl, Fq.on, fqs_len, bd]
    simpa [fqs, Fq.v] using ih'
theorem Range_run {h0 g : Heap} {p : Nat} {l : List Rc} (x : Ix h0 g p l) (hl : l.length ≤ 1000) (hm : ∀ r, r ∈ l → mayB r = true) (hf : ∀ r, r ∈ l → 0 ≤ r.fst) (next a b : Int) (ha : 0 ≤ a) (hb : b < 18446744073709551616) (hab : a ≤ b) (hd : b - a ≤ 255) :
    ∃ J, Run T f_resend_Range [.ptr p 0, .int .u64 next, .int .u64 a, .int .u64 b] g (.tup [.ps 4 (fqs (rngQ l a next ((b - a).toNat + 1))), .int .i64 0]) (g ++ J) := by
  have hr : ∃ v g', (v = .tup [.ps 4 (fqs (rngQ l a next ((b - a).toNat + 1))), .int .i64 0] ∧ ∃ J, g' = g ++ J) ∧ Run T f_resend_Range [.ptr p 0, .int .u64 next, .int .u64 a, .int .u64 b] g v g' := by
    refine Run.startP t_resend_Range ?_
    unfold k_resend_Range
    have c1 : ¬ b < a := by omega
    have c2 : ¬ 256 ≤ b - a := by omega
    have e : b - a + 1 = ((b - a).toNat + 1 : Nat) := by omega
    simp (disch := omega) [c1, c2]
    rw [e]
    have := rng_loop hl hm hf next a ((b - a).toNat + 1) (by omega) ha (by omega) ((b - a).toNat + 1) 0 g (by omega) x
    refine this _ _ fun J e => ?_
    simp
  obtain ⟨v, g', ⟨rfl, J, rfl⟩, r⟩ := hr
  exact ⟨J, r⟩
section
variable {ks : List Kt} {ops : List AOpr} {K : Kp} {e : Env} {h : Heap} {Q : Ex → Env → Heap → Prop} {d : Nat} {lent : Bool}
end
section
variable {ks : List Kt} {ops : List AOpr} {K : Kp} {e : Env} {h : Heap} {Q : Ex → Env → Heap → Prop} {d : Nat} {lent : Bool}
end
structure Aq where
  l : List Rc
  next : Int
  a : Int
  b : Int
def Aq.cs (q : Aq) : List V := [.ps 8 (rvs q.l), .int .u64 q.next, .int .u64 q.a, .int .u64 q.b]
def litB (l : List Rc) : Bool := l.all (fun r => decide (r.pgs.length ≤ 30)) && decide (l.length ≤ 20)
theorem light_loop (q : Aq) (hL : q.l.length < 4611686018427387904) (hp : ∀ r, r ∈ q.l → r.pgs.length < 4611686018427387904) (h : Heap) (p : Nat) (hr : h.row p = some q.cs) : ∀ (m i : Nat), i + m = q.l.length → ∀ ks Q,
    ((q.l.drop i).all (fun r => decide (r.pgs.length ≤ 30)) = true → ∀ e, Xk T ks (.x 0) ([(1, .ptr p 0)] ++ e) h Q) → ((q.l.drop i).all (fun r => decide (r.pgs.length ≤ 30)) = false → Xk T ks .r [(2, .bool false)] h Q) →
    Xc T l_law34_Ask_light_0 ks [(1, .ptr p 0), (3, .int .i64 i)] h Q := by
  have q0 : q.cs[0]? = some (.ps 8 (rvs q.l)) := rfl
  intro m
  induction m with
  | zero =>
    intro i hi ks Q h1 h2
    rw [L_law34_Ask_light_0]; unfold bl_law34_Ask_light_0
    have c : ¬ (i : Int) < q.l.length := by omega
    rw [List.drop_of_length_le (by omega)] at h1
    simp (disch := omega) [hr, q0, rvs_len, c]
    have := h1 rfl [(3, .int .i64 i), (8, .bool false)]
    simpa using this
  | succ m ih =>
    intro i hi ks Q h1 h2
    rw [L_law34_Ask_light_0]; unfold bl_law34_Ask_light_0
    have c : (i : Int) < q.l.length := by omega
    have hil : i < q.l.length := by omega
    have gt := rvs_get q.l i hil
    have e := List.drop_eq_getElem_cons hil
    have hpg := hp q.l[i] (List.getElem_mem hil)
    have ih' := ih (i + 1) (by omega) ks Q
    rw [e, List.all_cons] at h1 h2
    clear e
    generalize q.l[i] = r at *
    have r7 : r.cs[7]? = some (.ps 1 (i64s r.pgs)) := rfl
    by_cases c2 : 30 < r.pgs.length
    · have c3 : (30 : Int) < r.pgs.length := by omega
      rw [decide_eq_false (by omega), Bool.false_and] at h2
      simp (disch := omega) [hr, q0, rvs_len, c, gt, r7, Rc.cl, i64s_len, c3]
      exact h2 rfl
    · have c3 : ¬ (30 : Int) < r.pgs.length := by omega
      rw [decide_eq_true (by omega), Bool.true_and] at h1 h2
      simp (disch := omega) [hr, q0, rvs_len, c, gt, r7, Rc.cl, i64s_len, c3]
      simpa using ih' h1 h2
theorem light_run (q : Aq) (hL : q.l.length < 4611686018427387904) (hp : ∀ r, r ∈ q.l → r.pgs.length < 4611686018427387904) : ∃ h', Run T f_law34_Ask_light [.agg q.cs] [] (.bool (litB q.l)) h' := by
  have q0 : q.cs[0]? = some (.ps 8 (rvs q.l)) := rfl
  have on : q.cs.all V.one = true := rfl
  have rr : Heap.row [some q.cs] 0 = some q.cs := rfl
  have hr : ∃ v h', v = .bool (litB q.l) ∧ Run T f_law34_Ask_light [.agg q.cs] [] v h' := by
    refine Run.startP t_law34_Ask_light ?_
    unfold k_law34_Ask_light
    simp (disch := omega) [on]
    refine light_loop q hL hp _ 0 rr q.l.length 0 (by omega) _ _ (fun k e => ?_) (fun k => ?_)
    · rw [List.drop_zero] at k
      have e : litB q.l = decide ((q.l.length : Int) ≤ 20) := by unfold litB; rw [k, Bool.true_and]; congr 1; exact propext ⟨fun _ => by omega, fun _ => by omega⟩
      simp (disch := omega) [rr, q0, rvs_len, e]
    · rw [List.drop_zero] at k
      have e : litB q.l = false := by unfold litB; rw [k, Bool.false_and]
      simp [e]
  obtain ⟨v, h', rfl, r⟩ := hr
  exact ⟨h', r⟩
theorem Aq.hf (q : Aq) : V.hf (.agg q.cs) = true := by show (V.hfs (rvs q.l) && _) = true; rw [rvs_hf]; rfl
section
variable {ks : List Kt} {ops : List AOpr} {K : Kp} {e : Env} {h : Heap} {Q : Ex → Env → Heap → Prop} {d : Nat} {lent : Bool}
theorem light_p (q : Aq) (hL : q.l.length < 4611686018427387904) (hp : ∀ r, r ∈ q.l → r.pgs.length < 4611686018427387904) : Xp T f_law34_Ask_light (some ([.agg q.cs], lent)) h (some d) ops K ks e Q = Xo T ops K ks ((d, .bool (litB q.l)) :: e) h Q := by
  obtain ⟨h', r⟩ := light_run q hL hp
  exact Xp_run r (by show (V.hf (.agg q.cs) && true) = true; rw [Aq.hf]; rfl) rfl (by simp [scalar])
end
theorem awakeR : ∃ h', Run T f_law34_awake [] [] (.bool true) h' := Run.closed (n := 100) (by kernel_rfl)
section
variable {ks : List Kt} {ops : List AOpr} {K : Kp} {e : Env} {h : Heap} {Q : Ex → Env → Heap → Prop} {d : Nat} {lent : Bool}
theorem awakeR_p : Xp T f_law34_awake (some ([], lent)) h (some d) ops K ks e Q = Xo T ops K ks ((d, .bool true) :: e) h Q := by
  obtain ⟨h', r⟩ := awakeR
  exact Xp_run r rfl rfl (by simp [scalar])
end
theorem Fq.eqs (f : Fq) : eqFs (.cons 0 0 .int (.cons 1 0 .int (.cons 2 0 .int (.cons 3 0 .int .nil)))) f.cs f.cs = some true := by
  obtain ⟨a, b, c, d⟩ := f
  simp only [Fq.cs]
  simp
structure Aq.ok (q : Aq) : Prop where
  l : q.l.length < 4611686018427387904
  p : ∀ r, r ∈ q.l → r.pgs.length < 4611686018427387904
  f : ∀ r, r ∈ q.l → 0 ≤ r.fst
  a0 : 0 ≤ q.a
  a1 : q.a < 18446744073709551616
  b0 : 0 ≤ q.b
  b1 : q.b < 18446744073709551616
theorem litB_ok {l : List Rc} (h : litB l = true) : l.length ≤ 20 ∧ ∀ r, r ∈ l → r.pgs.length ≤ 1000 := by
  simp [litB] at h
  exact ⟨by omega, fun r hr => by have := h.1 r hr; omega⟩
theorem foldl_mem (L : List Rc) : ∀ l r, r ∈ L.foldl putL l → r ∈ l ∨ r ∈ L := by
  induction L with
  | nil => intro l r h; exact .inl h
  | cons x L ih =>
    intro l r h
    rcases ih (putL l x) r h with h | h
    · unfold putL at h
      split at h
      · rcases List.mem_append.1 h with h | h
        · rcases List.mem_append.1 h with h | h
          · exact .inl (List.mem_of_mem_take h)
          · exact .inr (by rw [List.mem_singleton.1 h]; exact List.mem_cons_self)
        · exact .inl (List.mem_of_mem_drop h)
      · exact .inl h
    · exact .inr (List.mem_cons_of_mem _ h)
theorem kept_mem {L : List Rc} {r : Rc} (h : r ∈ keptL L) : r ∈ L := by
  rcases foldl_mem L [] r h with h | h
  · cases h
  · exact h
abbrev esR : List CS := [.i .u64, .i .u64, .i .i64, .i .i64, .i .u64, .b, .i .i64, .sl false 8 [.i .i64]]
theorem u64_min : IntKind.u64.min = 0 := by decide
theorem u64_max : IntKind.u64.max = 18446744073709551615 := by decide
theorem Row.rc {vs : List V} (h : Row esR vs) : ∃ r : Rc, vs = r.cs ∧ 0 ≤ r.fst ∧ r.pgs.length < 4611686018427387904 := by
  obtain ⟨hl, k⟩ := h
  match vs, hl, k with
  | [a, b, c, d, e, f, g, i], _, k =>
    obtain ⟨n0, e0, _, _⟩ := (k 0 (by decide) (by simp)).int
    obtain ⟨n1, e1, m1, _⟩ := (k 1 (by decide) (by simp)).int
    obtain ⟨n2, e2, _, _⟩ := (k 2 (by decide) (by simp)).int
    obtain ⟨n3, e3, _, _⟩ := (k 3 (by decide) (by simp)).int
    obtain ⟨n4, e4, _, _⟩ := (k 4 (by decide) (by simp)).int
    obtain ⟨n5, e5⟩ := (k 5 (by decide) (by simp)).bool
    obtain ⟨n6, e6, _, _⟩ := (k 6 (by decide) (by simp)).int
    obtain ⟨n7, e7, hn, _⟩ := (k 7 (by decide) (by simp)).ints
    simp only [List.getElem_cons_zero, List.getElem_cons_succ] at e0 e1 e2 e3 e4 e5 e6 e7
    subst e0 e1 e2 e3 e4 e5 e6 e7
    rw [u64_min] at m1
    exact ⟨⟨n0, n1, n2, n3, n4, n5, n6, n7⟩, rfl, m1, by show n7.length < _; omega⟩
theorem rvs_of : ∀ (xs : List V), (∀ y, y ∈ xs → ∃ vs, y = .agg vs ∧ Row esR vs) → ∃ l : List Rc, xs = rvs l ∧ (∀ r, r ∈ l → 0 ≤ r.fst ∧ r.pgs.length < 4611686018427387904)
  | [], _ => ⟨[], rfl, fun r h => by cases h⟩
  | y :: xs, h => by
    obtain ⟨vs, rfl, hr⟩ := h y List.mem_cons_self
    obtain ⟨r, rfl, h1, h2⟩ := hr.rc
    obtain ⟨l, rfl, hl⟩ := rvs_of xs fun y hy => h y (List.mem_cons_of_mem _ hy)
    refine ⟨r :: l, rfl, fun r' hr' => ?_⟩
    rcases List.mem_cons.1 hr' with rfl | hr'
    · exact ⟨h1, h2⟩
    · exact hl r' hr'
theorem Row.aq {vs : List V} (h : Row [.sl true 80 esR, .i .u64, .i .u64, .i .u64] vs) : ∃ q : Aq, vs = q.cs ∧ q.ok := by
  obtain ⟨hl, k⟩ := h
  match vs, hl, k with
  | [a, b, c, d], _, k =>
    obtain ⟨xs, e0, hn, hx⟩ := (k 0 (by decide) (by simp)).elems_agg
    obtain ⟨n1, e1, _, _⟩ := (k 1 (by decide) (by simp)).int
    obtain ⟨n2, e2, h20, h21⟩ := (k 2 (by decide) (by simp)).int
    obtain ⟨n3, e3, h30, h31⟩ := (k 3 (by decide) (by simp)).int
    simp only [List.getElem_cons_zero, List.getElem_cons_succ] at e0 e1 e2 e3
    obtain ⟨l, rfl, hl⟩ := rvs_of xs hx
    subst e0 e1 e2 e3
    rw [u64_min] at h20 h30
    rw [u64_max] at h21 h31
    rw [rvs_len] at hn
    exact ⟨⟨l, n1, n2, n3⟩, rfl, ⟨by show l.length < _; omega, fun r hr => (hl r hr).2, fun r hr => (hl r hr).1, h20, by show n2 < _; omega, h30, by show n3 < _; omega⟩⟩
/-- What is gathered behind so many frames. -/
structure RI (a : Int) (F : Nat → Bool) (i : Nat) (out : List Pr) (on : Bool) : Prop where
  rng : ∀ p, p ∈ out → a ≤ p.lo ∧ p.lo ≤ p.hi ∧ p.hi < a + i
  apt : out.Pairwise (fun p q => p.hi + 2 ≤ q.lo)
  mem : ∀ j : Nat, j < i → inP out (a + j) = F j
  on1 : on = true → ∃ pre lo, out = pre ++ [⟨lo, a + i - 1⟩]
  on0 : on = false → ∀ p, p ∈ out → p.hi + 2 ≤ a + i
  len : out.length ≤ i
theorem inP_app (l m : List Pr) (n : Int) : inP (l ++ m) n = (inP l n || inP m n) := by simp [inP]
theorem inP_out {l : List Pr} {n : Int} (h : ∀ p, p ∈ l → p.hi < n) : inP l n = false := by
  unfold inP
  rw [List.any_eq_false]
  intro p hp
  have := h p hp
  simp
  intro _
  omega
theorem RI.nil (a : Int) (F : Nat → Bool) : RI a F 0 [] false :=
  ⟨fun p h => (by cases h), List.Pairwise.nil, fun j h => (by omega), fun h => (by cases h), fun _ p h => (by cases h), Nat.le_refl _⟩
theorem RI.held {a : Int} {F : Nat → Bool} {i : Nat} {out : List Pr} {on : Bool} (r : RI a F i out on) (h : F i = false) : RI a F (i + 1) out false := by
  obtain ⟨h1, h2, h3, h4, h5, h6⟩ := r
  refine ⟨fun p hp => ?_, h2, fun j hj => ?_, fun h => (by cases h), fun _ p hp => ?_, by omega⟩
  · obtain ⟨x, y, z⟩ := h1 p hp
    exact ⟨x, y, by omega⟩
  · by_cases e : j = i
    · subst e
      rw [h]
      exact inP_out fun p hp => (h1 p hp).2.2
    · exact h3 j (by omega)
  · have := (h1 p hp).2.2
    omega
theorem RI.ext {a : Int} {F : Nat → Bool} {i : Nat} {pre : List Pr} {lo : Int} (r : RI a F i (pre ++ [⟨lo, a + i - 1⟩]) true) (h : F i = true) : RI a F (i + 1) (pre ++ [⟨lo, a + i⟩]) true := by
  obtain ⟨h1, h2, h3, h4, h5, h6⟩ := r
  obtain ⟨l1, l2, _⟩ := h1 ⟨lo, a + i - 1⟩ (by simp)
  simp only at l1 l2
  rw [List.pairwise_append] at h2
  refine ⟨fun p hp => ?_, ?_, fun j hj => ?_, fun _ => ⟨pre, lo, by congr 3; omega⟩, fun h => by (cases h), by simp at h6 ⊢; omega⟩
  · rcases List.mem_append.1 hp with hp | hp
    · obtain ⟨x, y, z⟩ := h1 p (List.mem_append.2 (.inl hp))
      exact ⟨x, y, by omega⟩
    · rw [List.mem_singleton.1 hp]
      simp only
      omega
  · rw [List.pairwise_append]
    refine ⟨h2.1, List.pairwise_singleton _ _, fun p hp q hq => ?_⟩
    rw [List.mem_singleton.1 hq]
    exact h2.2.2 p hp ⟨lo, a + i - 1⟩ (by simp)
  · rw [inP_app]
    by_cases e : j = i
    · subst e
      have : inP [(⟨lo, a + j⟩ : Pr)] (a + j) = true := by simp [inP]; omega
      rw [this, h, Bool.or_true]
    · have := h3 j (by omega)
      rw [inP_app] at this
      rw [← this]
      congr 1
      simp only [inP, List.any_cons, List.any_nil, Bool.or_false]
      congr 1
      exact decide_eq_decide.2 ⟨fun _ => by omega, fun _ => by omega⟩
theorem RI.new {a : Int} {F : Nat → Bool} {i : Nat} {out : List Pr} (r : RI a F i out false) (h : F i = true) : RI a F (i + 1) (out ++ [⟨a + i, a + i⟩]) true := by
  obtain ⟨h1, h2, h3, h4, h5, h6⟩ := r
  refine ⟨fun p hp => ?_, ?_, fun j hj => ?_, fun _ => ⟨out, a + i, by congr 3; omega⟩, fun h => by (cases h), by simp; omega⟩
  · rcases List.mem_append.1 hp with hp | hp
    · obtain ⟨x, y, z⟩ := h1 p hp
      exact ⟨x, y, by omega⟩
    · rw [List.mem_singleton.1 hp]
      simp only
      omega
  · rw [List.pairwise_append]
    refine ⟨h2, List.pairwise_singleton _ _, fun p hp q hq => ?_⟩
    rw [List.mem_singleton.1 hq]
    exact h5 rfl p hp
  · rw [inP_app]
    by_cases e : j = i
    · subst e
      have : inP [(⟨a + j, a + j⟩ : Pr)] (a + j) = true := by simp [inP]
      rw [this, h, Bool.or_true]
    · rw [h3 j (by omega)]
      have : inP [(⟨a + i, a + i⟩ : Pr)] (a + j) = false := by simp [inP]; omega
      rw [this, Bool.or_false]
/-- The boxes: the runs, and whether the last goes on. -/
structure RB (g : Heap) (out : List Pr) (on : Bool) : Prop where
  r1 : g.row 1 = some [.bool on]
  r0 : ∃ b, g.row 0 = some [ovP out b] ∧ (out ≠ [] → g.row b = some (prs out) ∧ 2 ≤ b)
theorem RB.app {g : Heap} {out : List Pr} {on : Bool} (x : RB g out on) (J : Heap) : RB (g ++ J) out on := by
  obtain ⟨r1, b, r0, rb⟩ := x
  refine ⟨by rw [row_app (row_lt r1)]; exact r1, b, by rw [row_app (row_lt r0)]; exact r0, fun c => ?_⟩
  obtain ⟨q1, q2⟩ := rb c
  exact ⟨by rw [row_app (row_lt q1)]; exact q1, q2⟩
theorem prs_ext (pre : List Pr) (lo hi n : Int) : (prs (pre ++ [⟨lo, hi⟩])).set (pre.length * 2 + 1) (.int .u64 n) = prs (pre ++ [⟨lo, n⟩]) := by
  rw [prs_app, prs_app, List.set_append_right _ _ (by rw [prs_len]; omega)]
  congr 1
  rw [prs_len, show pre.length * 2 + 1 - pre.length * 2 = 1 by omega]
  rfl
theorem Runs1_on {g : Heap} {pre : List Pr} {lo hi n : Int} (x : RB g (pre ++ [⟨lo, hi⟩]) true) (h0 : 0 < n) (h1 : n < 18446744073709551616) (he : hi = n - 1) (hl : pre.length ≤ 1000) :
    ∃ g', RB g' (pre ++ [⟨lo, n⟩]) true ∧ Run T f_resend_Runs_1 [.int .u64 n, .ptr 0 0, .ptr 1 0] g (.tup []) g' := by
  obtain ⟨r1, b, r0, rb⟩ := x
  obtain ⟨q1, q2⟩ := rb (by simp)
  have ne : ¬ pre ++ [(⟨lo, hi⟩ : Pr)] = [] := by simp
  simp [ovP] at r0
  have pl : (prs (pre ++ [⟨lo, hi⟩])).length = pre.length * 2 + 2 := by rw [prs_len]; simp; omega
  have ge : (prs (pre ++ [⟨lo, hi⟩]))[pre.length * 2 + 1]? = some (.int .u64 hi) := by
    rw [prs_app, List.getElem?_append_right (by rw [prs_len]; omega), prs_len, show pre.length * 2 + 1 - pre.length * 2 = 1 by omega]
    rfl
  subst he
  have qs := prs_ext pre lo (n - 1) n
  have l0 := row_lt r0
  have l1 := row_lt r1
  have lb := row_lt q1
  have rbf : RB (g.set b (some (prs (pre ++ [⟨lo, n⟩])))) (pre ++ [⟨lo, n⟩]) true :=
    ⟨by rw [row_ne (by omega)]; exact r1, b, by rw [row_ne (by omega), r0]; simp [ovP], fun _ => ⟨row_set lb, q2⟩⟩
  have hr : ∃ v g', (v = .tup [] ∧ RB g' (pre ++ [⟨lo, n⟩]) true) ∧ Run T f_resend_Runs_1 [.int .u64 n, .ptr 0 0, .ptr 1 0] g v g' := by
    refine Run.startP t_resend_Runs_1 ?_
    unfold k_resend_Runs_1
    simp (disch := omega) [r0, r1, h0, q1, pl, ge, qs]
    exact rbf
  obtain ⟨v, g', ⟨rfl, q⟩, r⟩ := hr
  exact ⟨g', q, r⟩
theorem Runs1_off {g : Heap} {out : List Pr} {n : Int} (x : RB g out false) (hl : out.length ≤ 1000) :
    ∃ g', RB g' (out ++ [⟨n, n⟩]) true ∧ Run T f_resend_Runs_1 [.int .u64 n, .ptr 0 0, .ptr 1 0] g (.tup []) g' := by
  obtain ⟨r1, b, r0, rb⟩ := x
  have l0 := row_lt r0
  have l1 := row_lt r1
  have hr : ∃ v g', (v = .tup [] ∧ RB g' (out ++ [⟨n, n⟩]) true) ∧ Run T f_resend_Runs_1 [.int .u64 n, .ptr 0 0, .ptr 1 0] g v g' := by
    refine Run.startP t_resend_Runs_1 ?_
    unfold k_resend_Runs_1
    by_cases c : out = []
    · subst c
      simp [ovP] at r0
      have s1 : ∀ J, Heap.row (g.set 0 (some [.hs 2 g.length 0 1]) ++ J) 1 = some [.bool false] := fun J => by rw [row_app (by simpa using l1), row_ne (by omega)]; exact r1
      simp (disch := omega) [r0, r1, s1]
      refine ⟨by rw [row_set (by simp; omega)], g.length, by rw [row_ne (by omega), row_app (by simpa using l0), row_set l0]; rfl, fun _ => ⟨?_, by omega⟩⟩
      rw [row_ne (by omega), row_end (by simp)]
      rfl
    · obtain ⟨q1, q2⟩ := rb c
      simp [ovP, c] at r0
      have b1 : (out.length * 2 + 2) * 16 ≤ 140737488355328 := by omega
      have s0 : ∀ J, Heap.row (g.set b none ++ J) 0 = some [.hs 2 b 0 out.length] := fun J => by rw [row_app (by simpa using l0), row_ne (by omega)]; exact r0
      have s1 : ∀ J, Heap.row (g.set b none ++ J) 1 = some [.bool false] := fun J => by rw [row_app (by simpa using l1), row_ne (by omega)]; exact r1
      simp (disch := omega) [r0, r1, q1, prs_len, b1, s0, s1]
      refine ⟨by rw [row_set (by simp; omega)], g.length, by rw [row_ne (by omega), row_set (by simp)]; simp [ovP], fun _ => ⟨?_, by omega⟩⟩
      rw [row_ne (by omega), row_ne (by omega), row_end (by simp), prs_app]
      rfl
  obtain ⟨v, g', ⟨rfl, q⟩, r⟩ := hr
  exact ⟨g', q, r⟩
/-- Frames whose numbers follow. -/
def nums (l : List Fq) (a : Int) : Prop := ∀ j (h : j < l.length), l[j].num = a + j
def lostF (l : List Fq) (j : Nat) : Bool := (l[j]?).any fun f => decide (f.st ≠ 0)
theorem Runs_loop (l : List Fq) (a : Int) (hl : l.length ≤ 256) (hn : nums l a) (ha : 0 ≤ a) (hb : a + l.length ≤ 18446744073709551616) : ∀ (m i : Nat) (g : Heap) (out : List Pr) (on : Bool), i + m = l.length → RB g out on → RI a (lostF l) i out on → ∀ ks Q,
    (∀ g out on, RB g out on → RI a (lostF l) l.length out on → ∀ e, Xk T ks (.x 0) ([(3, .ptr 0 0)] ++ e) g Q) →
    Xc T l_resend_Runs_0 ks [(3, .ptr 0 0), (4, .ptr 1 0), (5, .fn f_resend_Runs_1 [.ptr 0 0, .ptr 1 0]), (9, .ps 4 (fqs l)), (10, .int .i64 l.length), (11, .int .i64 i)] g Q := by
  intro m
  induction m with
  | zero =>
    intro i g out on hi x r ks Q hQ
    rw [L_resend_Runs_0]; unfold bl_resend_Runs_0
    have c : ¬ (i : Int) < l.length := by omega
    have e : i = l.length := by omega
    rw [e] at r
    simp (disch := omega) [c]
    have := hQ g out on x r [(4, .ptr 1 0), (5, .fn f_resend_Runs_1 [.ptr 0 0, .ptr 1 0]), (9, .ps 4 (fqs l)), (10, .int .i64 l.length), (11, .int .i64 i), (12, .bool false)]
    simpa using this
  | succ m ih =>
    intro i g out on hi x r ks Q hQ
    rw [L_resend_Runs_0]; unfold bl_resend_Runs_0
    have c : (i : Int) < l.length := by omega
    have hil : i < l.length := by omega
    have gt := fqs_get l i hil
    have hnum := hn i hil
    have hlo : lostF l i = decide (l[i].st ≠ 0) := by unfold lostF; rw [List.getElem?_eq_getElem hil]; rfl
    have rlen := r.len
    generalize l[i] = f at *
    have c0 : f.cs[0]? = some (.int .u64 f.num) := rfl
    have c1 : f.cs[1]? = some (.int .i64 f.st) := rfl
    have x' := x.app [some f.cs]
    have rf : Heap.row (g ++ [some f.cs]) g.length = some f.cs := row_end rfl
    by_cases cs : f.st = 0
    · have ih' := fun g' x' => ih (i + 1) g' out false (by omega) x' (r.held (by rw [hlo]; simp [cs])) ks Q hQ
      obtain ⟨r1, b, r0, rb⟩ := x'
      have l1 := row_lt r1
      have xs : RB ((g ++ [some f.cs]).set 1 (some [.bool false])) out false := ⟨row_set l1, b, by rw [row_ne (by omega)]; exact r0, fun c => by
        obtain ⟨q1, q2⟩ := rb c
        exact ⟨by rw [row_ne (by omega)]; exact q1, q2⟩⟩
      simp (disch := omega) [fqs_len, c, gt, Fq.cl, Fq.on, Fq.tk, Fq.sp, rf, c1, cs, r1]
      simpa using ih' _ xs
    · simp (disch := omega) [fqs_len, c, gt, Fq.cl, Fq.on, Fq.tk, Fq.sp, rf, c0, c1, cs]
      rw [Xv_fn (hf := rfl)]
      simp only [List.cons_append, List.nil_append]
      cases on with
      | true =>
        obtain ⟨pre, lo, rfl⟩ := r.on1 rfl
        have pi : 0 < i := by simp at rlen; omega
        obtain ⟨g', x2, rr⟩ := Runs1_on (n := f.num) x' (by omega) (by omega) (by omega) (by simp at rlen; omega)
        rw [hnum] at x2
        have ih' := ih (i + 1) g' _ true (by omega) x2 (r.ext (by rw [hlo]; simp [cs])) ks Q hQ
        rw [Xf_run rr]
        simp (disch := omega)
        simpa using ih'
      | false =>
        obtain ⟨g', x2, rr⟩ := Runs1_off (n := f.num) x' (by omega)
        rw [hnum] at x2
        have ih' := ih (i + 1) g' _ true (by omega) x2 (r.new (by rw [hlo]; simp [cs])) ks Q hQ
        rw [Xf_run rr]
        simp (disch := omega)
        simpa using ih'
theorem Runs_run (l : List Fq) (a : Int) (hl : l.length ≤ 256) (hn : nums l a) (ha : 0 ≤ a) (hb : a + l.length ≤ 18446744073709551616) :
    ∃ out on h', RI a (lostF l) l.length out on ∧ Run T f_resend_Runs [.ps 4 (fqs l)] [] (.ps 2 (Pr.vs out)) h' := by
  have hr : ∃ v h', (∃ out on, v = .ps 2 (Pr.vs out) ∧ RI a (lostF l) l.length out on) ∧ Run T f_resend_Runs [.ps 4 (fqs l)] [] v h' := by
    refine Run.startP t_resend_Runs ?_
    unfold k_resend_Runs
    simp (disch := omega) [fqs_len]
    refine Runs_loop l a hl hn ha hb l.length 0 _ [] false (by omega) ⟨rfl, 0, rfl, fun c => absurd rfl c⟩ (RI.nil a _) _ _ fun g out on x r e => ?_
    obtain ⟨r1, b, r0, rb⟩ := x
    by_cases c : out = []
    · subst c
      simp [ovP] at r0
      simp (disch := omega) [r0]
      exact ⟨[], rfl, by cases on <;> simp [r]⟩
    · obtain ⟨q1, q2⟩ := rb c
      simp [ovP, c] at r0
      have fz := freezePr g b out q1 true
      simp only [Bool.true_or] at fz
      simp (disch := omega) [r0, fz]
      exact ⟨out, rfl, by cases on <;> simp [r]⟩
  obtain ⟨v, h', ⟨out, on, rfl, r⟩, rr⟩ := hr
  exact ⟨out, on, h', r, rr⟩
/-- How many frames have a state. -/
def cntQ (l : List Fq) (s : Int) : Nat := (l.filter fun f => decide (f.st = s)).length
theorem Count_loop (l : List Fq) (s : Int) (hl : l.length ≤ 1000) (h : Heap) : ∀ (m i : Nat) (g : Heap), i + m = l.length → ∀ ks Q,
    (∀ g e, Xk T ks (.x 0) ([(1, .int .i64 s), (5, .int .i64 (cntQ l s))] ++ e) g Q) →
    Xc T l_resend_Count_0 ks [(1, .int .i64 s), (5, .int .i64 (cntQ (l.take i) s)), (8, .ps 4 (fqs l)), (9, .int .i64 l.length), (10, .int .i64 i)] g Q := by
  intro m
  induction m with
  | zero =>
    intro i g hi ks Q hQ
    rw [L_resend_Count_0]; unfold bl_resend_Count_0
    have c : ¬ (i : Int) < l.length := by omega
    rw [List.take_of_length_le (by omega)]
    simp (disch := omega) [c]
    have := hQ g [(8, .ps 4 (fqs l)), (9, .int .i64 l.length), (10, .int .i64 i), (11, .bool false)]
    simpa using this
  | succ m ih =>
    intro i g hi ks Q hQ
    rw [L_resend_Count_0]; unfold bl_resend_Count_0
    have c : (i : Int) < l.length := by omega
    have hil : i < l.length := by omega
    have gt := fqs_get l i hil
    have ht : l.take (i + 1) = l.take i ++ [l[i]] := by rw [List.take_add_one, List.getElem?_eq_getElem hil]; rfl
    have hc : cntQ (l.take (i + 1)) s = cntQ (l.take i) s + if l[i].st = s then 1 else 0 := by
      rw [ht]
      unfold cntQ
      rw [List.filter_append, List.filter_cons, List.filter_nil]
      simp only [decide_eq_true_eq]
      split <;> simp
    have hb : cntQ (l.take i) s ≤ 1000 := Nat.le_trans (List.length_filter_le _ _) (by simp; omega)
    have ih' := fun g => ih (i + 1) g (by omega) ks Q hQ
    rw [hc] at ih'
    generalize l[i] = f at *
    have c1 : f.cs[1]? = some (.int .i64 f.st) := rfl
    have rf : Heap.row (g ++ [some f.cs]) g.length = some f.cs := row_end rfl
    by_cases cs : f.st = s
    · rw [if_pos cs] at ih'
      simp (disch := omega) [fqs_len, c, gt, Fq.cl, Fq.on, Fq.tk, Fq.sp, rf, c1, cs]
      simpa using ih' (g ++ [some f.cs])
    · rw [if_neg cs] at ih'
      simp (disch := omega) [fqs_len, c, gt, Fq.cl, Fq.on, Fq.tk, Fq.sp, rf, c1, cs]
      simpa using ih' (g ++ [some f.cs])
theorem Count_run (l : List Fq) (s : Int) (hl : l.length ≤ 1000) : ∃ h', Run T f_resend_Count [.ps 4 (fqs l), .int .i64 s] [] (.int .i64 (cntQ l s)) h' := by
  have hr : ∃ v h', v = .int .i64 (cntQ l s) ∧ Run T f_resend_Count [.ps 4 (fqs l), .int .i64 s] [] v h' := by
    refine Run.startP t_resend_Count ?_
    unfold k_resend_Count
    simp (disch := omega) [fqs_len]
    have := Count_loop l s hl [] l.length 0 [] (by omega)
    simp only [List.take_zero] at this
    refine this _ _ fun g e => ?_
    simp
  obtain ⟨v, h', rfl, r⟩ := hr
  exact ⟨h', r⟩
section
variable {ks : List Kt} {ops : List AOpr} {K : Kp} {e : Env} {h : Heap} {Q : Ex → Env → Heap → Prop} {d : Nat} {lent : Bool}
theorem Count_p (l : List Fq) (s : Int) (hl : l.length ≤ 1000) : Xp T f_resend_Count (some ([.ps 4 (fqs l), .int .i64 s], lent)) h (some d) ops K ks e Q = Xo T ops K ks ((d, .int .i64 (cntQ l s)) :: e) h Q := by
  obtain ⟨h', r⟩ := Count_run l s hl
  exact Xp_run r (by simp [fqs_hf]) rfl (by simp [scalar])
end
end Ev
