/- The reference's blocks: what is wrong, and lists with their sums. Blocks of any value: what the sum says; the reference's answer. Endpoint names: which are right. First blocks: what is wrong with them. First blocks laid. First blocks: values that can be laid; those that have a first block's shape. First blocks read. First blocks read: what the sum says. The law PrimaryPuts: the bytes of any first block, or what is wrong; read it is that block. Bundles: their cells; whether they are light. Bundles: what is wrong with one, told by the program. Bundles: the same ones are told to be the same; a block added. Bundles: the least number that no block has; a block added. A block added to a bundle. The law BundleAdds: any block added to any bundle. The law BundleAdds: a bundle and a block, read out of what is handed over. Bundles laid. Bundles read: the blocks behind the first one. Bundles read: the blocks behind the first one, one by one. Bundles laid and read. Digits of numbers. Keys of bundles. Keys of bundles; when they are over; their blocks. Bundles: when they are over, and the first block of a type. Blocks taken out of a slice of the heap. Blocks taken out of a bundle. Blocks taken out of a bundle. The law BundleLooks. The law BundleLooks, joined. The law BundleLooks, joined: keys, ends and blocks of any bundle. Each theorem states its own conditions. -/
import Derived.Test.YtienkohkbihdoaaGreatDoorKCode
import Derived.Test.YtienkohkbihdoaaGreatDoorKBlk
set_option linter.all false
namespace Ev
open Go
set_option maxRecDepth 10000
attribute [-simp] getElem?_pos getElem?_neg List.drop_one
/-- A block's value, as the reference has it. -/
def refT (ty nu fl : Int) (k : Nat) (s : List UInt8) : T6 := if k = 0 then node (vals ty nu fl k s) else blkT ty nu fl k s (sumB k (enc (blkT ty nu fl k s (List.replicate (widthN k) 0))))
theorem any_eql (t : T6) (h : t.k = 4) : anyV t = anyV (node t.l) ∧ enc t = enc (node t.l) := by
  obtain ⟨k, n, s, l⟩ := t
  have : k = 4 := h
  subst this
  exact ⟨rfl, by simp [T6.l, enc]⟩
def plainB (b : UInt8) : Bool := decide (33 ≤ b.toNat) && decide (b.toNat ≤ 126)
def plainS (s : List UInt8) : Bool := s.all plainB
section
variable {ks : List Kt} {ops : List AOpr} {K : Kp} {e : Env} {h : Heap} {Q : Ex → Env → Heap → Prop} {d : Nat}
end
/-- A name that stands for one. -/
def namedS (s : List UInt8) : Bool := decide (3 ≤ s.length) && decide (s.length ≤ 64) && decide (s.take 2 = [47, 47]) && plainS s
def eidV (sc : Int) (nm : List UInt8) (nd sv : Int) : V := .agg [.int .i64 sc, .str nm, .int .u64 nd, .int .u64 sv]
/-- Is an endpoint right? -/
def rightE (sc : Int) (nm : List UInt8) (nd sv : Int) : Bool := if sc = 2 then decide (nm = []) else decide (sc = 1) && decide (nd = 0) && decide (sv = 0) && (decide (nm = []) || namedS nm)
def txt6 (s : List UInt8) : T6 := .mk 3 0 s []
def eidT (sc : Int) (nm : List UInt8) (nd sv : Int) : T6 := node [num6 sc, if sc = 2 then node [num6 nd, num6 sv] else if nm = [] then num6 0 else txt6 nm]
theorem rightE_cases {sc : Int} {nm : List UInt8} {nd sv : Int} (h : rightE sc nm nd sv = true) : (sc = 2 ∧ nm = []) ∨ (sc = 1 ∧ nd = 0 ∧ sv = 0 ∧ (nm = [] ∨ namedS nm = true)) := by
  unfold rightE at h
  split at h
  · rename_i c
    exact .inl ⟨c, by simpa using h⟩
  · simp only [Bool.and_eq_true, decide_eq_true_eq, Bool.or_eq_true] at h
    exact .inr ⟨h.1.1.1, h.1.1.2, h.1.2, h.2⟩
structure E4 where
  sc : Int
  nm : List UInt8
  nd : Int
  sv : Int
/-- A first block. -/
structure PP where
  fl : Int
  crc : Int
  d : E4
  s : E4
  r : E4
  st : Int
  sq : Int
  life : Int
  off : Int
  tot : Int
def PP.v (p : PP) : V := .agg [.int .u64 p.fl, .int .i64 p.crc, .int .i64 p.d.sc, .str p.d.nm, .int .u64 p.d.nd, .int .u64 p.d.sv, .int .i64 p.s.sc, .str p.s.nm, .int .u64 p.s.nd, .int .u64 p.s.sv, .int .i64 p.r.sc, .str p.r.nm, .int .u64 p.r.nd, .int .u64 p.r.sv, .int .u64 p.st, .int .u64 p.sq, .int .u64 p.life, .int .u64 p.off, .int .u64 p.tot]
theorem PP.hf (p : PP) : V.hf p.v = true := by simp [PP.v]
theorem wrap_nat (n : Nat) (h : n < 18446744073709551616) : IntKind.u64.wrap (n : Int) = n := by
  simp [IntKind.wrap, IntKind.bits, IntKind.signed]; omega
theorem ofInt_nat (n : Nat) (h : n < 18446744073709551616) : (BitVec.ofInt 64 (n : Int)).toNat = n := by
  rw [BitVec.toNat_ofInt]
  simp
  omega
theorem and_nat (n m : Nat) (hn : n < 18446744073709551616) (hm : m < 18446744073709551616) : IntKind.u64.wrap ↑(BitVec.ofInt IntKind.u64.bits (n : Int) &&& BitVec.ofInt IntKind.u64.bits (m : Int)).toNat = ((n &&& m : Nat) : Int) := by
  show IntKind.u64.wrap ↑(BitVec.ofInt 64 (n : Int) &&& BitVec.ofInt 64 (m : Int)).toNat = _
  rw [BitVec.toNat_and, ofInt_nat n hn, ofInt_nat m hm]
  exact wrap_nat _ (Nat.lt_of_le_of_lt Nat.and_le_left hn)
theorem and1 (n : Nat) : n &&& 1 = n % 2 := Nat.and_one_is_mod n
def fragB (fl : Int) : Bool := decide (fl % 2 = 1)
def wholeB (fl : Int) : Bool := decide (fl / 4 % 2 = 1)
def repB (fl : Int) : Bool := decide (fl / 16384 % 32 ≠ 0)
theorem op_and1 (q : EqK) (fl : Int) (h0 : 0 ≤ fl) (h1 : fl ≤ 18446744073709551615) : binV .and q (.int .u64 fl) (.int .u64 1) = some (.int .u64 (if fragB fl then 1 else 0)) := by
  obtain ⟨n, rfl⟩ := Int.eq_ofNat_of_zero_le h0
  have := and_nat n 1 (by omega) (by omega)
  rw [bin_and]
  rw [show ((1 : Int)) = ((1 : Nat) : Int) from rfl, this, and1]
  congr 2
  unfold fragB
  by_cases c : n % 2 = 1
  · rw [if_pos (by simp; omega)]; omega
  · rw [if_neg (by simp; omega)]; omega
theorem Fragment_run (p : PP) (h0 : 0 ≤ p.fl) (h1 : p.fl ≤ 18446744073709551615) (h : Heap) : ∃ h', Run T f_primary_Fragment [p.v] h (.bool (fragB p.fl)) h' := by
  refine Run.startE t_primary_Fragment ?_
  unfold k_primary_Fragment PP.v
  have o1 := op_and1 .int p.fl h0 h1
  cases hF : fragB p.fl <;> rw [hF] at o1 <;> simp (disch := omega) [o1]
/-- What is wrong with a first block. -/
def chkP (p : PP) : Int :=
  if p.crc < 0 ∨ 2 < p.crc ∨ ¬ (rightE p.d.sc p.d.nm p.d.nd p.d.sv = true ∧ rightE p.s.sc p.s.nm p.s.nd p.s.sv = true ∧ rightE p.r.sc p.r.nm p.r.nd p.r.sv = true) ∨ 2097152 ≤ p.fl then 2
  else if (fragB p.fl = true ∧ (wholeB p.fl = true ∨ p.tot ≤ p.off)) ∨ (fragB p.fl = false ∧ (p.off ≠ 0 ∨ p.tot ≠ 0)) then 6
  else if p.s.sc = 1 ∧ p.s.nm = [] ∧ (wholeB p.fl = false ∨ fragB p.fl = true ∨ repB p.fl = true) then 6 else 0
structure PPok (p : PP) : Prop where
  f0 : 0 ≤ p.fl
  f1 : p.fl ≤ 18446744073709551615
  o0 : 0 ≤ p.off
  t0 : 0 ≤ p.tot
  n1 : p.d.nm.length ≤ 140737488351232
  n2 : p.s.nm.length ≤ 140737488351232
  n3 : p.r.nm.length ≤ 140737488351232
def stT (a b : Int) : T6 := node [num6 a, num6 b]
def primL8 (p : PP) : List T6 := [num6 7, num6 p.fl, num6 p.crc, eidT p.d.sc p.d.nm p.d.nd p.d.sv, eidT p.s.sc p.s.nm p.s.nd p.s.sv, eidT p.r.sc p.r.nm p.r.nd p.r.sv, stT p.st p.sq, num6 p.life]
/-- A first block's values. -/
def primL (p : PP) : List T6 := primL8 p ++ (if fragB p.fl then [num6 p.off, num6 p.tot] else [])
/-- A list with its sum. -/
def refL (l : List T6) (k : Nat) : T6 := if k = 0 then node l else node (l ++ [byt6 (sumB k (enc (node (l ++ [byt6 (List.replicate (widthN k) 0)]))))])
def E4.cells (e : E4) : List V := [.int .i64 e.sc, .str e.nm, .int .u64 e.nd, .int .u64 e.sv]
theorem chk0_spec {p : PP} (h : chkP p = 0) : 0 ≤ p.crc ∧ p.crc ≤ 2 ∧ rightE p.d.sc p.d.nm p.d.nd p.d.sv = true ∧ rightE p.s.sc p.s.nm p.s.nd p.s.sv = true ∧ rightE p.r.sc p.r.nm p.r.nd p.r.sv = true := by
  unfold chkP at h
  split at h
  · cases h
  · rename_i c
    have c1 : ¬ p.crc < 0 := fun k => c (.inl k)
    have c2 : ¬ 2 < p.crc := fun k => c (.inr (.inl k))
    have c3 := Decidable.not_not.1 (fun k => c (.inr (.inr (.inl k))))
    exact ⟨by omega, by omega, c3.1, c3.2.1, c3.2.2⟩
def u64B (n : Int) : Prop := 0 ≤ n ∧ n ≤ 18446744073709551615
structure E4.B (e : E4) : Prop where
  nd : u64B e.nd
  sv : u64B e.sv
  r : rightE e.sc e.nm e.nd e.sv = true
structure PPB (p : PP) : Prop where
  fl : u64B p.fl
  c0 : 0 ≤ p.crc
  c2 : p.crc ≤ 2
  d : p.d.B
  s : p.s.B
  r : p.r.B
  st : u64B p.st
  sq : u64B p.sq
  life : u64B p.life
  off : u64B p.off
  tot : u64B p.tot
theorem named_len {s : List UInt8} (h : namedS s = true) : s.length ≤ 64 ∧ plainS s = true := by
  simp only [namedS, Bool.and_eq_true, decide_eq_true_eq] at h
  exact ⟨h.1.1.2, h.2⟩
structure Small (l : List T6) (a b c : Nat) : Prop where
  w : T6.ws l ≤ a
  ok : T6.oks l
  r : rgts l = true
  d : dps l ≤ b
  c : cnts l ≤ c
theorem Small.app {l m : List T6} {a b c a' b' c' : Nat} (h : Small l a b c) (k : Small m a' b' c') : Small (l ++ m) (a + a') (max b b') (c + c') where
  w := by have := h.w; have := k.w; rw [ws_app]; omega
  ok := (oks_app _ _).2 ⟨h.ok, k.ok⟩
  r := by rw [rgts_app, h.r, k.r]; rfl
  d := by have := h.d; have := k.d; rw [dps_app]; omega
  c := by have := h.c; have := k.c; rw [cnts_app]; omega
theorem Small.node {l : List T6} {a b c : Nat} (h : Small l a b c) : Small [Ev.node l] (a + 1) (b + 1) (c + 1) where
  w := by have := h.w; simp only [T6.ws, T6.w, List.length_nil]; omega
  ok := ⟨⟨by omega, by omega, by simp, h.ok⟩, trivial⟩
  r := by simp [rgts, rgt, h.r]
  d := by have := h.d; have := dps_le l; simp only [dps, dp, if_true]; omega
  c := by have := h.c; simp only [cnts, cnt, if_true]; omega
theorem E4.B.len {e : E4} (h : e.B) : e.nm.length ≤ 140737488351232 := by
  rcases rightE_cases h.r with ⟨_, e2⟩ | ⟨_, _, _, e4⟩
  · rw [e2]; simp
  · rcases e4 with k | k
    · rw [k]; simp
    · have := (named_len k).1; omega
def E4.v (e : E4) : V := eidV e.sc e.nm e.nd e.sv
theorem PPB.ok {p : PP} (b : PPB p) : PPok p where
  f0 := b.fl.1
  f1 := b.fl.2
  o0 := b.off.1
  t0 := b.tot.1
  n1 := b.d.len
  n2 := b.s.len
  n3 := b.r.len
/-- Lists whose values are the same, and their bytes. -/
def Sims (l m : List T6) : Prop := anys l = anys m ∧ encs l = encs m ∧ l.length = m.length
theorem Sims.nil : Sims [] [] := ⟨rfl, rfl, rfl⟩
theorem Sims.cons {a b : T6} {l m : List T6} (h : anyV a = anyV b ∧ enc a = enc b) (k : Sims l m) : Sims (a :: l) (b :: m) :=
  ⟨by simp only [anys, h.1, k.1], by simp only [encs, h.2, k.2.1], by simp only [List.length_cons, k.2.2]⟩
theorem Sims.node {t : T6} {m : List T6} (h4 : t.k = 4) (h : Sims t.l m) : anyV t = anyV (Ev.node m) ∧ enc t = enc (Ev.node m) := by
  have q := any_eql t h4
  exact ⟨q.1.trans (by rw [any_node, any_node, h.1]), q.2.trans (by rw [enc_node, enc_node, h.2.1, h.2.2])⟩
/-- What a parameter's numbers are. -/
structure PPin (p : PP) : Prop where
  fl : u64B p.fl
  d1 : u64B p.d.nd
  d2 : u64B p.d.sv
  s1 : u64B p.s.nd
  s2 : u64B p.s.sv
  r1 : u64B p.r.nd
  r2 : u64B p.r.sv
  st : u64B p.st
  sq : u64B p.sq
  life : u64B p.life
  off : u64B p.off
  tot : u64B p.tot
  n1 : p.d.nm.length ≤ 140737488351232
  n2 : p.s.nm.length ≤ 140737488351232
  n3 : p.r.nm.length ≤ 140737488351232
theorem PPin.ok {p : PP} (h : PPin p) : PPok p := ⟨h.fl.1, h.fl.2, h.off.1, h.tot.1, h.n1, h.n2, h.n3⟩
theorem PPin.B {p : PP} (h : PPin p) (hc : chkP p = 0) : PPB p := by
  obtain ⟨c0, c2, h1, h2, h3⟩ := chk0_spec hc
  exact ⟨h.fl, c0, c2, ⟨h.d1, h.d2, h1⟩, ⟨h.s1, h.s2, h2⟩, ⟨h.r1, h.r2, h3⟩, h.st, h.sq, h.life, h.off, h.tot⟩
abbrev sh10 : List CS := [.i .u64, .i .i64, .i .i64, .s, .i .u64, .i .u64, .i .i64, .s, .i .u64, .i .u64, .i .i64, .s, .i .u64, .i .u64, .i .u64, .i .u64, .i .u64, .i .u64, .i .u64]
theorem readPP (vs : List V) (hr : Row sh10 vs) : ∃ p : PP, V.agg vs = p.v ∧ PPin p := by
  obtain ⟨v0, r0, rfl, t0, hr⟩ := hr.cons
  obtain ⟨v1, r1, rfl, t1, hr⟩ := hr.cons
  obtain ⟨v2, r2, rfl, t2, hr⟩ := hr.cons
  obtain ⟨v3, r3, rfl, t3, hr⟩ := hr.cons
  obtain ⟨v4, r4, rfl, t4, hr⟩ := hr.cons
  obtain ⟨v5, r5, rfl, t5, hr⟩ := hr.cons
  obtain ⟨v6, r6, rfl, t6, hr⟩ := hr.cons
  obtain ⟨v7, r7, rfl, t7, hr⟩ := hr.cons
  obtain ⟨v8, r8, rfl, t8, hr⟩ := hr.cons
  obtain ⟨v9, r9, rfl, t9, hr⟩ := hr.cons
  obtain ⟨v10, r10, rfl, t10, hr⟩ := hr.cons
  obtain ⟨v11, r11, rfl, t11, hr⟩ := hr.cons
  obtain ⟨v12, r12, rfl, t12, hr⟩ := hr.cons
  obtain ⟨v13, r13, rfl, t13, hr⟩ := hr.cons
  obtain ⟨v14, r14, rfl, t14, hr⟩ := hr.cons
  obtain ⟨v15, r15, rfl, t15, hr⟩ := hr.cons
  obtain ⟨v16, r16, rfl, t16, hr⟩ := hr.cons
  obtain ⟨v17, r17, rfl, t17, hr⟩ := hr.cons
  obtain ⟨v18, r18, rfl, t18, hr⟩ := hr.cons
  obtain rfl := hr.none
  obtain ⟨x0, rfl, a0, b0⟩ := t0.int
  obtain ⟨x1, rfl, a1, b1⟩ := t1.int
  obtain ⟨x2, rfl, a2, b2⟩ := t2.int
  obtain ⟨x3, rfl, a3⟩ := t3.str
  obtain ⟨x4, rfl, a4, b4⟩ := t4.int
  obtain ⟨x5, rfl, a5, b5⟩ := t5.int
  obtain ⟨x6, rfl, a6, b6⟩ := t6.int
  obtain ⟨x7, rfl, a7⟩ := t7.str
  obtain ⟨x8, rfl, a8, b8⟩ := t8.int
  obtain ⟨x9, rfl, a9, b9⟩ := t9.int
  obtain ⟨x10, rfl, a10, b10⟩ := t10.int
  obtain ⟨x11, rfl, a11⟩ := t11.str
  obtain ⟨x12, rfl, a12, b12⟩ := t12.int
  obtain ⟨x13, rfl, a13, b13⟩ := t13.int
  obtain ⟨x14, rfl, a14, b14⟩ := t14.int
  obtain ⟨x15, rfl, a15, b15⟩ := t15.int
  obtain ⟨x16, rfl, a16, b16⟩ := t16.int
  obtain ⟨x17, rfl, a17, b17⟩ := t17.int
  obtain ⟨x18, rfl, a18, b18⟩ := t18.int
  exact ⟨⟨x0, x1, ⟨x2, x3, x4, x5⟩, ⟨x6, x7, x8, x9⟩, ⟨x10, x11, x12, x13⟩, x14, x15, x16, x17, x18⟩, rfl, ⟨⟨a0, b0⟩, ⟨a4, b4⟩, ⟨a5, b5⟩, ⟨a8, b8⟩, ⟨a9, b9⟩, ⟨a12, b12⟩, ⟨a13, b13⟩, ⟨a14, b14⟩, ⟨a15, b15⟩, ⟨a16, b16⟩, ⟨a17, b17⟩, ⟨a18, b18⟩, a3, a7, a11⟩⟩
structure B5 where
  ty : Int
  nu : Int
  fl : Int
  k : Int
  s : List UInt8
def B5.v (x : B5) : V := blkV x.ty x.nu x.fl x.k x.s
def b5s (l : List B5) : List V := l.map B5.v
theorem b5s_len (l : List B5) : (b5s l).length = l.length := by simp [b5s]
theorem b5s_get (l : List B5) (i : Nat) (h : i < l.length) : (b5s l)[i]? = some (blkV l[i].ty l[i].nu l[i].fl l[i].k l[i].s) := by rw [b5s, List.getElem?_map, List.getElem?_eq_getElem h]; rfl
theorem b5_hf (x : B5) : V.hf x.v = true := by simp [B5.v, blkV]
theorem b5s_hfs (l : List B5) : V.hfs (b5s l) = true := by
  induction l with
  | nil => rfl
  | cons x l ih => show (x.v.hf && V.hfs (b5s l)) = true; rw [b5_hf, ih]; rfl
structure BB where
  p : PP
  bl : List B5
  pay : B5
def PP.cells (p : PP) : List V := [.int .u64 p.fl, .int .i64 p.crc, .int .i64 p.d.sc, .str p.d.nm, .int .u64 p.d.nd, .int .u64 p.d.sv, .int .i64 p.s.sc, .str p.s.nm, .int .u64 p.s.nd, .int .u64 p.s.sv, .int .i64 p.r.sc, .str p.r.nm, .int .u64 p.r.nd, .int .u64 p.r.sv, .int .u64 p.st, .int .u64 p.sq, .int .u64 p.life, .int .u64 p.off, .int .u64 p.tot]
def BB.cells (b : BB) : List V := [.int .u64 b.p.fl, .int .i64 b.p.crc, .int .i64 b.p.d.sc, .str b.p.d.nm, .int .u64 b.p.d.nd, .int .u64 b.p.d.sv, .int .i64 b.p.s.sc, .str b.p.s.nm, .int .u64 b.p.s.nd, .int .u64 b.p.s.sv, .int .i64 b.p.r.sc, .str b.p.r.nm, .int .u64 b.p.r.nd, .int .u64 b.p.r.sv, .int .u64 b.p.st, .int .u64 b.p.sq, .int .u64 b.p.life, .int .u64 b.p.off, .int .u64 b.p.tot, .ps 5 (b5s b.bl), .int .u64 b.pay.ty, .int .u64 b.pay.nu, .int .u64 b.pay.fl, .int .i64 b.pay.k, .str b.pay.s]
def BB.v (b : BB) : V := .agg b.cells
theorem BB.len (b : BB) : b.cells.length = 25 := rfl
theorem BB.c19 (b : BB) : b.cells[19]? = some (.ps 5 (b5s b.bl)) := rfl
theorem BB.c24 (b : BB) : b.cells[24]? = some (.str b.pay.s) := rfl
theorem BB.c3 (b : BB) : b.cells[3]? = some (.str b.p.d.nm) := rfl
theorem BB.c7 (b : BB) : b.cells[7]? = some (.str b.p.s.nm) := rfl
theorem BB.c11 (b : BB) : b.cells[11]? = some (.str b.p.r.nm) := rfl
theorem BB.tP (b : BB) : b.cells.take 19 = b.p.cells := rfl
theorem BB.tY (b : BB) : (b.cells.drop 20).take 5 = b.pay.v.cells := rfl
theorem BB.hf (b : BB) : V.hf b.v = true := by simp [BB.v, BB.cells, b5s_hfs]
theorem BB.one (b : BB) : b.cells.all V.one = true := by simp [BB.cells]
def lightL : List B5 → Bool
  | [] => true
  | x :: r => if 200 < x.s.length then false else lightL r
def lightB (b : BB) : Bool := if 20 < b.bl.length ∨ 500 < b.pay.s.length ∨ 100 < b.p.d.nm.length ∨ 100 < b.p.s.nm.length ∨ 100 < b.p.r.nm.length then false else lightL b.bl
theorem light_loop (b : BB) (hb : b.bl.length ≤ 20) (g : Heap) : ∀ (m i : Nat), i + m = b.bl.length → ∀ ks Q,
    (lightL (b.bl.drop i) = true → ∀ e, Xk T ks (.x 0) e (some b.cells :: g) Q) →
    (lightL (b.bl.drop i) = false → Xk T ks .r [(2, .bool false)] (some b.cells :: g) Q) →
    Xc T l_law11_Light_0 ks [(1, .ptr 0 0), (3, .int .i64 i)] (some b.cells :: g) Q := by
  have bl := b5s_len b.bl
  intro m
  induction m with
  | zero =>
    intro i hi ks Q h1 h2
    have e : b.bl.drop i = [] := List.drop_eq_nil_of_le (by omega)
    rw [e] at h1
    have e2 : (i : Int) = b.bl.length := by omega
    rw [L_law11_Light_0]; unfold bl_law11_Light_0
    simp (disch := omega) [bl, BB.c19, BB.c24, BB.c3, BB.c7, BB.c11, BB.len, e2]
    exact h1 rfl _
  | succ m ih =>
    intro i hi ks Q h1 h2
    have hl : i < b.bl.length := by omega
    have e := List.drop_eq_getElem_cons hl
    rw [e] at h1 h2
    have gt := b5s_get b.bl i hl
    have ih := ih (i + 1) (by omega) ks Q
    rw [show ((i + 1 : Nat) : Int) = (i : Int) + 1 from rfl] at ih
    rw [L_law11_Light_0]; unfold bl_law11_Light_0
    simp (disch := omega) [bl, BB.c19, BB.c24, BB.c3, BB.c7, BB.c11, BB.len, gt, blkV, hl]
    generalize b.bl[i] = x at *
    by_cases c : 200 < x.s.length
    · have c' : (200 : Int) < x.s.length := by omega
      simp (disch := omega) [c, c']
      exact h2 (by simp [lightL, c])
    · have c' : ¬ (200 : Int) < x.s.length := by omega
      simp (disch := omega) [c, c']
      exact ih (fun h => h1 (by simp [lightL, c, h])) (fun h => h2 (by simp [lightL, c, h]))
theorem Light_run (b : BB) (hn : b.p.d.nm.length ≤ 140737488351232 ∧ b.p.s.nm.length ≤ 140737488351232 ∧ b.p.r.nm.length ≤ 140737488351232) : ∃ h', Run T f_law11_Light [b.v] [] (.bool (lightB b)) h' := by
  obtain ⟨n1, n2, n3⟩ := hn
  have bl := b5s_len b.bl
  have lp := light_loop b
  refine Run.startE t_law11_Light ?_
  unfold k_law11_Light BB.v lightB
  by_cases g1 : 20 < b.bl.length
  · have g1' : (20 : Int) < b.bl.length := by omega
    simp (disch := omega) [bl, BB.c19, BB.c24, BB.c3, BB.c7, BB.c11, BB.len, BB.one, g1, g1']
  have g1' : ¬ (20 : Int) < b.bl.length := by omega
  by_cases g2 : 500 < b.pay.s.length
  · have g2' : (500 : Int) < b.pay.s.length := by omega
    simp (disch := omega) [bl, BB.c19, BB.c24, BB.c3, BB.c7, BB.c11, BB.len, BB.one, g1, g1', g2, g2']
  have g2' : ¬ (500 : Int) < b.pay.s.length := by omega
  by_cases g3 : 100 < b.p.d.nm.length
  · have g3' : (100 : Int) < b.p.d.nm.length := by omega
    simp (disch := omega) [bl, BB.c19, BB.c24, BB.c3, BB.c7, BB.c11, BB.len, BB.one, g1, g1', g2, g2', g3, g3']
  have g3' : ¬ (100 : Int) < b.p.d.nm.length := by omega
  by_cases g4 : 100 < b.p.s.nm.length
  · have g4' : (100 : Int) < b.p.s.nm.length := by omega
    simp (disch := omega) [bl, BB.c19, BB.c24, BB.c3, BB.c7, BB.c11, BB.len, BB.one, g1, g1', g2, g2', g3, g3', g4, g4']
  have g4' : ¬ (100 : Int) < b.p.s.nm.length := by omega
  by_cases g5 : 100 < b.p.r.nm.length
  · have g5' : (100 : Int) < b.p.r.nm.length := by omega
    simp (disch := omega) [bl, BB.c19, BB.c24, BB.c3, BB.c7, BB.c11, BB.len, BB.one, g1, g1', g2, g2', g3, g3', g4, g4', g5, g5']
  have g5' : ¬ (100 : Int) < b.p.r.nm.length := by omega
  simp (disch := omega) [bl, BB.c19, BB.c24, BB.c3, BB.c7, BB.c11, BB.len, BB.one, g1, g1', g2, g2', g3, g3', g4, g4', g5, g5']
  have := lp (by omega) [] b.bl.length 0 (by omega)
  refine this _ _ (fun h e => ?_) (fun h => ?_)
  · simp [show lightL b.bl = true from h]
  · simp [show lightL b.bl = false from h]
theorem blkV_cells (a b c k : Int) (s : List UInt8) : (blkV a b c k s).cells = [.int .u64 a, .int .u64 b, .int .u64 c, .int .i64 k, .str s] := rfl
theorem same_loop (b : BB) (hn : b.bl.length ≤ 1000000) : ∀ (m i : Nat), i + m = b.bl.length → ∀ ks Q,
    (∀ z, Xk T ks (.x 0) z [some b.cells, some b.cells] Q) →
    Xc T l_ref11_Same_0 ks [(2, .ptr 0 0), (3, .ptr 1 0), (5, .int .i64 i)] [some b.cells, some b.cells] Q := by
  have bl := b5s_len b.bl
  intro m
  induction m with
  | zero =>
    intro i hi ks Q h1
    have e2 : ¬ (i : Int) < b.bl.length := by omega
    have e3 : ¬ i < b.bl.length := by omega
    rw [L_ref11_Same_0]; unfold bl_ref11_Same_0
    simp (disch := omega) [bl, e2, e3, BB.c19]
    exact h1 _
  | succ m ih =>
    intro i hi ks Q h1
    have hl : i < b.bl.length := by omega
    have gt := b5s_get b.bl i hl
    have ih := ih (i + 1) (by omega)
    rw [show ((i + 1 : Nat) : Int) = (i : Int) + 1 from rfl] at ih
    rw [L_ref11_Same_0]; unfold bl_ref11_Same_0
    simp (disch := omega) [bl, gt, hl, blkV_cells, BB.c19]
    exact ih ks Q h1
theorem R11Same_run (b : BB) (hn : b.bl.length ≤ 1000000) : ∃ h', Run T f_ref11_Same [b.v, b.v] [] (.bool true) h' := by
  have bl := b5s_len b.bl
  have tp : V.agg (b.cells.take 19) = b.p.v := rfl
  have ty : V.agg ((b.cells.drop 20).take 5) = blkV b.pay.ty b.pay.nu b.pay.fl b.pay.k b.pay.s := rfl
  have lp := same_loop b hn b.bl.length 0 (by omega)
  refine Run.startE t_ref11_Same ?_
  unfold k_ref11_Same BB.v
  simp (disch := omega) [BB.len, BB.one, tp, ty, PP.v, blkV, BB.c19, bl]
  exact lp _ _ (fun z => by simp)
def fIdx (n : Int) : List B5 → Nat → Int
  | [], _ => -1
  | x :: r, i => if x.nu = n then i else fIdx n r (i + 1)
def xc (ty n fl k : Int) (s : List UInt8) : List V := [.int .u64 ty, .int .u64 n, .int .u64 fl, .int .i64 k, .str s]
def zB : BB := ⟨⟨0, 0, ⟨0, [], 0, 0⟩, ⟨0, [], 0, 0⟩, ⟨0, [], 0, 0⟩, 0, 0, 0, 0, 0⟩, [], ⟨0, 0, 0, 0, []⟩⟩
theorem BB.sp (a b : BB) : spliceL a.cells 0 b.cells = b.cells := rfl
theorem BB.tk (b : BB) : b.cells.take 25 = b.cells := rfl
theorem awake11 : ∃ h', Run T f_law11_awake [] [] (.bool true) h' := Run.closed (n := 200) (by kernel_rfl)
section
variable {ks : List Kt} {ops : List AOpr} {K : Kp} {e : Env} {h : Heap} {Q : Ex → Env → Heap → Prop} {d : Nat} {lent : Bool}
theorem awake11_p : Xp T f_law11_awake (some ([], lent)) h (some d) ops K ks e Q = Xo T ops K ks ((d, .bool true) :: e) h Q := by
  obtain ⟨h', r⟩ := awake11
  exact Xp_run r (by simp) rfl (by simp [scalar])
end
abbrev sh5 : List CS := [.i .u64, .i .u64, .i .u64, .i .i64, .s]
abbrev sh25 : List CS := [.i .u64, .i .i64, .i .i64, .s, .i .u64, .i .u64, .i .i64, .s, .i .u64, .i .u64, .i .i64, .s, .i .u64, .i .u64, .i .u64, .i .u64, .i .u64, .i .u64, .i .u64, .sl true 48 sh5, .i .u64, .i .u64, .i .u64, .i .i64, .s]
structure B5in (x : B5) : Prop where
  ty : u64B x.ty
  nu : u64B x.nu
  fl : u64B x.fl
  k1 : -9223372036854775808 ≤ x.k
  k2 : x.k ≤ 9223372036854775807
  s : x.s.length ≤ 140737488351232
theorem readB5 (vs : List V) (hr : Row sh5 vs) : ∃ x : B5, V.agg vs = x.v ∧ B5in x := by
  obtain ⟨v0, r0, rfl, t0, hr⟩ := hr.cons
  obtain ⟨v1, r1, rfl, t1, hr⟩ := hr.cons
  obtain ⟨v2, r2, rfl, t2, hr⟩ := hr.cons
  obtain ⟨v3, r3, rfl, t3, hr⟩ := hr.cons
  obtain ⟨v4, r4, rfl, t4, hr⟩ := hr.cons
  obtain rfl := hr.none
  obtain ⟨x0, rfl, a0, b0⟩ := t0.int
  obtain ⟨x1, rfl, a1, b1⟩ := t1.int
  obtain ⟨x2, rfl, a2, b2⟩ := t2.int
  obtain ⟨x3, rfl, a3, b3⟩ := t3.int
  obtain ⟨x4, rfl, a4⟩ := t4.str
  exact ⟨⟨x0, x1, x2, x3, x4⟩, rfl, ⟨⟨a0, b0⟩, ⟨a1, b1⟩, ⟨a2, b2⟩, a3, b3, a4⟩⟩
theorem readB5s : ∀ xs : List V, (∀ y ∈ xs, ∃ vs, y = .agg vs ∧ Row sh5 vs) → ∃ l : List B5, xs = b5s l ∧ ∀ y ∈ l, B5in y
  | [], _ => ⟨[], rfl, fun _ h => nomatch h⟩
  | x :: xs, h => by
    obtain ⟨vs, rfl, hr⟩ := h _ List.mem_cons_self
    obtain ⟨y, e, hy⟩ := readB5 vs hr
    obtain ⟨l, rfl, hl⟩ := readB5s xs (fun y hy => h y (List.mem_cons_of_mem _ hy))
    refine ⟨y :: l, by rw [e]; rfl, fun z hz => ?_⟩
    rcases List.mem_cons.1 hz with q | q
    · rw [q]; exact hy
    · exact hl z q
structure BBin (b : BB) : Prop where
  p : PPin b.p
  bl : ∀ y ∈ b.bl, B5in y
  pay : B5in b.pay
theorem row_cut {ss ts : List CS} {vs : List V} (hr : Row (ss ++ ts) vs) : ∃ as bs, vs = as ++ bs ∧ Row ss as ∧ Row ts bs := by
  refine ⟨vs.take ss.length, vs.drop ss.length, (List.take_append_drop _ _).symm, ?_, ?_⟩
  · obtain ⟨hl, h⟩ := hr
    rw [List.length_append] at hl
    refine ⟨by rw [List.length_take]; omega, fun j h1 h2 => ?_⟩
    have := h j (by rw [List.length_append]; omega) (by omega)
    rw [List.getElem_append_left h1] at this
    rw [List.getElem_take]; exact this
  · obtain ⟨hl, h⟩ := hr
    rw [List.length_append] at hl
    refine ⟨by rw [List.length_drop]; omega, fun j h1 h2 => ?_⟩
    have := h (ss.length + j) (by rw [List.length_append]; omega) (by omega)
    rw [List.getElem_append_right (by omega)] at this
    rw [List.getElem_drop]
    simpa using this
theorem readBB (vs : List V) (hr : Row sh25 vs) : ∃ b : BB, V.agg vs = b.v ∧ BBin b := by
  obtain ⟨as, bs, rfl, h1, h2⟩ := row_cut (ss := sh10) (ts := [.sl true 48 sh5, .i .u64, .i .u64, .i .u64, .i .i64, .s]) hr
  obtain ⟨p, ep, hp⟩ := readPP as h1
  obtain ⟨v, cs, rfl, tv, h3⟩ := h2.cons
  obtain ⟨y, ey, hy⟩ := readB5 cs h3
  obtain ⟨xs, rfl, _, hxs⟩ := tv.elems_agg
  obtain ⟨l, rfl, hl⟩ := readB5s xs hxs
  have e1 : as = p.cells := by have := V.agg.inj (ep.trans (show p.v = .agg p.cells from rfl)); exact this
  have e2 : cs = xc y.ty y.nu y.fl y.k y.s := V.agg.inj (ey.trans (show y.v = .agg (xc y.ty y.nu y.fl y.k y.s) from rfl))
  subst e1 e2
  exact ⟨⟨p, l, y⟩, rfl, ⟨hp, hl, hy⟩⟩
/-- A block that may be. -/
structure Bok (x : B5) : Prop where
  i : B5in x
  c : chkS x.nu x.k x.s = 0
def tX (x : B5) : T6 := refT x.ty x.nu x.fl x.k.toNat x.s
def encX (x : B5) : List UInt8 := enc (tX x)
theorem Bok.k {x : B5} (h : Bok x) : 0 ≤ x.k ∧ x.k ≤ 2 ∧ x.s.length ≤ 65536 := by
  have hc := h.c
  unfold chkS at hc
  split at hc
  · omega
  · split at hc
    · omega
    · omega
theorem Bok.vals {x : B5} (h : Bok x) : GoodL (Ev.vals x.ty x.nu x.fl x.k.toNat x.s) := by
  obtain ⟨k1, k2, k3⟩ := h.k
  exact vals_good _ _ _ _ _ h.i.ty.1 h.i.ty.2 h.i.nu.1 h.i.nu.2 h.i.fl.1 h.i.fl.2 (by omega) (by omega) (by omega)
theorem blkT_w (ty nu fl : Int) (k : Nat) (s S : List UInt8) : (blkT ty nu fl k s S).w ≤ s.length + S.length + 11 := by
  simp [blkT, node, Ev.vals, num6, byt6, T6.w, T6.ws]; omega
theorem Bok.w {x : B5} : (tX x).w ≤ x.s.length + 15 := by
  unfold tX refT
  have wl := widthN_le x.k.toNat
  split
  · simp [node, Ev.vals, num6, byt6, T6.w, T6.ws]; omega
  · have sl := sumB_len x.k.toNat (enc (blkT x.ty x.nu x.fl x.k.toNat x.s (List.replicate (widthN x.k.toNat) 0)))
    have := blkT_w x.ty x.nu x.fl x.k.toNat x.s (sumB x.k.toNat (enc (blkT x.ty x.nu x.fl x.k.toNat x.s (List.replicate (widthN x.k.toNat) 0))))
    omega
theorem Bok.len {x : B5} : (encX x).length ≤ 9 * (x.s.length + 15) := by
  have := enc_len (tX x)
  have := Bok.w (x := x)
  unfold encX
  omega
def flatB : List B5 → List V
  | [] => []
  | x :: r => xc x.ty x.nu x.fl x.k x.s ++ flatB r
theorem flatB_len : ∀ l : List B5, (flatB l).length = l.length * 5
  | [] => rfl
  | x :: r => by simp [flatB, flatB_len r, xc]; omega
theorem flatB_app (l m : List B5) : flatB (l ++ m) = flatB l ++ flatB m := by
  induction l with
  | nil => rfl
  | cons x l ih => simp [flatB, ih]
theorem chunkB : ∀ l : List B5, chunk 5 true l.length (flatB l) = b5s l
  | [] => rfl
  | x :: r => by
    have ih := chunkB r
    show (V.agg ((flatB (x :: r)).take 5)) :: chunk 5 true r.length ((flatB (x :: r)).drop 5) = _
    have e1 : (flatB (x :: r)).take 5 = xc x.ty x.nu x.fl x.k x.s := by
      show (xc x.ty x.nu x.fl x.k x.s ++ flatB r).take 5 = _
      exact List.take_left' rfl
    have e2 : (flatB (x :: r)).drop 5 = flatB r := by
      show (xc x.ty x.nu x.fl x.k x.s ++ flatB r).drop 5 = _
      exact List.drop_left' rfl
    rw [e1, e2, ih]
    rfl
/-- Where the blocks lie that were read. -/
def Hs (sv : V) (l : List B5) (h : Heap) : Prop := (sv = .hn 5 ∧ l = []) ∨ ∃ b, sv = .hs 5 b 0 l.length ∧ 2 ≤ b ∧ h.row b = some (flatB l)
theorem Hs.one {sv : V} {l : List B5} {h : Heap} (hs : Hs sv l h) : sv.one = true := by
  rcases hs with ⟨rfl, _⟩ | ⟨b, rfl, _⟩ <;> rfl
theorem Hs.len {sv : V} {l : List B5} {h : Heap} (hs : Hs sv l h) : lenV false sv = some (.int .i64 l.length) := by
  rcases hs with ⟨rfl, rfl⟩ | ⟨b, rfl, _⟩ <;> rfl
def tP (p : PP) : T6 := refL (primL p) p.crc.toNat
def dgt (n : Nat) : UInt8 := UInt8.ofNat (48 + n % 10)
def dg (n : Nat) : List UInt8 := if h : n < 10 then [dgt n] else dg (n / 10) ++ [dgt n]
theorem dg_lt (n : Nat) (h : n < 10) : dg n = [dgt n] := by rw [dg, dif_pos h]
theorem dg_ge (n : Nat) (h : ¬ n < 10) : dg n = dg (n / 10) ++ [dgt n] := by rw [dg, dif_neg h]
theorem dg_len : ∀ (n : Nat), n < 18446744073709551616 → (dg n).length ≤ 20 := by
  have : ∀ (k n : Nat), n < 10 ^ (k + 1) → (dg n).length ≤ k + 1 := by
    intro k
    induction k with
    | zero => intro n h; rw [dg_lt n (by omega)]; simp
    | succ k ih =>
      intro n h
      by_cases c : n < 10
      · rw [dg_lt n c]; simp
      · rw [dg_ge n c, List.length_append]
        have := ih (n / 10) (by rw [Nat.pow_succ] at h; omega)
        simp; omega
  intro n h
  exact this 19 n (by omega)
theorem dgt_int (n : Nat) : V.int .u8 (48 + (n : Int) % 10) = byteV (dgt n) := by
  unfold byteV dgt
  have : (UInt8.ofNat (48 + n % 10)).toNat = 48 + n % 10 := by simp; omega
  rw [this]
  congr 1
theorem tb1 (c : UInt8) : toBytes [byteV c] = some [c] := by have := bys_back [c]; simpa [bys] using this
theorem sdig_loop : ∀ (N n : Nat), n ≤ N → n < 18446744073709551616 → ∀ (s : List UInt8) (h : Heap) ks Q, s.length + (dg n).length ≤ 100 →
    (∀ (m : Nat) s' z, m < 10 → dgt m :: s' = dg n ++ s → Xk T ks (.x 0) ((0, .int .u64 m) :: (3, .str s') :: z) h Q) →
    Xc T l_stamp_digits_0 ks [(0, .int .u64 n), (3, .str s)] h Q := by
  intro N
  induction N with
  | zero =>
    intro n hn hb s h ks Q hl hx
    have : n = 0 := by omega
    subst this
    rw [L_stamp_digits_0]; unfold bl_stamp_digits_0
    simp (disch := omega)
    exact hx 0 s _ (by omega) (by rw [dg_lt 0 (by omega)]; rfl)
  | succ N ih =>
    intro n hn hb s h ks Q hl hx
    rw [L_stamp_digits_0]; unfold bl_stamp_digits_0
    by_cases c : n < 10
    · have c' : ¬ (9 : Int) < n := by omega
      have c'' : ¬ 9 < n := by omega
      simp (disch := omega) [c', c'']
      exact hx n s _ c (by rw [dg_lt n c]; rfl)
    · have c' : (9 : Int) < n := by omega
      have c'' : 9 < n := by omega
      have e := dg_ge n c
      rw [e, List.length_append] at hl
      simp only [List.length_cons, List.length_nil] at hl
      have q : (n : Int).tdiv 10 = ((n / 10 : Nat) : Int) := by rw [Int.tdiv_eq_ediv_of_nonneg (by omega)]; rfl
      have q2 : (n : Int).tmod 10 = (n : Int) % 10 := Int.tmod_eq_emod_of_nonneg (by omega)
      have w1 : IntKind.u64.wrap (48 + (n : Int) % 10) = 48 + (n : Int) % 10 := wrap_u64 (by omega) (by omega)
      have w2 : IntKind.u64.wrap ((n / 10 : Nat) : Int) = ((n / 10 : Nat) : Int) := wrap_u64 (by omega) (by omega)
      have db : toBytes [V.int .u8 (48 + (n : Int) % 10)] = some [dgt n] := by rw [dgt_int n]; exact tb1 _
      have := ih (n / 10) (by omega) (by omega) (dgt n :: s) h ks Q (by simp only [List.length_cons]; omega) (fun m s' z hm he => hx m s' z hm (by rw [he, e]; simp))
      simp (disch := first | omega | (simp; omega)) [c', c'', q, q2, w1, w2, db]
      simpa using this
theorem sdig_run (n : Nat) (hb : n < 18446744073709551616) (h : Heap) : ∃ h', Run T f_stamp_digits [.int .u64 n] h (.str (dg n)) h' := by
  have hl := dg_len n hb
  refine Run.startE t_stamp_digits ?_
  unfold k_stamp_digits
  simp (disch := omega)
  refine sdig_loop n n (Nat.le_refl _) hb [] _ _ _ (by simp; omega) (fun m s' z hm he => ?_)
  rw [List.append_nil] at he
  have m0 : (m : Int) % 10 = m := by omega
  have db : toBytes [V.int .u8 (48 + (m : Int))] = some [dgt m] := by have := dgt_int m; rw [m0] at this; rw [this]; exact tb1 _
  have w1 : IntKind.u64.wrap (48 + (m : Int)) = 48 + (m : Int) := wrap_u64 (by omega) (by omega)
  have sl : s'.length ≤ 19 := by have := congrArg List.length he; simp only [List.length_cons] at this; omega
  simp (disch := first | omega | (simp; omega)) [w1, db]
  exact he
theorem bdig_loop : ∀ (N n : Nat), n ≤ N → n < 18446744073709551616 → ∀ (s : List UInt8) (h : Heap) ks Q, s.length + (dg n).length ≤ 100 →
    (∀ (m : Nat) s' z, m < 10 → dgt m :: s' = dg n ++ s → Xk T ks (.x 0) ((0, .int .u64 m) :: (3, .str s') :: z) h Q) →
    Xc T l_bundle_digits_0 ks [(0, .int .u64 n), (3, .str s)] h Q := by
  intro N
  induction N with
  | zero =>
    intro n hn hb s h ks Q hl hx
    have : n = 0 := by omega
    subst this
    rw [L_bundle_digits_0]; unfold bl_bundle_digits_0
    simp (disch := omega)
    exact hx 0 s _ (by omega) (by rw [dg_lt 0 (by omega)]; rfl)
  | succ N ih =>
    intro n hn hb s h ks Q hl hx
    rw [L_bundle_digits_0]; unfold bl_bundle_digits_0
    by_cases c : n < 10
    · have c' : ¬ (9 : Int) < n := by omega
      have c'' : ¬ 9 < n := by omega
      simp (disch := omega) [c', c'']
      exact hx n s _ c (by rw [dg_lt n c]; rfl)
    · have c' : (9 : Int) < n := by omega
      have c'' : 9 < n := by omega
      have e := dg_ge n c
      rw [e, List.length_append] at hl
      simp only [List.length_cons, List.length_nil] at hl
      have q : (n : Int).tdiv 10 = ((n / 10 : Nat) : Int) := by rw [Int.tdiv_eq_ediv_of_nonneg (by omega)]; rfl
      have q2 : (n : Int).tmod 10 = (n : Int) % 10 := Int.tmod_eq_emod_of_nonneg (by omega)
      have w1 : IntKind.u64.wrap (48 + (n : Int) % 10) = 48 + (n : Int) % 10 := wrap_u64 (by omega) (by omega)
      have w2 : IntKind.u64.wrap ((n / 10 : Nat) : Int) = ((n / 10 : Nat) : Int) := wrap_u64 (by omega) (by omega)
      have db : toBytes [V.int .u8 (48 + (n : Int) % 10)] = some [dgt n] := by rw [dgt_int n]; exact tb1 _
      have := ih (n / 10) (by omega) (by omega) (dgt n :: s) h ks Q (by simp only [List.length_cons]; omega) (fun m s' z hm he => hx m s' z hm (by rw [he, e]; simp))
      simp (disch := first | omega | (simp; omega)) [c', c'', q, q2, w1, w2, db]
      simpa using this
theorem bdig_run (n : Nat) (hb : n < 18446744073709551616) (h : Heap) : ∃ h', Run T f_bundle_digits [.int .u64 n] h (.str (dg n)) h' := by
  have hl := dg_len n hb
  refine Run.startE t_bundle_digits ?_
  unfold k_bundle_digits
  simp (disch := omega)
  refine bdig_loop n n (Nat.le_refl _) hb [] _ _ _ (by simp; omega) (fun m s' z hm he => ?_)
  rw [List.append_nil] at he
  have m0 : (m : Int) % 10 = m := by omega
  have db : toBytes [V.int .u8 (48 + (m : Int))] = some [dgt m] := by have := dgt_int m; rw [m0] at this; rw [this]; exact tb1 _
  have w1 : IntKind.u64.wrap (48 + (m : Int)) = 48 + (m : Int) := wrap_u64 (by omega) (by omega)
  have sl : s'.length ≤ 19 := by have := congrArg List.length he; simp only [List.length_cons] at this; omega
  simp (disch := first | omega | (simp; omega)) [w1, db]
  exact he
theorem rdig_run : ∀ (N n : Nat), n ≤ N → n < 18446744073709551616 → ∀ h, ∃ h', Run T f_ref07_Digits [.int .u64 n] h (.str (dg n)) h' := by
  intro N
  induction N with
  | zero =>
    intro n hn hb h
    have : n = 0 := by omega
    subst this
    refine Run.startE t_ref07_Digits ?_
    unfold k_ref07_Digits
    simp (disch := omega)
    rw [dg_lt 0 (by omega)]; rfl
  | succ N ih =>
    intro n hn hb h
    by_cases c : n < 10
    · refine Run.startE t_ref07_Digits ?_
      unfold k_ref07_Digits
      have c' : (n : Int) < 10 := by omega
      simp (disch := omega) [c, c']
      rw [dg_lt n c]
      have key : ∀ m : Fin 10, List.drop m.1 (48 :: List.take m.1 [49, 50, 51, 52, 53, 54, 55, 56, 57]) = [dgt m.1] := by decide
      exact key ⟨n, c⟩
    · have c' : ¬ (n : Int) < 10 := by omega
      obtain ⟨_, r1⟩ := ih (n / 10) (by omega) (by omega) []
      obtain ⟨_, r2⟩ := ih (n % 10) (by omega) (by omega) []
      rw [dg_lt (n % 10) (by omega)] at r2
      rw [show ((n / 10 : Nat) : Int) = (n : Int) / 10 from rfl] at r1
      rw [show ((n % 10 : Nat) : Int) = (n : Int) % 10 from rfl] at r2
      have q : (n : Int).tdiv 10 = ((n / 10 : Nat) : Int) := by rw [Int.tdiv_eq_ediv_of_nonneg (by omega)]; rfl
      have q2 : (n : Int).tmod 10 = ((n % 10 : Nat) : Int) := by rw [Int.tmod_eq_emod_of_nonneg (by omega)]; rfl
      have w2 : IntKind.u64.wrap ((n / 10 : Nat) : Int) = ((n / 10 : Nat) : Int) := wrap_u64 (by omega) (by omega)
      have hl := dg_len (n / 10) (by omega)
      have e := dg_ge n c
      have ed : dgt (n % 10) = dgt n := by unfold dgt; rw [Nat.mod_mod]
      rw [ed] at r2
      refine Run.startE t_ref07_Digits ?_
      unfold k_ref07_Digits
      simp (disch := omega) [c, c', q, q2, w2]
      rw [Xp_run r1 rfl rfl (by simp)]
      simp (disch := omega) [c, c', q, q2, w2]
      rw [Xp_run r2 rfl rfl (by simp)]
      simp (disch := first | omega | (simp; omega))
      exact e.symm
abbrev u64N (n : Nat) : Prop := n < 18446744073709551616
def keyS (a b c d e : Nat) (nm : List UInt8) : List UInt8 := dg a ++ (32 :: (dg b ++ (32 :: (dg c ++ (32 :: (dg d ++ (32 :: (dg e ++ (32 :: nm)))))))))
theorem Key1_run (n : Nat) (hn : u64N n) (a b : Option (List V)) (s : List UInt8) (hs : s.length ≤ 1000) (g : Heap) : Run T f_stamp_Key_1 [.int .u64 n, .ptr 2 0] (a :: b :: some [.str s] :: g) (.tup []) (a :: b :: some [.str (s ++ (dg n ++ [32]))] :: g) := by
  obtain ⟨_, r⟩ := sdig_run n hn []
  have hl := dg_len n hn
  refine Run.start t_stamp_Key_1 ?_
  unfold k_stamp_Key_1
  simp (disch := omega)
  rw [Xp_run r rfl rfl (by simp)]
  simp (disch := first | omega | (simp; omega))
theorem SKey_run (sc : Int) (a b c d e : Nat) (w : IntKind.u64.wrap sc = a) (ha : u64N a) (hb : u64N b) (hc : u64N c) (hd : u64N d) (he : u64N e) (nm : List UInt8) (hnm : nm.length ≤ 140737488351232) : ∃ h', Run T f_stamp_Key [.agg [.int .i64 sc, .str nm, .int .u64 b, .int .u64 c], .agg [.int .u64 d, .int .u64 e]] [] (.str (keyS a b c d e nm)) h' := by
  have la := dg_len a ha
  have lb := dg_len b hb
  have lc := dg_len c hc
  have ld := dg_len d hd
  have le := dg_len e he
  have hf : T.free f_stamp_Key_1 = true := rfl
  have r1 := fun s hs => Key1_run a ha (some [.int .i64 sc, .str nm, .int .u64 b, .int .u64 c]) (some [.int .u64 d, .int .u64 e]) s hs []
  have r2 := fun s hs => Key1_run b hb (some [.int .i64 sc, .str nm, .int .u64 b, .int .u64 c]) (some [.int .u64 d, .int .u64 e]) s hs []
  have r3 := fun s hs => Key1_run c hc (some [.int .i64 sc, .str nm, .int .u64 b, .int .u64 c]) (some [.int .u64 d, .int .u64 e]) s hs []
  have r4 := fun s hs => Key1_run d hd (some [.int .i64 sc, .str nm, .int .u64 b, .int .u64 c]) (some [.int .u64 d, .int .u64 e]) s hs []
  have r5 := fun s hs => Key1_run e he (some [.int .i64 sc, .str nm, .int .u64 b, .int .u64 c]) (some [.int .u64 d, .int .u64 e]) s hs []
  refine Run.startE t_stamp_Key ?_
  unfold k_stamp_Key
  simp (disch := omega) [hf, w]
  rw [Xf_run (r1 [] (by simp))]
  simp (disch := omega) [hf]
  rw [Xf_run (r2 _ (by simp; omega))]
  simp (disch := omega) [hf]
  rw [Xf_run (r3 _ (by simp; omega))]
  simp (disch := omega) [hf]
  rw [Xf_run (r4 _ (by simp; omega))]
  simp (disch := omega) [hf]
  rw [Xf_run (r5 _ (by simp; omega))]
  simp (disch := first | omega | (simp; omega)) [hf]
  simp [keyS]
theorem R8Key_run (sc : Int) (a b c d e : Nat) (w : IntKind.u64.wrap sc = a) (ha : u64N a) (hb : u64N b) (hc : u64N c) (hd : u64N d) (he : u64N e) (nm : List UInt8) (hnm : nm.length ≤ 140737488351232) : ∃ h', Run T f_ref08_Key [.agg [.int .i64 sc, .str nm, .int .u64 b, .int .u64 c], .agg [.int .u64 d, .int .u64 e]] [] (.str (keyS a b c d e nm)) h' := by
  have la := dg_len a ha
  have lb := dg_len b hb
  have lc := dg_len c hc
  have ld := dg_len d hd
  have le := dg_len e he
  have p := fun {ks ops K e h Q d} n hn => (rdig_run n n (Nat.le_refl _) hn []).elim fun _ r => Xp_run (b := false) (ks := ks) (ops := ops) (K := K) (e := e) (h := h) (Q := Q) (d := d) r rfl rfl rfl
  refine Run.startE t_ref08_Key ?_
  unfold k_ref08_Key
  simp (disch := first | omega | assumption | (simp; omega)) [w, p]
  simp [keyS]
def keyB (b : BB) : List UInt8 := keyS (IntKind.u64.wrap b.p.s.sc).toNat b.p.s.nd.toNat b.p.s.sv.toNat b.p.st.toNat b.p.sq.toNat b.p.s.nm ++ (if fragB b.p.fl then 32 :: (dg b.p.off.toNat ++ (32 :: dg b.p.tot.toNat)) else [])
theorem wrap64 (z : Int) : ∃ n : Nat, IntKind.u64.wrap z = n ∧ u64N n := by
  rw [wrap_u64_def]
  obtain ⟨n, hn⟩ := Int.eq_ofNat_of_zero_le (show 0 ≤ z % 18446744073709551616 by omega)
  exact ⟨n, hn, by unfold u64N; omega⟩
theorem nat64 {z : Int} (h : u64B z) : ∃ n : Nat, z = n ∧ u64N n := by
  obtain ⟨n, hn⟩ := Int.eq_ofNat_of_zero_le h.1
  exact ⟨n, hn, by unfold u64N; have := h.2; omega⟩
theorem keyS_len (a b c d e : Nat) (ha : u64N a) (hb : u64N b) (hc : u64N c) (hd : u64N d) (he : u64N e) (nm : List UInt8) : (keyS a b c d e nm).length ≤ 200 + nm.length := by
  have la := dg_len a ha
  have lb := dg_len b hb
  have lc := dg_len c hc
  have ld := dg_len d hd
  have le := dg_len e he
  simp [keyS]; omega
theorem BKey_run (b : BB) (hp : PPin b.p) : ∃ h', Run T f_bundle_Key [b.v] [] (.str (keyB b)) h' := by
  have ok := hp.ok
  obtain ⟨_, rF⟩ := Fragment_run b.p ok.f0 ok.f1 []
  obtain ⟨a, ea, ha⟩ := wrap64 b.p.s.sc
  obtain ⟨n1, e1, h1⟩ := nat64 hp.s1
  obtain ⟨n2, e2, h2⟩ := nat64 hp.s2
  obtain ⟨n3, e3, h3⟩ := nat64 hp.st
  obtain ⟨n4, e4, h4⟩ := nat64 hp.sq
  obtain ⟨n5, e5, h5⟩ := nat64 hp.off
  obtain ⟨n6, e6, h6⟩ := nat64 hp.tot
  obtain ⟨_, rK⟩ := SKey_run b.p.s.sc a n1 n2 n3 n4 ea ha h1 h2 h3 h4 b.p.s.nm hp.n2
  obtain ⟨_, d1⟩ := bdig_run n5 h5 []
  obtain ⟨_, d2⟩ := bdig_run n6 h6 []
  have kl := keyS_len a n1 n2 n3 n4 ha h1 h2 h3 h4 b.p.s.nm
  have hn2 := hp.n2
  have l5 := dg_len n5 h5
  have l6 := dg_len n6 h6
  have tS : V.agg ((b.cells.drop 6).take 4) = .agg [.int .i64 b.p.s.sc, .str b.p.s.nm, .int .u64 b.p.s.nd, .int .u64 b.p.s.sv] := rfl
  have tT : V.agg ((b.cells.drop 14).take 2) = .agg [.int .u64 b.p.st, .int .u64 b.p.sq] := rfl
  have tp : V.agg (b.cells.take 19) = b.p.v := rfl
  have c17 : b.cells[17]? = some (.int .u64 b.p.off) := rfl
  have c18 : b.cells[18]? = some (.int .u64 b.p.tot) := rfl
  have kb : keyB b = keyS a n1 n2 n3 n4 b.p.s.nm ++ (if fragB b.p.fl then 32 :: (dg n5 ++ (32 :: dg n6)) else []) := by
    unfold keyB; rw [ea, e1, e2, e3, e4, e5, e6]; rfl
  rw [kb]
  generalize keyS a n1 n2 n3 n4 b.p.s.nm = KS at *
  have ph := PP.hf b.p
  have bv : b.v = .agg b.cells := rfl
  rw [bv]
  rw [e1, e2] at tS
  rw [e3, e4] at tT
  rw [e5] at c17
  rw [e6] at c18
  refine Run.startE t_bundle_Key ?_
  unfold k_bundle_Key
  simp (disch := omega) [BB.len, BB.one, tS, tT]
  rw [Xp_run rK (by simp) rfl (by simp)]
  simp (disch := omega) [BB.len, tp]
  rw [Xp_run rF (by simp [ph]) rfl (by simp)]
  cases fragB b.p.fl with
  | false => simp (disch := omega)
  | true =>
    simp (disch := omega) [c17]
    rw [Xp_run d1 (by simp) rfl (by simp)]
    simp (disch := first | omega | (simp; omega)) [c18]
    rw [Xp_run d2 (by simp) rfl (by simp)]
    simp (disch := first | omega | (simp; omega))
theorem R11Key_run (b : BB) (hp : PPin b.p) : ∃ h', Run T f_ref11_Key [b.v] [] (.str (keyB b)) h' := by
  have ok := hp.ok
  obtain ⟨a, ea, ha⟩ := wrap64 b.p.s.sc
  obtain ⟨n1, e1, h1⟩ := nat64 hp.s1
  obtain ⟨n2, e2, h2⟩ := nat64 hp.s2
  obtain ⟨n3, e3, h3⟩ := nat64 hp.st
  obtain ⟨n4, e4, h4⟩ := nat64 hp.sq
  obtain ⟨n5, e5, h5⟩ := nat64 hp.off
  obtain ⟨n6, e6, h6⟩ := nat64 hp.tot
  obtain ⟨_, rK⟩ := R8Key_run b.p.s.sc a n1 n2 n3 n4 ea ha h1 h2 h3 h4 b.p.s.nm hp.n2
  obtain ⟨_, d1⟩ := rdig_run n5 n5 (Nat.le_refl _) h5 []
  obtain ⟨_, d2⟩ := rdig_run n6 n6 (Nat.le_refl _) h6 []
  have kl := keyS_len a n1 n2 n3 n4 ha h1 h2 h3 h4 b.p.s.nm
  have hn2 := hp.n2
  have l5 := dg_len n5 h5
  have l6 := dg_len n6 h6
  have tS : V.agg ((b.cells.drop 6).take 4) = .agg [.int .i64 b.p.s.sc, .str b.p.s.nm, .int .u64 b.p.s.nd, .int .u64 b.p.s.sv] := rfl
  have tT : V.agg ((b.cells.drop 14).take 2) = .agg [.int .u64 b.p.st, .int .u64 b.p.sq] := rfl
  have c0 : b.cells[0]? = some (.int .u64 b.p.fl) := rfl
  have c17 : b.cells[17]? = some (.int .u64 b.p.off) := rfl
  have c18 : b.cells[18]? = some (.int .u64 b.p.tot) := rfl
  have kb : keyB b = keyS a n1 n2 n3 n4 b.p.s.nm ++ (if fragB b.p.fl then 32 :: (dg n5 ++ (32 :: dg n6)) else []) := by
    unfold keyB; rw [ea, e1, e2, e3, e4, e5, e6]; rfl
  rw [kb]
  generalize keyS a n1 n2 n3 n4 b.p.s.nm = KS at *
  have bv : b.v = .agg b.cells := rfl
  rw [bv]
  rw [e1, e2] at tS
  rw [e3, e4] at tT
  rw [e5] at c17
  rw [e6] at c18
  have q2 : b.p.fl.tmod 2 = b.p.fl % 2 := Int.tmod_eq_emod_of_nonneg ok.f0
  refine Run.startE t_ref11_Key ?_
  unfold k_ref11_Key
  simp (disch := omega) [BB.len, BB.one, tS, tT]
  rw [Xp_run rK (by simp) rfl (by simp)]
  simp (disch := omega) [BB.len, c0, q2]
  have fb : fragB b.p.fl = decide (b.p.fl % 2 = 1) := rfl
  rw [fb]
  by_cases c : b.p.fl % 2 = 1
  · simp (disch := first | omega | (simp; omega)) [c, c17]
    rw [Xp_run d1 (by simp) rfl (by simp)]
    simp (disch := first | omega | (simp; omega)) [c18]
    rw [Xp_run d2 (by simp) rfl (by simp)]
    simp (disch := first | omega | (simp; omega))
  · simp (disch := omega) [c]
def endN (t life : Int) : Int := if 18446744073709551615 < t + life then 18446744073709551615 else t + life
theorem SEnd2 (t q life : Int) (ht : u64B t) (hl : u64B life) : ∃ h', Run T f_stamp_End [.agg [.int .u64 t, .int .u64 q], .int .u64 life] [] (.int .u64 (endN t life)) h' := by
  have h1 := ht.1
  have h2 := ht.2
  have h3 := hl.1
  have h4 := hl.2
  unfold endN
  have w : IntKind.u64.wrap (18446744073709551615 - t) = 18446744073709551615 - t := wrap_u64 (by omega) (by omega)
  refine Run.startE t_stamp_End ?_
  unfold k_stamp_End
  by_cases c : 18446744073709551615 < t + life
  · have c' : 18446744073709551615 - t < life := by omega
    rw [if_pos c]
    simp (disch := omega) [w, c']
  · have c' : ¬ 18446744073709551615 - t < life := by omega
    have w2 : IntKind.u64.wrap (t + life) = t + life := wrap_u64 (by omega) (by omega)
    rw [if_neg c]
    simp (disch := omega) [w, c', w2]
theorem REnd2 (t q life : Int) (ht : u64B t) (hl : u64B life) : ∃ h', Run T f_ref08_End [.agg [.int .u64 t, .int .u64 q], .int .u64 life] [] (.int .u64 (endN t life)) h' := by
  have h1 := ht.1
  have h2 := ht.2
  have h3 := hl.1
  have h4 := hl.2
  unfold endN
  refine Run.startE t_ref08_End ?_
  unfold k_ref08_End
  have wd := wrap_u64_def (t + life)
  by_cases c : 18446744073709551615 < t + life
  · have w2 : IntKind.u64.wrap (t + life) = t + life - 18446744073709551616 := by rw [wd]; omega
    have c' : t + life - 18446744073709551616 < t := by omega
    rw [if_pos c]
    simp (disch := omega) [w2, c']
  · have c' : ¬ t + life < t := by omega
    have w2 : IntKind.u64.wrap (t + life) = t + life := wrap_u64 (by omega) (by omega)
    rw [if_neg c]
    simp (disch := omega) [w2, c']
theorem BOver_run (b : BB) (now : Int) (hp : PPin b.p) : ∃ h', Run T f_bundle_Over [b.v, .int .u64 now] [] (.bool (decide (endN b.p.st b.p.life ≤ now))) h' := by
  obtain ⟨_, r⟩ := SEnd2 b.p.st b.p.sq b.p.life hp.st hp.life
  have rO : ∃ h', Run T f_stamp_Over [.agg [.int .u64 b.p.st, .int .u64 b.p.sq], .int .u64 b.p.life, .int .u64 now] [] (.bool (decide (endN b.p.st b.p.life ≤ now))) h' := by
    refine Run.startE t_stamp_Over ?_
    unfold k_stamp_Over
    simp (disch := omega)
    rw [Xp_run r (by simp) rfl (by simp)]
    simp (disch := omega)
  obtain ⟨_, rO⟩ := rO
  have tT : V.agg ((b.cells.drop 14).take 2) = .agg [.int .u64 b.p.st, .int .u64 b.p.sq] := rfl
  have c16 : b.cells[16]? = some (.int .u64 b.p.life) := rfl
  have bv : b.v = .agg b.cells := rfl
  rw [bv]
  refine Run.startE t_bundle_Over ?_
  unfold k_bundle_Over
  simp (disch := omega) [BB.len, BB.one, tT, c16]
  rw [Xp_run rO (by simp) rfl (by simp)]
  simp (disch := omega)
def fIdxP (f : B5 → Bool) : List B5 → Nat → Int
  | [], _ => -1
  | x :: r, i => if f x then i else fIdxP f r (i + 1)
/-- What a closure tells of blocks: it leaves the first rows alone. -/
def Tells (fn : Nat) (K : Heap) (p : V) (f : B5 → Bool) : Prop := T.free fn = true ∧ ∀ (x : B5) (g : Heap), Run T fn [x.v, p] (K ++ g) (.bool (f x)) (K ++ (g ++ [some (xc x.ty x.nu x.fl x.k x.s)]))
theorem idxP_loop {fn : Nat} {K : Heap} {p : V} {f : B5 → Bool} (ht : Tells fn K p f) (l : List B5) (hn : l.length ≤ 1000000) : ∀ (m i : Nat), i + m = l.length → ∀ (g w : Heap) ks Q,
    (fIdxP f (l.drop i) i = -1 → ∀ e w', Xk T ks (.x 0) e (K ++ (g ++ w')) Q) →
    (fIdxP f (l.drop i) i ≠ -1 → ∀ w', Xk T ks .r [(4, .int .i64 (fIdxP f (l.drop i) i))] (K ++ (g ++ w')) Q) →
    Xc T l_slices_IndexFunc_api_Block_api_Block_0 ks [(0, .ps 5 (b5s l)), (1, .fn fn [p]), (7, .int .i64 l.length), (8, .int .i64 i)] (K ++ (g ++ w)) Q := by
  have bl := b5s_len l
  obtain ⟨hf, hr⟩ := ht
  intro m
  induction m with
  | zero =>
    intro i hi g w ks Q h1 h2
    have e : l.drop i = [] := List.drop_eq_nil_of_le (by omega)
    rw [e] at h1
    have e2 : (i : Int) = l.length := by omega
    rw [L_slices_IndexFunc_api_Block_api_Block_0]; unfold bl_slices_IndexFunc_api_Block_api_Block_0
    simp (disch := omega) [bl, e2]
    exact h1 rfl _ _
  | succ m ih =>
    intro i hi g w ks Q h1 h2
    have hl : i < l.length := by omega
    have e := List.drop_eq_getElem_cons hl
    rw [e] at h1 h2
    have gt := b5s_get l i hl
    have ih := ih (i + 1) (by omega)
    rw [show ((i + 1 : Nat) : Int) = (i : Int) + 1 from rfl] at ih
    rw [L_slices_IndexFunc_api_Block_api_Block_0]; unfold bl_slices_IndexFunc_api_Block_api_Block_0
    simp (disch := omega) [bl, gt, blkV, hl, hf]
    generalize l[i] = x at *
    have rx := hr x (g ++ w)
    unfold B5.v blkV at rx
    rw [Xf_run rx]
    have e1 : fIdxP f (x :: l.drop (i + 1)) i = if f x then (i : Int) else fIdxP f (l.drop (i + 1)) (i + 1) := rfl
    rw [e1] at h1 h2
    cases c : f x with
    | true =>
      rw [c] at h1 h2
      simp (disch := omega) [hf]
      simp only [if_true] at h2
      have := h2 (by omega) (w ++ [some (xc x.ty x.nu x.fl x.k x.s)])
      simpa using this
    | false =>
      rw [c] at h1 h2
      simp only [Bool.false_eq_true, if_false] at h1 h2
      simp (disch := omega) [hf]
      have := ih g (w ++ [some (xc x.ty x.nu x.fl x.k x.s)]) ks Q h1 h2
      simpa using this
theorem IndexP_run {fn : Nat} {K : Heap} {p : V} {f : B5 → Bool} (ht : Tells fn K p f) (l : List B5) (hn : l.length ≤ 1000000) (g : Heap) : ∃ w, Run T f_slices_IndexFunc_api_Block_api_Block [.ps 5 (b5s l), .fn fn [p]] (K ++ g) (.int .i64 (fIdxP f l 0)) (K ++ (g ++ w)) := by
  have bl := b5s_len l
  have lp := idxP_loop ht l hn l.length 0 (by omega) g []
  rw [List.append_nil] at lp
  obtain ⟨v, h', ⟨ev, g', eg⟩, r⟩ := Run.startP (P := fun v h' => v = .int .i64 (fIdxP f l 0) ∧ ∃ w, h' = K ++ (g ++ w)) (vs := [.ps 5 (b5s l), .fn fn [p]]) (h := K ++ g) t_slices_IndexFunc_api_Block_api_Block (by
    unfold k_slices_IndexFunc_api_Block_api_Block
    simp (disch := omega) [bl]
    refine lp _ _ (fun h e g' => ?_) (fun h g' => ?_)
    · have h : fIdxP f l 0 = -1 := h
      simp [h]
    · have h : ¬ fIdxP f l 0 = -1 := h
      simp [h])
  subst ev eg
  exact ⟨g', r⟩
theorem flatB_take : ∀ (l : List B5) (i : Nat), (flatB l).take (i * 5) = flatB (l.take i)
  | [], i => by simp [flatB]
  | x :: r, 0 => by simp [flatB]
  | x :: r, i + 1 => by
    have h := flatB_take r i
    have xl : (xc x.ty x.nu x.fl x.k x.s).length = 5 := rfl
    rw [List.take_succ_cons]
    show (xc x.ty x.nu x.fl x.k x.s ++ flatB r).take ((i + 1) * 5) = xc x.ty x.nu x.fl x.k x.s ++ flatB (r.take i)
    rw [List.take_append, List.take_of_length_le (by omega), xl, ← h]
    congr 2
    omega
theorem flatB_drop : ∀ (l : List B5) (i : Nat), (flatB l).drop (i * 5) = flatB (l.drop i)
  | [], i => by simp [flatB]
  | x :: r, 0 => by simp
  | x :: r, i + 1 => by
    have h := flatB_drop r i
    have xl : (xc x.ty x.nu x.fl x.k x.s).length = 5 := rfl
    rw [List.drop_succ_cons]
    show (xc x.ty x.nu x.fl x.k x.s ++ flatB r).drop ((i + 1) * 5) = flatB (r.drop i)
    rw [List.drop_append, List.drop_eq_nil_of_le (by omega), xl, List.nil_append, ← h]
    congr 1
    omega
theorem flatB_part (l : List B5) (i : Nat) (h : i < l.length) : ((flatB l).drop (i * 5)).take 5 = xc l[i].ty l[i].nu l[i].fl l[i].k l[i].s := by
  rw [flatB_drop, List.drop_eq_getElem_cons h]
  show (xc _ _ _ _ _ ++ flatB _).take 5 = _
  exact List.take_left' rfl
theorem flatB_set (l : List B5) (i : Nat) (x : B5) (h : i < l.length) : spliceL (flatB l) (i * 5) (xc x.ty x.nu x.fl x.k x.s) = flatB (l.set i x) := by
  unfold spliceL
  have xl : (xc x.ty x.nu x.fl x.k x.s).length = 5 := rfl
  rw [xl, show i * 5 + 5 = (i + 1) * 5 by omega, flatB_take, flatB_drop, List.set_eq_take_append_cons_drop, if_pos h, flatB_app, List.append_assoc]
  rfl
theorem row2 (a b : Option (List V)) (g : Heap) (j : Nat) : Heap.row (a :: b :: g) (j + 2) = Heap.row g j := rfl
theorem hrow_app (g w : Heap) (j : Nat) {cs : List V} (h : Heap.row g j = some cs) : Heap.row (g ++ w) j = some cs := by
  unfold Heap.row at h ⊢
  cases hg : g[j]? with
  | none => rw [hg] at h; cases h
  | some v => rw [List.getElem?_append_left (by have := List.getElem?_eq_some_iff.1 hg; exact this.1), hg]; rw [hg] at h; exact h
theorem hrow_lt {g : Heap} {j : Nat} {cs : List V} (h : Heap.row g j = some cs) : j < g.length := by
  unfold Heap.row at h
  cases hg : g[j]? with
  | none => rw [hg] at h; cases h
  | some v => exact (List.getElem?_eq_some_iff.1 hg).1
theorem hrow_set (g : Heap) (j : Nat) (cs : List V) (h : j < g.length) : Heap.row (g.set j (some cs)) j = some cs := by
  unfold Heap.row
  rw [List.getElem?_set_self h]; rfl
theorem set_app (g w : Heap) (j : Nat) (v : Option (List V)) (h : j < g.length) : (g ++ w).set j v = g.set j v ++ w := by
  rw [List.set_append, if_pos h]
theorem Without1_run (x : B5) (a : Option (List V)) (n : Int) (g : Heap) : Run T f_bundle_Without_1 [x.v, .ptr 1 0] (a :: some [.int .u64 n] :: g) (.bool (decide (x.nu = n))) (a :: some [.int .u64 n] :: (g ++ [some (xc x.ty x.nu x.fl x.k x.s)])) := by
  refine Run.start t_bundle_Without_1 ?_
  unfold k_bundle_Without_1 B5.v blkV xc
  simp (disch := omega)
theorem idxH_loop (n : Int) (a : Option (List V)) (l : List B5) (hn : l.length ≤ 1000000) (j : Nat) : ∀ (m i : Nat), i + m = l.length → ∀ (g w : Heap), g.row j = some (flatB l) → ∀ ks Q,
    (fIdx n (l.drop i) i = -1 → ∀ e w', Xk T ks (.x 0) e (a :: some [.int .u64 n] :: (g ++ w')) Q) →
    (fIdx n (l.drop i) i ≠ -1 → ∀ w', Xk T ks .r [(4, .int .i64 (fIdx n (l.drop i) i))] (a :: some [.int .u64 n] :: (g ++ w')) Q) →
    Xc T l_slices_IndexFunc_api_Block_api_Block_0 ks [(0, .hs 5 (j + 2) 0 l.length), (1, .fn f_bundle_Without_1 [.ptr 1 0]), (7, .int .i64 l.length), (8, .int .i64 i)] (a :: some [.int .u64 n] :: (g ++ w)) Q := by
  have hf : T.free f_bundle_Without_1 = true := rfl
  have fl := flatB_len l
  intro m
  induction m with
  | zero =>
    intro i hi g w hg ks Q h1 h2
    have e : l.drop i = [] := List.drop_eq_nil_of_le (by omega)
    rw [e] at h1
    have e2 : (i : Int) = l.length := by omega
    rw [L_slices_IndexFunc_api_Block_api_Block_0]; unfold bl_slices_IndexFunc_api_Block_api_Block_0
    simp (disch := omega) [e2]
    exact h1 rfl _ _
  | succ m ih =>
    intro i hi g w hg ks Q h1 h2
    have hl : i < l.length := by omega
    have e := List.drop_eq_getElem_cons hl
    rw [e] at h1 h2
    have ih := ih (i + 1) (by omega) g
    rw [show ((i + 1 : Nat) : Int) = (i : Int) + 1 from rfl] at ih
    have hrow : Heap.row (a :: some [.int .u64 n] :: (g ++ w)) (j + 2) = some (flatB l) := by rw [row2]; exact hrow_app g w j hg
    have fp := flatB_part l i hl
    rw [L_slices_IndexFunc_api_Block_api_Block_0]; unfold bl_slices_IndexFunc_api_Block_api_Block_0
    simp (disch := omega) [hl, hf, hrow, fl, fp]
    generalize l[i] = x at *
    have rx := Without1_run x a n (g ++ w)
    have xv : x.v = .agg (xc x.ty x.nu x.fl x.k x.s) := rfl
    rw [xv] at rx
    rw [Xf_run rx]
    have e1 : fIdx n (x :: l.drop (i + 1)) i = if x.nu = n then (i : Int) else fIdx n (l.drop (i + 1)) (i + 1) := rfl
    rw [e1] at h1 h2
    by_cases c : x.nu = n
    · rw [if_pos c] at h1 h2
      simp (disch := omega) [hf, c]
      have := h2 (by omega) (w ++ [some (xc x.ty x.nu x.fl x.k x.s)])
      rw [c] at this
      simpa using this
    · rw [if_neg c] at h1 h2
      simp (disch := omega) [hf, c]
      have := ih (w ++ [some (xc x.ty x.nu x.fl x.k x.s)]) hg ks Q h1 h2
      simpa using this
theorem IndexH_run (n : Int) (a : Option (List V)) (l : List B5) (hn : l.length ≤ 1000000) (j : Nat) (g : Heap) (hg : g.row j = some (flatB l)) : ∃ w, Run T f_slices_IndexFunc_api_Block_api_Block [.hs 5 (j + 2) 0 l.length, .fn f_bundle_Without_1 [.ptr 1 0]] (a :: some [.int .u64 n] :: g) (.int .i64 (fIdx n l 0)) (a :: some [.int .u64 n] :: (g ++ w)) := by
  have lp := idxH_loop n a l hn j l.length 0 (by omega) g [] hg
  rw [List.append_nil] at lp
  obtain ⟨v, h', ⟨ev, g', eg⟩, r⟩ := Run.startP (P := fun v h' => v = .int .i64 (fIdx n l 0) ∧ ∃ w, h' = a :: some [.int .u64 n] :: (g ++ w)) (vs := [.hs 5 (j + 2) 0 l.length, .fn f_bundle_Without_1 [.ptr 1 0]]) (h := a :: some [.int .u64 n] :: g) t_slices_IndexFunc_api_Block_api_Block (by
    unfold k_slices_IndexFunc_api_Block_api_Block
    simp (disch := omega)
    refine lp _ _ (fun h e g' => ?_) (fun h g' => ?_)
    · have h : fIdx n l 0 = -1 := h
      simp [h]
    · have h : ¬ fIdx n l 0 = -1 := h
      simp [h])
  subst ev eg
  exact ⟨g', r⟩
def keepN (n : Int) (l : List B5) : List B5 := l.filter fun x => !decide (x.nu = n)
/-- The other rows stay. -/
def Keeps (g g' : Heap) (j : Nat) : Prop := g.length ≤ g'.length ∧ ∀ i, i ≠ j → i < g.length → g'[i]? = g[i]?
theorem Keeps.app (g w : Heap) (j : Nat) : Keeps g (g ++ w) j := ⟨by simp, fun i _ h => List.getElem?_append_left h⟩
theorem Keeps.set (g w : Heap) (j : Nat) (v : Option (List V)) : Keeps g (g.set j v ++ w) j := ⟨by simp, fun i hi h => by rw [List.getElem?_append_left (by rw [List.length_set]; exact h), List.getElem?_set_ne (fun e => hi e.symm)]⟩
theorem Keeps.trans {g g' g'' : Heap} {j : Nat} (h : Keeps g g' j) (k : Keeps g' g'' j) : Keeps g g'' j := ⟨Nat.le_trans h.1 k.1, fun i hi hl => (k.2 i hi (Nat.lt_of_lt_of_le hl h.1)).trans (h.2 i hi hl)⟩
theorem del_loop (n : Int) (a : Option (List V)) (N : Nat) (hN : N ≤ 1000000) (j : Nat) : ∀ (m k : Nat), k + m = N → ∀ (i : Nat) (cur : List B5) (g : Heap), cur.length = N → i ≤ k → g.row j = some (flatB cur) → ∀ ks Q,
    (∀ z g' cur', Keeps g g' j → cur'.length = N → Heap.row g' j = some (flatB cur') → (i + (keepN n (cur.drop k)).length ≤ N) → cur'.take (i + (keepN n (cur.drop k)).length) = cur.take i ++ keepN n (cur.drop k) →
      Xk T ks (.x 0) ((0, .hs 5 (j + 2) 0 N) :: (1, .fn f_bundle_Without_1 [.ptr 1 0]) :: (5, .int .i64 ((i + (keepN n (cur.drop k)).length : Nat) : Int)) :: z) (a :: some [.int .u64 n] :: g') Q) →
    Xc T l_slices_DeleteFunc_api_Block_api_Block_0 ks [(0, .hs 5 (j + 2) 0 N), (1, .fn f_bundle_Without_1 [.ptr 1 0]), (5, .int .i64 i), (6, .int .i64 k)] (a :: some [.int .u64 n] :: g) Q := by
  have hf : T.free f_bundle_Without_1 = true := rfl
  intro m
  induction m with
  | zero =>
    intro k hk i cur g hc hi hg ks Q hx
    have e : cur.drop k = [] := List.drop_eq_nil_of_le (by omega)
    have e2 : (k : Int) = N := by omega
    rw [L_slices_DeleteFunc_api_Block_api_Block_0]; unfold bl_slices_DeleteFunc_api_Block_api_Block_0
    simp (disch := omega) [e2]
    have := hx [(6, .int .i64 N), (19, .bool false)] g cur (by have := Keeps.app g [] j; rwa [List.append_nil] at this) hc hg (by rw [e]; simp [keepN]; omega) (by rw [e]; simp [keepN])
    rw [e] at this
    simpa [keepN] using this
  | succ m ih =>
    intro k hk i cur g hc hi hg ks Q hx
    have hl : k < cur.length := by omega
    have hlN : k < N := by omega
    have e := List.drop_eq_getElem_cons hl
    have fl := flatB_len cur
    have ih := ih (k + 1) (by omega)
    rw [show ((k + 1 : Nat) : Int) = (k : Int) + 1 from rfl] at ih
    have hrow : Heap.row (a :: some [.int .u64 n] :: g) (j + 2) = some (flatB cur) := by rw [row2]; exact hg
    have jl := hrow_lt hg
    have fp := flatB_part cur k hl
    rw [e] at hx
    rw [L_slices_DeleteFunc_api_Block_api_Block_0]; unfold bl_slices_DeleteFunc_api_Block_api_Block_0
    unfold xc at fp
    simp (disch := omega) [hlN, hf, hrow, fl, fp, hc]
    generalize hX : cur[k] = x at *
    have rx := Without1_run x a n (g ++ [some (xc x.ty x.nu x.fl x.k x.s)])
    have xv : x.v = .agg (xc x.ty x.nu x.fl x.k x.s) := rfl
    rw [xv] at rx
    unfold xc at rx
    rw [Xf_run rx]
    by_cases c : x.nu = n
    · have kn : keepN n (x :: cur.drop (k + 1)) = keepN n (cur.drop (k + 1)) := by simp [keepN, c]
      rw [kn] at hx
      simp (disch := omega) [hf, c]
      have g2 : Heap.row (g ++ [some [.int .u64 x.ty, .int .u64 n, .int .u64 x.fl, .int .i64 x.k, .str x.s], some [.int .u64 x.ty, .int .u64 n, .int .u64 x.fl, .int .i64 x.k, .str x.s]]) j = some (flatB cur) := hrow_app _ _ _ hg
      exact ih i cur _ hc (by omega) g2 ks Q (fun z g' cur' h0 => hx z g' cur' ((Keeps.app _ _ _).trans h0))
    · have kn : keepN n (x :: cur.drop (k + 1)) = x :: keepN n (cur.drop (k + 1)) := by simp [keepN, c]
      rw [kn] at hx
      have hi5 : i * 5 + 5 ≤ cur.length * 5 := by omega
      have hi5' : i * 5 + 5 ≤ N * 5 := by omega
      have fs := flatB_set cur i x (by omega)
      unfold xc at fs
      simp (disch := omega) [hf, c, hg, fl, hc, hi5', fs]
      have g2 : Heap.row (g.set j (some (flatB (cur.set i x))) ++ [some [.int .u64 x.ty, .int .u64 x.nu, .int .u64 x.fl, .int .i64 x.k, .str x.s], some [.int .u64 x.ty, .int .u64 x.nu, .int .u64 x.fl, .int .i64 x.k, .str x.s]]) j = some (flatB (cur.set i x)) := hrow_app _ _ _ (hrow_set _ _ _ jl)
      have d1 : (cur.set i x).drop (k + 1) = cur.drop (k + 1) := List.drop_set_of_lt (by omega)
      have t1 : (cur.set i x).take (i + 1) = cur.take i ++ [x] := by
        rw [List.take_succ, List.take_set_of_le (Nat.le_refl _), List.getElem?_set_self (by omega)]; rfl
      have := ih (i + 1) (cur.set i x) _ (by rw [List.length_set]; exact hc) (by omega) g2 ks Q (fun z g' cur' h0 h1 h2 h3 h4 => by
        rw [d1] at h3 h4 ⊢
        rw [t1] at h4
        simp only [List.length_cons] at hx
        have e1 : i + 1 + (keepN n (cur.drop (k + 1))).length = i + ((keepN n (cur.drop (k + 1))).length + 1) := by omega
        rw [e1] at h3 h4 ⊢
        exact hx z g' cur' ((Keeps.set _ _ _ _).trans h0) h1 h2 h3 (by rw [h4]; simp))
      exact this
theorem fIdx_neg (n : Int) : ∀ (l : List B5) (i : Nat), fIdx n l i = -1 → keepN n l = l
  | [], _, _ => rfl
  | x :: r, i, h => by
    by_cases c : x.nu = n
    · simp only [fIdx, if_pos c] at h; omega
    · simp only [fIdx, if_neg c] at h
      have := fIdx_neg n r (i + 1) h
      simp only [keepN, List.filter_cons] at this ⊢
      simp [c, this]
theorem fIdx_at (n : Int) : ∀ (l : List B5) (i : Nat), fIdx n l i ≠ -1 → ∃ k : Nat, fIdx n l i = ((i + k : Nat) : Int) ∧ k < l.length ∧ keepN n l = l.take k ++ keepN n (l.drop (k + 1)) ∧ keepN n (l.take k) = l.take k
  | [], _, h => absurd rfl h
  | x :: r, i, h => by
    by_cases c : x.nu = n
    · exact ⟨0, by simp [fIdx, c], by simp, by simp [keepN, c], rfl⟩
    · simp only [fIdx, if_neg c] at h ⊢
      obtain ⟨k, e1, e2, e3, e4⟩ := fIdx_at n r (i + 1) h
      refine ⟨k + 1, by rw [e1]; congr 1; omega, by simpa using e2, ?_, ?_⟩
      · have : keepN n (x :: r) = x :: keepN n r := by simp [keepN, c]
        rw [this, e3]; rfl
      · have : keepN n (x :: r.take k) = x :: keepN n (r.take k) := by simp [keepN, c]
        rw [List.take_succ_cons, this, e4]
theorem freezeB (h : Heap) (j : Nat) (l : List B5) (i : Nat) (R : List V) (hr : h.row j = some R) (hR : R.take (i * 5) = flatB l) (hi : l.length = i) (hl : i * 5 ≤ R.length) (ag : Bool) : freeze1 (ag || decide (1 < 5)) (.hs 5 j 0 i) h = some (.ps 5 (b5s l), h.set j none) := by
  subst hi
  have fl := flatB_len l
  simp only [freeze1, hsCells, hr, Option.bind_some, Nat.zero_add, List.drop_zero]
  rw [if_pos hl, Option.bind_some, hR, if_pos (by simp [chunkOk])]
  have := chunkB l
  simp only [show (ag || decide (1 < 5)) = true from by simp]
  rw [this]
theorem slH_lo (s b len M : Nat) (h : M < len) : slV (.sl s) (.hs s b 0 len) (some (.int .i64 M)) none none = some (.hs s b (M * s) (len - M)) := by
  have h1 : (0 : Int) ≤ M ∧ (M : Int) ≤ len := by omega
  have h2 : len - M ≠ 0 := by omega
  have h3 : M ≤ len := by omega
  simp [slV, bndO, bndV, h3, h2]
theorem slH_hi (s b len M : Nat) (h : M ≤ len) : slV (.sl s) (.hs s b 0 len) none (some (.int .i64 M)) none = some (if M = 0 then .ps s [] else .hs s b 0 M) := by
  simp [slV, bndO, bndV, h]
  split <;> rfl
theorem clrH (h : Heap) (s b off len : Nat) (z cs : List V) (hz : z.length = s) (hr : h.row b = some cs) (hl : off + len * s ≤ cs.length) : clrV h s z (.hs s b off len) = some (.tup [], h.set b (some (spliceL cs off (repZ len z)))) := by
  simp [clrV, hr, hz, hl]
theorem Delete_run (n : Int) (a : Option (List V)) (l : List B5) (hn : l.length ≤ 1000000) (j : Nat) (g : Heap) (hg : g.row j = some (flatB l)) : ∃ g', Run T f_slices_DeleteFunc_api_Block_api_Block [.hs 5 (j + 2) 0 l.length, .fn f_bundle_Without_1 [.ptr 1 0]] (a :: some [.int .u64 n] :: g) (.ps 5 (b5s (keepN n l))) (a :: some [.int .u64 n] :: g') ∧ Keeps g g' j := by
  obtain ⟨w, rI⟩ := IndexH_run n a l hn j g hg
  have jl := hrow_lt hg
  have fl := flatB_len l
  have frE : ∀ (h : Heap) (i : Nat) (cur : List B5) (R : List V), Heap.row h j = some R → R.take (i * 5) = flatB cur → cur.length = i → i * 5 ≤ R.length → freeze1 true (.hs 5 (j + 2) 0 i) (a :: some [.int .u64 n] :: h) = some (.ps 5 (b5s cur), a :: some [.int .u64 n] :: h.set j none) := fun h i cur R h1 h2 h3 h4 => by
    have := freezeB (a :: some [.int .u64 n] :: h) (j + 2) cur i R (by rw [row2]; exact h1) h2 h3 h4 true
    have t : (true || decide (1 < 5)) = true := rfl
    rw [t] at this
    exact this
  obtain ⟨v, h', ⟨ev, g', eg, hk⟩, r⟩ := Run.startP (P := fun v h' => v = .ps 5 (b5s (keepN n l)) ∧ ∃ g', h' = a :: some [.int .u64 n] :: g' ∧ Keeps g g' j) (vs := [.hs 5 (j + 2) 0 l.length, .fn f_bundle_Without_1 [.ptr 1 0]]) (h := a :: some [.int .u64 n] :: g) t_slices_DeleteFunc_api_Block_api_Block (by
    unfold k_slices_DeleteFunc_api_Block_api_Block
    simp (disch := omega)
    rw [Xf_run rI]
    by_cases c : fIdx n l 0 = -1
    · have kn := fIdx_neg n l 0 c
      simp (disch := omega) [c]
      have := frE (g ++ w) l.length l (flatB l) (hrow_app _ _ _ hg) (List.take_of_length_le (by omega)) rfl (by omega)
      rw [this]
      simp only [Option.bind_some, epiP_some]
      refine ⟨by rw [kn]; rfl, _, rfl, ?_⟩
      have := Keeps.set g (w) j none
      rwa [← set_app g w j none jl] at this
    · obtain ⟨k, e1, e2, e3, e4⟩ := fIdx_at n l 0 c
      rw [Nat.zero_add] at e1
      have c' : ¬ ((k : Int) = -1) := by omega
      have lp := del_loop n a l.length hn j (l.length - (k + 1)) (k + 1) (by omega) k l (g ++ w) rfl (by omega) (hrow_app _ _ _ hg)
      rw [show ((k + 1 : Nat) : Int) = (k : Int) + 1 from rfl] at lp
      rw [e1]
      simp (disch := omega) [c']
      refine lp _ _ (fun z g' cur' h0 h1 h2 h3 h4 => ?_)
      have h0' : Keeps g g' j := (Keeps.app g w j).trans h0
      have kl := congrArg List.length h4
      simp only [List.length_append, List.length_take] at kl
      have fc := flatB_len cur'
      have hk : keepN n l = cur'.take (k + (keepN n (l.drop (k + 1))).length) := by rw [h4, e3]
      generalize hM : k + (keepN n (l.drop (k + 1))).length = M at *
      have ft := flatB_take cur' M
      have jl' := hrow_lt h2
      have kf : (keepN n (l.drop (k + 1))).length ≤ l.length - (k + 1) := by have := List.length_filter_le (fun x : B5 => !decide (x.nu = n)) (l.drop (k + 1)); rw [List.length_drop] at this; exact this
      have hMl : M < l.length := by omega
      have sv1 := slH_lo 5 (j + 2) l.length M hMl
      have sv2 := slH_hi 5 (j + 2) l.length M (by omega)
      have cv := clrH (a :: some [.int .u64 n] :: g') 5 (j + 2) (M * 5) (l.length - M) [.int .u64 0, .int .u64 0, .int .u64 0, .int .i64 0, .str []] (flatB cur') rfl (by rw [row2]; exact h2) (by omega)
      have rl : (repZ (l.length - M) [V.int .u64 0, .int .u64 0, .int .u64 0, .int .i64 0, .str []]).length = (l.length - M) * 5 := by simp [repZ]
      simp (disch := omega) [sv1, sv2, cv]
      by_cases z0 : M = 0
      · have k0 : keepN n l = [] := by rw [hk, z0]; rfl
        simp (disch := omega) [z0, k0, b5s]
        refine h0'.trans ?_
        have := Keeps.set g' [] j (some (spliceL (flatB cur') 0 (repZ l.length [.int .u64 0, .int .u64 0, .int .u64 0, .int .i64 0, .str []])))
        rwa [List.append_nil] at this
      · have fz := frE (g'.set j (some (spliceL (flatB cur') (M * 5) (repZ (l.length - M) [.int .u64 0, .int .u64 0, .int .u64 0, .int .i64 0, .str []])))) M (cur'.take M) _ (hrow_set _ _ _ jl') (by
          unfold spliceL
          rw [List.append_assoc, List.take_left' (by rw [List.length_take]; omega)]
          exact ft) (by rw [List.length_take]; omega) (by simp only [spliceL, List.length_append, List.length_take, rl]; omega)
        simp (disch := omega) [z0]
        rw [fz]
        simp only [Option.bind_some, epiP_some]
        refine ⟨by rw [hk]; rfl, _, rfl, h0'.trans ?_⟩
        have k1 := Keeps.set g' [] j (some (spliceL (flatB cur') (M * 5) (repZ (l.length - M) [.int .u64 0, .int .u64 0, .int .u64 0, .int .i64 0, .str []])))
        rw [List.append_nil] at k1
        have k2 := Keeps.set (g'.set j (some (spliceL (flatB cur') (M * 5) (repZ (l.length - M) [.int .u64 0, .int .u64 0, .int .u64 0, .int .i64 0, .str []])))) [] j none
        rw [List.append_nil] at k2
        exact k1.trans k2)
  subst ev eg
  exact ⟨g', r, hk⟩
theorem flat_b5s (l : List B5) : flat (b5s l) = flatB l := by
  induction l with
  | nil => rfl
  | cons x l ih =>
    show flat (x.v :: b5s l) = xc x.ty x.nu x.fl x.k x.s ++ flatB l
    rw [← ih]
    rfl
theorem Clone0_run (h : Heap) : Run T f_slices_Clone_api_Block_api_Block [.ps 5 (b5s [])] h (.hn 5) h := by
  refine Run.start t_slices_Clone_api_Block_api_Block ?_
  unfold k_slices_Clone_api_Block_api_Block
  simp (disch := omega)
  refine Xc_may (fun C => rfl) rfl rfl .r [(2, .hn 5)] h ?_ ?_ ?_
  · simp (disch := omega)
  · simp (disch := omega) [b5s]
  · simp (disch := omega)
theorem Clone_run (l : List B5) (hn : l.length ≤ 1000000) (hl : l ≠ []) (h : Heap) : ∃ w j, Run T f_slices_Clone_api_Block_api_Block [.ps 5 (b5s l)] h (.hs 5 (h.length + j) 0 l.length) (h ++ w) ∧ Heap.row w j = some (flatB l) := by
  have bl := b5s_len l
  have fl := flatB_len l
  have nc : ∀ h : Heap, newCells h 5 (.ps 5 (b5s l)) = some (flatB l) := fun h => by
    simp [newCells, flat_b5s]
  refine ⟨[some (flatB l)], 0, Run.start t_slices_Clone_api_Block_api_Block ?_, rfl⟩
  unfold k_slices_Clone_api_Block_api_Block
  simp (disch := omega)
  refine Xc_nilc (fun C => rfl) rfl (v := .ps 5 (b5s l)) (by cases l with | nil => exact absurd rfl hl | cons _ _ => rfl) ?_
  have ne : ¬ flatB l = [] := fun e => by
    have := congrArg List.length e
    rw [fl] at this
    have h0 : l.length ≠ 0 := fun z => hl (List.eq_nil_of_length_eq_zero z)
    simp at this; omega
  have dv : (flatB l).length / 5 = l.length := by rw [fl]; omega
  simp (disch := omega) [nc, ne, dv]
def outB (b : BB) (n : Int) : BB := ⟨b.p, keepN n b.bl, b.pay⟩
theorem Without_run (b : BB) (n : Int) (hn : b.bl.length ≤ 1000000) : ∃ h', Run T f_bundle_Without [b.v, .int .u64 n] [] (outB b n).v h' := by
  have bv : b.v = .agg b.cells := rfl
  have ov : (outB b n).v = .agg (outB b n).cells := rfl
  have hf : T.free f_bundle_Without_1 = true := rfl
  have zc : zB.cells = [.int .u64 0, .int .i64 0, .int .i64 0, .str [], .int .u64 0, .int .u64 0, .int .i64 0, .str [], .int .u64 0, .int .u64 0, .int .i64 0, .str [], .int .u64 0, .int .u64 0, .int .u64 0, .int .u64 0, .int .u64 0, .int .u64 0, .int .u64 0, .ps 5 [], .int .u64 0, .int .u64 0, .int .u64 0, .int .i64 0, .str []] := rfl
  have s1 : ∀ l, spliceL b.cells 19 [.ps 5 (b5s l)] = BB.cells ⟨b.p, l, b.pay⟩ := fun _ => rfl
  have ob : BB.mk b.p (keepN n b.bl) b.pay = outB b n := rfl
  rw [bv, ov]
  refine Run.startE t_bundle_Without ?_
  unfold k_bundle_Without
  simp (disch := omega) [BB.len, BB.one, BB.c19, ← zc]
  by_cases hl : b.bl = []
  · have e : b5s b.bl = b5s [] := by rw [hl]
    have k0 : keepN n b.bl = [] := by rw [hl]; rfl
    have dl : ∀ (h : Heap), ∃ w, Run T f_slices_DeleteFunc_api_Block_api_Block [.hn 5, .fn f_bundle_Without_1 [.ptr 1 0]] h (.ps 5 []) (h ++ w) := fun h => by
      have ix : Run T f_slices_IndexFunc_api_Block_api_Block [.hn 5, .fn f_bundle_Without_1 [.ptr 1 0]] h (.int .i64 (-1)) h := by
        refine Run.start t_slices_IndexFunc_api_Block_api_Block ?_
        unfold k_slices_IndexFunc_api_Block_api_Block
        simp (disch := omega)
        rw [L_slices_IndexFunc_api_Block_api_Block_0]; unfold bl_slices_IndexFunc_api_Block_api_Block_0
        simp (disch := omega)
      refine ⟨[], Run.start t_slices_DeleteFunc_api_Block_api_Block ?_⟩
      unfold k_slices_DeleteFunc_api_Block_api_Block
      simp (disch := omega)
      rw [Xf_run ix]
      simp (disch := omega)
    rw [e, Xf_run (Clone0_run _)]
    simp (disch := omega) [hf]
    obtain ⟨w, r⟩ := dl [some b.cells, some [.int .u64 n], some zB.cells]
    rw [Xf_run r]
    have s0 : b.cells.set 19 (.ps 5 []) = (outB b n).cells := by rw [← ob, k0]; rfl
    simp (disch := omega) [s0, BB.len, BB.one, BB.sp, BB.tk]
  · obtain ⟨w, j, rc, rw⟩ := Clone_run b.bl hn hl [some b.cells, some [.int .u64 n], some zB.cells]
    rw [Xf_run rc]
    simp (disch := omega) [hf]
    have hr2 : Heap.row (some zB.cells :: w) (j + 1) = some (flatB b.bl) := rw
    obtain ⟨g', r, hk⟩ := Delete_run n (some b.cells) b.bl hn (j + 1) (some zB.cells :: w) hr2
    have g0 : g'[0]? = some (some zB.cells) := hk.2 0 (by omega) (by simp)
    obtain ⟨g'', rfl⟩ : ∃ g'', g' = some zB.cells :: g'' := by
      cases g' with
      | nil => cases g0
      | cons x y => simp at g0; subst g0; exact ⟨y, rfl⟩
    have ej : j + 1 + 2 = 3 + j := by omega
    rw [ej] at r
    rw [Xf_run r]
    have s0 : b.cells.set 19 (.ps 5 (b5s (keepN n b.bl))) = (outB b n).cells := rfl
    simp (disch := omega) [s0, BB.len, BB.one, BB.sp, BB.tk]
def findV (b : BB) (kind : Int) : V := match b.bl.find? fun x => decide (x.ty = kind) with
  | some x => .tup [.agg (xc x.ty x.nu x.fl x.k x.s), .bool true]
  | none => .tup [.agg (xc 0 0 0 0 []), .bool false]
theorem Find1_tells (b : BB) (kind : Int) : Tells f_bundle_Find_1 [some b.cells, some [.int .u64 kind], some (xc 0 0 0 0 [])] (.ptr 1 0) (fun x => decide (x.ty = kind)) := by
  refine ⟨rfl, fun x g => Run.start t_bundle_Find_1 ?_⟩
  unfold k_bundle_Find_1 B5.v blkV xc
  simp (disch := omega)
theorem fIdxP_find (f : B5 → Bool) : ∀ (l : List B5) (i : Nat), (fIdxP f l i = -1 ∧ l.find? f = none ∧ ∀ x ∈ l, f x = false) ∨ ∃ (k : Nat) (h : k < l.length), fIdxP f l i = ((i + k : Nat) : Int) ∧ l.find? f = some l[k] ∧ f l[k] = true ∧ ∀ (m : Nat) (hm : m < l.length), m < k → f l[m] = false
  | [], i => .inl ⟨rfl, rfl, fun _ h => nomatch h⟩
  | x :: r, i => by
    cases c : f x with
    | true => exact .inr ⟨0, by simp, by simp [fIdxP, c], by simp [List.find?, c], by simpa using c, fun m _ h => absurd h (by omega)⟩
    | false =>
      rcases fIdxP_find f r (i + 1) with ⟨h1, h2, h3⟩ | ⟨k, hk, h1, h2, h3, h4⟩
      · exact .inl ⟨by simp [fIdxP, c, h1], by simp [List.find?, c, h2], fun y hy => by
          rcases List.mem_cons.1 hy with e | e
          · rw [e]; exact c
          · exact h3 y e⟩
      · refine .inr ⟨k + 1, by simpa using hk, ?_, by simp [List.find?, c, h2], by simpa using h3, fun m hm h => ?_⟩
        · simp only [fIdxP, c, Bool.false_eq_true, if_false]
          rw [h1]; congr 1; omega
        · cases m with
          | zero => exact c
          | succ m => simpa using h4 m (by simpa using hm) (by omega)
theorem Find_run (b : BB) (kind : Int) (hn : b.bl.length ≤ 1000000) : ∃ h', Run T f_bundle_Find [b.v, .int .u64 kind] [] (findV b kind) h' := by
  have bl := b5s_len b.bl
  obtain ⟨w, rI⟩ := IndexP_run (Find1_tells b kind) b.bl hn []
  have fc := fIdxP_find (fun x => decide (x.ty = kind)) b.bl 0
  have bv : b.v = .agg b.cells := rfl
  have hz : xc 0 0 0 0 [] = [.int .u64 0, .int .u64 0, .int .u64 0, .int .i64 0, .str []] := rfl
  rw [List.append_nil, hz] at rI
  rw [bv]
  unfold findV
  refine Run.startE t_bundle_Find ?_
  unfold k_bundle_Find
  simp (disch := omega) [BB.len, BB.one, BB.c19]
  rw [Xf_run rI]
  rcases fc with ⟨h1, h2, _⟩ | ⟨k, hk, h1, h2, _, _⟩
  · rw [h1, h2]
    simp (disch := omega) [xc]
  · rw [h1, h2]
    have gt := b5s_get b.bl k hk
    have c' : ¬ ((k : Int) < 0) := by omega
    simp (disch := omega) [bl, hk, gt, c', blkV_cells, BB.c19, xc]
/-- Where the law's walk from the end finds a block of a type. -/
def atD (l : List B5) (kind : Int) : Nat → Int → Int
  | 0, a => a
  | m + 1, a => atD l kind m (if ∃ h : m < l.length, l[m].ty = kind then (m : Int) else a)
theorem atD_no (l : List B5) (kind : Int) (h : ∀ x ∈ l, decide (x.ty = kind) = false) : ∀ (m : Nat) (a : Int), atD l kind m a = a
  | 0, a => rfl
  | m + 1, a => by
    have c : ¬ ∃ h : m < l.length, l[m].ty = kind := fun ⟨q, e⟩ => by
      have := h _ (List.getElem_mem q)
      simp [e] at this
    simp only [atD, if_neg c]
    exact atD_no l kind h m a
theorem atD_below (l : List B5) (kind : Int) (k : Nat) (hb : ∀ (m : Nat) (hm : m < l.length), m < k → decide (l[m].ty = kind) = false) : ∀ (m : Nat) (a : Int), m ≤ k → atD l kind m a = a
  | 0, a, _ => rfl
  | m + 1, a, hm => by
    have c : ¬ ∃ h : m < l.length, l[m].ty = kind := fun ⟨q, e⟩ => by
      have := hb m q (by omega)
      simp [e] at this
    simp only [atD, if_neg c]
    exact atD_below l kind k hb m a (by omega)
theorem atD_at (l : List B5) (kind : Int) (k : Nat) (hk : k < l.length) (ht : decide (l[k].ty = kind) = true) (hb : ∀ (m : Nat) (hm : m < l.length), m < k → decide (l[m].ty = kind) = false) : ∀ (m : Nat) (a : Int), k < m → atD l kind m a = k
  | 0, a, h => by omega
  | m + 1, a, h => by
    by_cases c : m = k
    · subst c
      have c : ∃ h : m < l.length, l[m].ty = kind := ⟨hk, by simpa using ht⟩
      simp only [atD, if_pos c]
      exact atD_below l kind m hb m _ (Nat.le_refl _)
    · simp only [atD]
      exact atD_at l kind k hk ht hb m _ (by omega)
theorem looks_loop (b : BB) (hn : b.bl.length ≤ 1000) (now kind num : Int) (is : Bool) (a : Option (List V)) (X : Option (List V)) : ∀ (m : Nat), m ≤ b.bl.length → ∀ (A : Int) (R : List B5), R.length + m ≤ 1000 → ∀ ks Q,
    (∀ z, Xk T ks (.x 0) ((3, .ptr 1 0) :: (4, .int .u64 now) :: (5, .int .u64 kind) :: (6, .int .u64 num) :: (7, .ptr 2 0) :: (8, .bool is) :: (9, .int .i64 (atD b.bl kind m A)) :: (10, .ps 5 (b5s (keepN num (b.bl.take m) ++ R))) :: z) [a, some b.cells, X] Q) →
    Xc T l_law11_BundleLooks_0 ks [(3, .ptr 1 0), (4, .int .u64 now), (5, .int .u64 kind), (6, .int .u64 num), (7, .ptr 2 0), (8, .bool is), (9, .int .i64 A), (10, .ps 5 (b5s R)), (11, .int .i64 ((m : Int) - 1))] [a, some b.cells, X] Q := by
  have bl := b5s_len b.bl
  intro m
  induction m with
  | zero =>
    intro hm A R hR ks Q hx
    rw [L_law11_BundleLooks_0]; unfold bl_law11_BundleLooks_0
    simp (disch := omega)
    have := hx [(11, .int .i64 (-1)), (44, .bool false)]
    simpa [keepN, atD] using this
  | succ m ih =>
    intro hm A R hR ks Q hx
    have hl : m < b.bl.length := by omega
    have gt := b5s_get b.bl m hl
    have i1 : (((m + 1 : Nat) : Int) - 1) = m := by omega
    rw [i1]
    have tk : b.bl.take (m + 1) = b.bl.take m ++ [b.bl[m]] := by rw [List.take_succ, List.getElem?_eq_getElem hl]; rfl
    have w1 : IntKind.i64.wrap ((m : Int) - 1) = (m : Int) - 1 := wrap_i64 (by omega) (by omega)
    have rl := b5s_len R
    rw [L_law11_BundleLooks_0]; unfold bl_law11_BundleLooks_0
    simp (disch := omega) [bl, gt, hl, BB.c19, blkV_cells]
    have ad : atD b.bl kind (m + 1) A = atD b.bl kind m (if b.bl[m].ty = kind then (m : Int) else A) := by
      show atD b.bl kind m (if ∃ h : m < b.bl.length, b.bl[m].ty = kind then (m : Int) else A) = _
      congr 1
      by_cases c : b.bl[m].ty = kind
      · rw [if_pos c, if_pos ⟨hl, c⟩]
      · rw [if_neg c, if_neg (fun ⟨_, q⟩ => c q)]
    rw [ad, tk] at hx
    generalize b.bl[m] = x at *
    have kp : keepN num (b.bl.take m ++ [x]) ++ R = keepN num (b.bl.take m) ++ (if x.nu = num then R else x :: R) := by
      by_cases c : x.nu = num
      · simp [keepN, c]
      · simp [keepN, c]
    rw [kp] at hx
    by_cases c1 : x.ty = kind
    · rw [if_pos c1] at hx
      simp (disch := omega) [c1, bl, gt, hl, BB.c19, blkV_cells]
      by_cases c2 : x.nu = num
      · rw [if_pos c2] at hx
        simp (disch := omega) [c2, w1]
        exact ih (by omega) m R (by omega) ks Q hx
      · rw [if_neg c2] at hx
        have := ih (by omega) m (x :: R) (by simp only [List.length_cons]; omega) ks Q hx
        simp (disch := omega) [c2, w1, bl, gt, hl, BB.c19, blkV_cells, rl]
        exact this
    · rw [if_neg c1] at hx
      simp (disch := omega) [c1, bl, gt, hl, BB.c19, blkV_cells]
      by_cases c2 : x.nu = num
      · rw [if_pos c2] at hx
        simp (disch := omega) [c2, w1]
        exact ih (by omega) A R (by omega) ks Q hx
      · rw [if_neg c2] at hx
        have := ih (by omega) A (x :: R) (by simp only [List.length_cons]; omega) ks Q hx
        simp (disch := omega) [c2, w1, bl, gt, hl, BB.c19, blkV_cells, rl]
        exact this
def q28 (b : BB) (now kind num : Int) : List V := b.cells ++ [.int .u64 now, .int .u64 kind, .int .u64 num]
theorem q28_len (b : BB) (now kind num : Int) : (q28 b now kind num).length = 28 := rfl
theorem q28_tk (b : BB) (now kind num : Int) : (q28 b now kind num).take 25 = b.cells := rfl
theorem q28_25 (b : BB) (now kind num : Int) : (q28 b now kind num)[25]? = some (.int .u64 now) := rfl
theorem q28_26 (b : BB) (now kind num : Int) : (q28 b now kind num)[26]? = some (.int .u64 kind) := rfl
theorem q28_27 (b : BB) (now kind num : Int) : (q28 b now kind num)[27]? = some (.int .u64 num) := rfl
theorem q28_one (b : BB) (now kind num : Int) : (q28 b now kind num).all V.one = true := by simp [q28, BB.cells]
theorem keepN_len (n : Int) (l : List B5) : (keepN n l).length ≤ l.length := List.length_filter_le _ _
def tlL : ACode := match k_law11_BundleLooks with
  | .seq _ (.seq _ (.seq _ (.seq _ (.seq _ (.seq _ (.seq _ (.seq _ t))))))) => t
  | _ => .skip
theorem tailL (b : BB) (hb : BBin b) (hn : b.bl.length ≤ 20) (now num : Int) (a X : Option (List V)) :
    Xc T tlL [] [(3, .ptr 1 0), (4, .int .u64 now), (6, .int .u64 num), (10, .ps 5 (b5s (keepN num b.bl))), (96, .bool false)] [a, some b.cells, X] (RetE [RV.t 2] [] (.bool true)) := by
  have bl := b5s_len b.bl
  obtain ⟨_, rW⟩ := Without_run b num (by omega)
  have kl := keepN_len num b.bl
  obtain ⟨_, rS⟩ := R11Same_run (outB b num) (by show (keepN num b.bl).length ≤ 1000000; omega)
  obtain ⟨_, rK⟩ := BKey_run b hb.p
  obtain ⟨_, rL⟩ := R11Key_run b hb.p
  obtain ⟨_, rO⟩ := BOver_run b now hb.p
  obtain ⟨_, rE⟩ := REnd2 b.p.st b.p.sq b.p.life hb.p.st hb.p.life
  have bh := BB.hf b
  have oh := BB.hf (outB b num)
  have bv : b.v = .agg b.cells := rfl
  have ov : (outB b num).v = .agg (outB b num).cells := rfl
  rw [bv] at rW rK rL rO bh
  rw [ov] at rW rS oh
  have oh2 : V.hfs [V.agg (outB b num).cells, V.agg (outB b num).cells] = true := by simp only [V.hfs, oh]; rfl
  have zc : zB.cells = [.int .u64 0, .int .i64 0, .int .i64 0, .str [], .int .u64 0, .int .u64 0, .int .i64 0, .str [], .int .u64 0, .int .u64 0, .int .i64 0, .str [], .int .u64 0, .int .u64 0, .int .u64 0, .int .u64 0, .int .u64 0, .int .u64 0, .int .u64 0, .ps 5 [], .int .u64 0, .int .u64 0, .int .u64 0, .int .i64 0, .str []] := rfl
  have s1 : spliceL zB.cells 0 b.p.cells = BB.cells ⟨b.p, [], ⟨0, 0, 0, 0, []⟩⟩ := rfl
  have s2 : ∀ bl, spliceL (BB.cells ⟨b.p, [], ⟨0, 0, 0, 0, []⟩⟩) 19 [.ps 5 (b5s bl)] = BB.cells ⟨b.p, bl, ⟨0, 0, 0, 0, []⟩⟩ := fun _ => rfl
  have s3 : ∀ bl, spliceL (BB.cells ⟨b.p, bl, ⟨0, 0, 0, 0, []⟩⟩) 20 b.pay.v.cells = BB.cells ⟨b.p, bl, b.pay⟩ := fun _ => rfl
  have ob : BB.mk b.p (keepN num b.bl) b.pay = outB b num := rfl
  have q1 : b.p.cells.length = 19 := rfl
  have q2 : b.pay.v.cells.length = 5 := rfl
  have tT : V.agg ((b.cells.drop 14).take 2) = .agg [.int .u64 b.p.st, .int .u64 b.p.sq] := rfl
  have c16 : b.cells[16]? = some (.int .u64 b.p.life) := rfl
  have ch : V.hfs [V.agg b.cells, V.int .u64 now] = true := by simp only [V.hfs, bh]; rfl
  show Xc T (.seq _ _) _ _ _ _
  simp only [Xc_seq]
  simp (disch := omega) [BB.len, BB.tk]
  rw [Xp_run rW (by simp only [V.hfs, bh]; rfl) (by simp [oh]) (by simp)]
  simp (disch := omega) [← zc, BB.len, BB.one, BB.sp, BB.tP, BB.tY, s1, s2, s3, q1, q2, ob, BB.tk, awake11_p]
  rw [Xp_run rS oh2 rfl (by simp)]
  simp (disch := omega) [BB.len, BB.tk]
  rw [Xp_run rK (by simp [bh]) rfl (by simp)]
  simp (disch := omega) [BB.len, BB.tk]
  rw [Xp_run rL (by simp [bh]) rfl (by simp)]
  simp (disch := omega) [BB.len, BB.tk]
  rw [Xp_run rO ch rfl (by simp)]
  simp (disch := omega) [BB.len, tT, c16]
  rw [Xp_run rE (by simp) rfl (by simp)]
  simp (disch := omega)
theorem LooksB_run (b : BB) (now kind num : Int) (hb : BBin b) : ∃ h', Run T f_law11_BundleLooks [.agg (q28 b now kind num)] [] (.bool true) h' := by
  obtain ⟨_, rL⟩ := Light_run b ⟨hb.p.n1, hb.p.n2, hb.p.n3⟩
  have bl := b5s_len b.bl
  have bh := BB.hf b
  have bv : b.v = .agg b.cells := rfl
  rw [bv] at rL bh
  have zc : zB.cells = [.int .u64 0, .int .i64 0, .int .i64 0, .str [], .int .u64 0, .int .u64 0, .int .i64 0, .str [], .int .u64 0, .int .u64 0, .int .i64 0, .str [], .int .u64 0, .int .u64 0, .int .u64 0, .int .u64 0, .int .u64 0, .int .u64 0, .int .u64 0, .ps 5 [], .int .u64 0, .int .u64 0, .int .u64 0, .int .i64 0, .str []] := rfl
  have c6 : b.cells[6]? = some (.int .i64 b.p.s.sc) := rfl
  refine Run.startE t_law11_BundleLooks ?_
  unfold k_law11_BundleLooks
  show Xc T (.seq _ (.seq _ (.seq _ (.seq _ (.seq _ (.seq _ (.seq _ (.seq _ tlL)))))))) _ _ _ _
  simp (disch := omega) [q28_len, q28_one]
  apply Xc_regf
  simp (disch := omega) [q28_len, q28_tk, q28_25, q28_26, q28_27, ← zc, BB.len, BB.one, BB.sp, BB.tk]
  simp (disch := omega) [flagsIn, flagP, evOp, q28_len, q28_tk, q28_25, q28_26, q28_27, ← zc, BB.len, BB.one, BB.sp, BB.tk]
  rw [Xp_run rL (by simp [bh]) rfl (by simp)]
  cases hl : lightB b with
  | false => simp (disch := omega) [awake11_p]
  | true =>
    have l20 : b.bl.length ≤ 20 := by
      unfold lightB at hl
      apply Classical.byContradiction
      intro q
      rw [if_pos (.inl (by omega))] at hl
      cases hl
    by_cases sc0 : b.p.s.sc < 0
    · simp (disch := omega) [c6, sc0, awake11_p]
    obtain ⟨_, rF⟩ := Find_run b kind (by omega)
    rw [bv] at rF
    have fc := fIdxP_find (fun x => decide (x.ty = kind)) b.bl 0
    simp (disch := omega) [c6, sc0, BB.len, BB.tk]
    unfold findV at rF
    have i1 : ((b.bl.length : Nat) : Int) - 1 = ((b.bl.length : Nat) : Int) - 1 := rfl
    rcases fc with ⟨h1, h2, h3⟩ | ⟨k, hk, h1, h2, h3, h4⟩
    · rw [h2] at rF
      have lp := looks_loop b (by omega) now kind num false (some (q28 b now kind num)) (some (xc 0 0 0 0 [])) b.bl.length (Nat.le_refl _) (-1) [] (by simp; omega)
      rw [atD_no b.bl kind h3, List.append_nil, List.take_length] at lp
      simp only [xc] at rF lp
      rw [Xp_run rF (by simp only [V.hfs, bh]; rfl) (by simp) (by simp)]
      simp (disch := omega) [BB.c19, bl]
      refine lp _ _ (fun z => ?_)
      simp (disch := omega)
      exact tailL b hb l20 now num _ _
    · rw [h2] at rF
      have lp := looks_loop b (by omega) now kind num true (some (q28 b now kind num)) (some (xc b.bl[k].ty b.bl[k].nu b.bl[k].fl b.bl[k].k b.bl[k].s)) b.bl.length (Nat.le_refl _) (-1) [] (by simp; omega)
      rw [atD_at b.bl kind k hk h3 h4 _ _ hk, List.append_nil, List.take_length] at lp
      have gt := b5s_get b.bl k hk
      simp only [xc] at rF lp
      rw [Xp_run rF (by simp only [V.hfs, bh]; rfl) (by simp) (by simp)]
      simp (disch := omega) [BB.c19, bl]
      refine lp _ _ (fun z => ?_)
      simp (disch := omega) [BB.c19, bl, gt, hk, blkV_cells]
      exact tailL b hb l20 now num _ _
abbrev sh28 : List CS := [.i .u64, .i .i64, .i .i64, .s, .i .u64, .i .u64, .i .i64, .s, .i .u64, .i .u64, .i .i64, .s, .i .u64, .i .u64, .i .u64, .i .u64, .i .u64, .i .u64, .i .u64, .sl true 48 sh5, .i .u64, .i .u64, .i .u64, .i .i64, .s, .i .u64, .i .u64, .i .u64]
theorem law_BundleLooks (x : V) (hx : ∃ vs, x = .agg vs ∧ Row sh28 vs) : ∃ h', Run T f_law11_BundleLooks [x] [] (.bool true) h' := by
  obtain ⟨vs, rfl, hr⟩ := hx
  obtain ⟨as, cs, rfl, h1, h2⟩ := row_cut (ss := sh25) (ts := [.i .u64, .i .u64, .i .u64]) hr
  obtain ⟨b, e, hb⟩ := readBB as h1
  obtain ⟨v0, r0, rfl, t0, h2⟩ := h2.cons
  obtain ⟨v1, r1, rfl, t1, h2⟩ := h2.cons
  obtain ⟨v2, r2, rfl, t2, h2⟩ := h2.cons
  obtain rfl := h2.none
  obtain ⟨n0, rfl, _⟩ := t0.int
  obtain ⟨n1, rfl, _⟩ := t1.int
  obtain ⟨n2, rfl, _⟩ := t2.int
  have e1 : as = b.cells := V.agg.inj (e.trans (show b.v = .agg b.cells from rfl))
  subst e1
  exact LooksB_run b n0 n1 n2 hb
end Ev
