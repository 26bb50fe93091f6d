/- Fragments: of one bundle? Fragments: do they fit? As the program, and as the document says. Fragments: do they fit, as the document says; is a place in one? Fragments: a fragment's data laid. Fragments: all data laid. Fragments: spans, sorted; which places are in none. Fragments: which places are in none, walked. Fragments: which places are in none, to the end. Fragments put together: checks, the first one, a whole bundle's first block. Fragments put together. The law FragJoins. Fragments: how many pieces, and a piece. Fragments: a bundle in pieces. Each theorem states its own conditions. -/
import Derived.Test.YtienkohkbihdoaaHCode
import Derived.Test.YtienkohkbihdoaaHV6
import Derived.Test.YtienkohkbihdoaaHPs
set_option linter.all false
namespace Ev
open Go
set_option maxRecDepth 10000
attribute [-simp] getElem?_pos getElem?_neg List.drop_one
theorem awake12 : ∃ h', Run T f_law12_awake [] [] (.bool true) h' := Run.closed (n := 300) (by kernel_rfl)
section
variable {ks : List Kt} {ops : List AOpr} {K : Kp} {e : Env} {h : Heap} {Q : Ex → Env → Heap → Prop} {d : Nat} {lent : Bool}
theorem awake12_p : Xp T f_law12_awake (some ([], lent)) h (some d) ops K ks e Q = Xo T ops K ks ((d, .bool true) :: e) h Q := by
  obtain ⟨h', r⟩ := awake12
  exact Xp_run r rfl rfl (by simp [scalar])
end
def bbs (l : List BB) : List V := l.map BB.v
theorem bbs_len (l : List BB) : (bbs l).length = l.length := by simp [bbs]
theorem bbs_get (l : List BB) (i : Nat) (h : i < l.length) : (bbs l)[i]? = some l[i].v := by simp [bbs, List.getElem?_eq_getElem h]
theorem bbs_hf (l : List BB) : V.hfs (bbs l) = true := by
  induction l with
  | nil => rfl
  | cons x l ih => show (x.v.hf && V.hfs (bbs l)) = true; rw [BB.hf, ih]; rfl
theorem BB.vc (b : BB) : b.v.cells = b.cells := rfl
theorem BB.c0 (b : BB) : b.cells[0]? = some (.int .u64 b.p.fl) := rfl
theorem BB.c17 (b : BB) : b.cells[17]? = some (.int .u64 b.p.off) := rfl
theorem BB.c18 (b : BB) : b.cells[18]? = some (.int .u64 b.p.tot) := rfl
theorem PP.len (p : PP) : p.cells.length = 19 := rfl
theorem PP.cv (p : PP) : V.agg p.cells = p.v := rfl
def eqE (a b : E4) : Bool := decide (a.sc = b.sc) && decide (a.nm = b.nm) && decide (a.nd = b.nd) && decide (a.sv = b.sv)
def eqT (a b : PP) : Bool := decide (a.st = b.st) && decide (a.sq = b.sq)
def sameP (a b : PP) : Bool := eqE a.s b.s && eqT a b && (fragB a.fl == fragB b.fl) && decide (a.tot = b.tot)
theorem FgSame_run (a b : PP) (ha : PPok a) (hb : PPok b) (h : Heap) : ∃ h', Run T f_primary_Same [a.v, b.v] h (.bool (sameP a b)) h' := by
  obtain ⟨_, fa⟩ := Fragment_run a ha.f0 ha.f1 []
  obtain ⟨_, fb⟩ := Fragment_run b hb.f0 hb.f1 []
  have xa := fun {ks ops K e h Q d lent} => Xp_run (ks := ks) (ops := ops) (K := K) (e := e) (h := h) (Q := Q) (d := d) (b := lent) fa (by simp [PP.hf]) rfl (by simp [scalar])
  have xb := fun {ks ops K e h Q d lent} => Xp_run (ks := ks) (ops := ops) (K := K) (e := e) (h := h) (Q := Q) (d := d) (b := lent) fb (by simp [PP.hf]) rfl (by simp [scalar])
  refine Run.startE t_primary_Same ?_
  unfold k_primary_Same sameP eqE eqT
  unfold PP.v at xa xb ⊢
  by_cases c1 : a.s.sc = b.s.sc
  · by_cases c2 : a.s.nm = b.s.nm
    · by_cases c3 : a.s.nd = b.s.nd
      · by_cases c4 : a.s.sv = b.s.sv
        · by_cases c5 : a.st = b.st
          · by_cases c6 : a.sq = b.sq
            · cases c7 : fragB a.fl <;> cases c8 : fragB b.fl <;>
              ( rw [c7] at xa; rw [c8] at xb
                simp only [c1, c2, c3, c4, c5, c6] at xa
                simp (disch := omega) [c1, c2, c3, c4, c5, c6, xa, xb])
            · simp (disch := omega) [c1, c2, c3, c4, c5, c6]
          · simp (disch := omega) [c1, c2, c3, c4, c5]
        · simp (disch := omega) [c1, c2, c3, c4]
      · simp (disch := omega) [c1, c2, c3]
    · simp (disch := omega) [c1, c2]
  · simp (disch := omega) [c1]
/-- What is read of a bundle that is light. -/
structure BOk (b : BB) : Prop where
  p : PPok b.p
  o1 : b.p.off ≤ 18446744073709551615
  t1 : b.p.tot ≤ 18446744073709551615
  s : b.pay.s.length ≤ 100000
  fr : fragB b.p.fl = true → b.p.off < b.p.tot
def fitB (a : PP) (b : BB) : Bool := fragB b.p.fl && sameP b.p a && decide ((b.pay.s.length : Int) ≤ b.p.tot - b.p.off) && decide (b.p.tot ≤ 65536)
theorem zB_cells : [.int .u64 0, .int .i64 0, .int .i64 0, .str [], .int .u64 0, .int .u64 0, .int .i64 0, .str [], .int .u64 0, .int .u64 0, .int .i64 0, .str [], .int .u64 0, .int .u64 0, .int .u64 0, .int .u64 0, .int .u64 0, .int .u64 0, .int .u64 0, .ps 5 [], .int .u64 0, .int .u64 0, .int .u64 0, .int .i64 0, .str []] = zB.cells := rfl
theorem zP_cells : [.int .u64 0, .int .i64 0, .int .i64 0, .str [], .int .u64 0, .int .u64 0, .int .i64 0, .str [], .int .u64 0, .int .u64 0, .int .i64 0, .str [], .int .u64 0, .int .u64 0, .int .u64 0, .int .u64 0, .int .u64 0, .int .u64 0, .int .u64 0] = zB.p.cells := rfl
theorem PP.sp (a b : PP) : spliceL a.cells 0 b.cells = b.cells := rfl
theorem PP.tk (b : PP) : b.cells.take 19 = b.cells := rfl
theorem PP.vc (p : PP) : p.v.cells = p.cells := rfl
theorem PP.one (b : PP) : b.cells.all V.one = true := by simp [PP.cells]
theorem rowA {g w : Heap} {x : Option (List V)} : Heap.row (g ++ x :: w) g.length = x := by
  unfold Heap.row
  rw [List.getElem?_append_right (Nat.le_refl _), Nat.sub_self]; rfl
theorem rlt {g : Heap} {j : Nat} {cs : List V} (h : Heap.row g j = some cs) : j < g.length := by
  unfold Heap.row at h
  cases hh : g[j]? with
  | none => simp [hh] at h
  | some z => exact (List.getElem?_eq_some_iff.1 hh).1
attribute [local simp] BB.tk BB.len BB.one BB.sp BB.c0 BB.c17 BB.c18 BB.c19 BB.c24 PP.len PP.tk PP.one PP.sp BB.vc PP.vc PP.cv BB.tP
theorem sub_u (a b : Int) (h0 : 0 ≤ b) (h1 : b < a) (h2 : a ≤ 18446744073709551615) : IntKind.u64.wrap (a - b) = a - b := by
  obtain ⟨n, hn⟩ := Int.eq_ofNat_of_zero_le (show 0 ≤ a - b by omega)
  rw [hn]; exact wrap_nat n (by omega)
theorem FgFits_loop (l : List BB) (a : PP) (ha : PPok a) (hl : l.length ≤ 1000000) (hok : ∀ b ∈ l, BOk b) (R : Nat) : ∀ (m i : Nat) (g : Heap), i + m = l.length → g.row R = some a.cells → ∀ ks Q,
    ((l.drop i).all (fitB a) = true → ∀ z g', Xk T ks (.x 0) z g' Q) → ((l.drop i).all (fitB a) = false → ∀ g', Xk T ks .r [(2, .bool false)] g' Q) →
    Xc T l_frag_fits_0 ks [(3, .ptr R 0), (11, .ps 25 (bbs l)), (12, .int .i64 l.length), (13, .int .i64 i)] g Q := by
  intro m
  induction m with
  | zero =>
    intro i g hi hR ks Q h1 h2
    have e : l.drop i = [] := List.drop_eq_nil_of_le (by omega)
    rw [e] at h1
    have c1 : ¬ (i : Int) < l.length := by omega
    rw [L_frag_fits_0]; unfold bl_frag_fits_0
    simp (disch := omega) [c1]
    exact h1 rfl _ _
  | succ m ih =>
    intro i g hi hR ks Q h1 h2
    have hil : i < l.length := by omega
    have e := List.drop_eq_getElem_cons hil
    rw [e] at h1 h2
    have c1 : (i : Int) < l.length := by omega
    have g1 := bbs_get l i hil
    have hb := hok l[i] (List.getElem_mem _)
    obtain ⟨b, hb'⟩ : ∃ b, b = l[i] := ⟨_, rfl⟩
    rw [← hb'] at g1 hb h1 h2
    rw [List.all_cons] at h1 h2
    have Rl := rlt hR
    have ih := ih (i + 1) (g ++ [some b.cells]) (by omega) (by rw [row_app Rl]; exact hR) ks Q
    rw [show ((i + 1 : Nat) : Int) = (i : Int) + 1 from rfl] at ih
    obtain ⟨_, fb⟩ := Fragment_run b.p hb.p.f0 hb.p.f1 []
    obtain ⟨_, sb⟩ := FgSame_run b.p a hb.p ha []
    have xf := fun {ks ops K e h Q d lent} => Xp_run (ks := ks) (ops := ops) (K := K) (e := e) (h := h) (Q := Q) (d := d) (b := lent) fb (by simp [PP.hf]) rfl (by simp [scalar])
    have xs := fun {ks ops K e h Q d lent} => Xp_run (ks := ks) (ops := ops) (K := K) (e := e) (h := h) (Q := Q) (d := d) (b := lent) sb (by simp [PP.hf]) rfl (by simp [scalar])
    have hb1 := hb.s
    have rA : ∀ x w, Heap.row (g ++ x :: w) g.length = x := fun x w => rowA
    rw [L_frag_fits_0]; unfold bl_frag_fits_0
    rw [zB_cells]
    cases c2 : fragB b.p.fl with
    | false =>
      have k : fitB a b = false := by simp [fitB, c2]
      rw [k] at h2
      rw [c2] at xf
      simp (disch := omega) [c1, hil, g1, rA, xf, hR]
      exact h2 rfl _
    | true =>
      rw [c2] at xf
      have hfr := hb.fr c2
      have su := sub_u b.p.tot b.p.off hb.p.o0 hfr hb.t1
      cases c3 : sameP b.p a with
      | false =>
        have k : fitB a b = false := by simp [fitB, c3]
        rw [k] at h2
        rw [c3] at xs
        simp (disch := omega) [c1, hil, g1, rA, xf, xs, hR]
        exact h2 rfl _
      | true =>
        rw [c3] at xs
        by_cases c4 : (b.pay.s.length : Int) ≤ b.p.tot - b.p.off
        · have c4' : ¬ b.p.tot - b.p.off < (b.pay.s.length : Int) := by omega
          by_cases c5 : b.p.tot ≤ 65536
          · have c5' : ¬ 65536 < b.p.tot := by omega
            have k : fitB a b = true := by simp [fitB, c2, c3, c4, c5]
            rw [k] at h1 h2
            simp (disch := omega) [c1, hil, g1, rA, xf, xs, hR, su, c4, c4', c5, c5']
            exact ih h1 h2
          · have c5' : 65536 < b.p.tot := by omega
            have k : fitB a b = false := by simp [fitB, c5]
            rw [k] at h2
            simp (disch := omega) [c1, hil, g1, rA, xf, xs, hR, su, c4, c4', c5, c5']
            exact h2 rfl _
        · have c4' : b.p.tot - b.p.off < (b.pay.s.length : Int) := by omega
          have k : fitB a b = false := by simp [fitB, c4]
          rw [k] at h2
          simp (disch := omega) [c1, hil, g1, rA, xf, xs, hR, su, c4, c4']
          exact h2 rfl _
theorem FgFits_run (x : BB) (r : List BB) (hl : (x :: r).length ≤ 1000000) (hok : ∀ b ∈ x :: r, BOk b) : ∃ h', Run T f_frag_fits [.ps 25 (bbs (x :: r))] [] (.bool ((x :: r).all (fitB x.p))) h' := by
  have lp := FgFits_loop (x :: r) x.p (hok x (by simp)).p hl hok 0 (x :: r).length 0 [some x.p.cells] (by omega) rfl
  have bl := bbs_len (x :: r)
  have g0 : (bbs (x :: r))[0]? = some x.v := rfl
  obtain ⟨v, h', ev, rr⟩ := Run.startP (P := fun v _ => v = .bool ((x :: r).all (fitB x.p))) (vs := [.ps 25 (bbs (x :: r))]) (h := []) t_frag_fits (by
    unfold k_frag_fits
    rw [zP_cells]
    simp (disch := omega) [bl, g0]
    refine lp _ _ (fun h z g' => ?_) (fun h g' => ?_)
    · simp at h
      simp [h]
      exact fun b hb => h.2 b hb
    · have h : (fitB x.p x && r.all (fitB x.p)) = false := h
      simp [h])
  subst ev
  exact ⟨h', rr⟩
attribute [local simp] BB.tk BB.len BB.one BB.sp BB.c0 BB.c17 BB.c18 BB.c19 BB.c24 PP.len PP.tk PP.one PP.sp BB.vc PP.vc PP.cv BB.tP
theorem PP.c0 (p : PP) : p.cells[0]? = some (.int .u64 p.fl) := rfl
theorem PP.c17 (p : PP) : p.cells[17]? = some (.int .u64 p.off) := rfl
theorem PP.c18 (p : PP) : p.cells[18]? = some (.int .u64 p.tot) := rfl
theorem PP.t6 (p : PP) : (p.cells.drop 6).take 4 = [.int .i64 p.s.sc, .str p.s.nm, .int .u64 p.s.nd, .int .u64 p.s.sv] := rfl
theorem PP.t14 (p : PP) : (p.cells.drop 14).take 2 = [.int .u64 p.st, .int .u64 p.sq] := rfl
attribute [local simp] PP.c0 PP.c17 PP.c18 PP.t6 PP.t14
theorem op_rem2 (q : EqK) (fl : Int) (h0 : 0 ≤ fl) (h1 : fl ≤ 18446744073709551615) : binV .rem q (.int .u64 fl) (.int .u64 2) = some (.int .u64 (if fragB fl then 1 else 0)) := by
  have e5 : fl.tmod 2 = fl % 2 := Int.tmod_eq_emod_of_nonneg h0
  have e6 : IntKind.u64.wrap (fl % 2) = fl % 2 := by
    obtain ⟨n, hn⟩ := Int.eq_ofNat_of_zero_le (show 0 ≤ fl % 2 by omega)
    rw [hn]; exact wrap_nat n (by omega)
  unfold fragB
  by_cases c : fl % 2 = 1
  · simp [binV, arithV, intOp, e5, e6, c]
  · have : fl % 2 = 0 := by omega
    simp [binV, arithV, intOp, e5, e6, this]
/-- A bundle's byte at a place. -/
def val (b : BB) (p : Nat) : Option UInt8 := if b.p.off ≤ p then b.pay.s[(p - b.p.off).toNat]? else none
attribute [local simp] BB.tk BB.len BB.one BB.sp BB.c0 BB.c17 BB.c18 BB.c19 BB.c24 PP.len PP.tk PP.one PP.sp BB.vc PP.vc PP.cv BB.tP
def blsF (t : List Bool) : List V := t.map V.bool
theorem blsF_len (t : List Bool) : (blsF t).length = t.length := by simp [blsF]
/-- Bytes are laid from a place on. -/
def fillL : Nat → List UInt8 → List UInt8 → List Bool → Option (List UInt8 × List Bool)
  | _, [], d, t => some (d, t)
  | p, c :: s, d, t => if t[p]? = some true ∧ d[p]? ≠ some c then none else fillL (p + 1) s (d.set p c) (t.set p true)
theorem fillL_some : ∀ (s : List UInt8) (p : Nat) (d : List UInt8) (t : List Bool) (d' : List UInt8) (t' : List Bool), p + s.length ≤ d.length → d.length = t.length → fillL p s d t = some (d', t') →
    d'.length = d.length ∧ t'.length = t.length ∧ (∀ q, q < p ∨ p + s.length ≤ q → d'[q]? = d[q]? ∧ t'[q]? = t[q]?) ∧ (∀ j, j < s.length → d'[p + j]? = s[j]? ∧ t'[p + j]? = some true) ∧ (∀ j, j < s.length → t[p + j]? = some true → d[p + j]? = s[j]?)
  | [], p, d, t, d', t', _, _, h => by
    cases h
    exact ⟨rfl, rfl, fun q _ => ⟨rfl, rfl⟩, fun j h => by simp at h, fun j h => by simp at h⟩
  | c :: s, p, d, t, d', t', hl, hdt, h => by
    simp only [List.length_cons] at hl
    simp only [fillL] at h
    split at h
    · cases h
    · rename_i hn
      obtain ⟨e1, e2, e3, e4, e5⟩ := fillL_some s (p + 1) (d.set p c) (t.set p true) d' t' (by simp; omega) (by simp [hdt]) h
      simp only [List.length_set] at e1 e2
      refine ⟨e1, e2, fun q hq => ?_, fun j hj => ?_, fun j hj ht => ?_⟩
      · simp only [List.length_cons] at hq
        obtain ⟨f1, f2⟩ := e3 q (by omega)
        exact ⟨by rw [f1, List.getElem?_set_ne (by omega)], by rw [f2, List.getElem?_set_ne (by omega)]⟩
      · cases j with
        | zero =>
          obtain ⟨f1, f2⟩ := e3 p (by omega)
          refine ⟨?_, ?_⟩
          · rw [Nat.add_zero, f1, List.getElem?_set_self (by omega)]; rfl
          · rw [Nat.add_zero, f2, List.getElem?_set_self (by omega)]
        | succ j =>
          have := e4 j (by simpa using hj)
          rw [show p + (j + 1) = p + 1 + j by omega]
          exact this
      · cases j with
        | zero =>
          rw [Nat.add_zero] at ht ⊢
          have : d[p]? = some c := Decidable.byContradiction fun k => hn ⟨ht, k⟩
          rw [this]; rfl
        | succ j =>
          have := e5 j (by simpa using hj) (by rw [List.getElem?_set_ne (by omega), ← ht]; congr 1; omega)
          rw [List.getElem?_set_ne (by omega)] at this
          rw [show p + (j + 1) = p + 1 + j by omega, this]
          rfl
theorem fillL_none : ∀ (s : List UInt8) (p : Nat) (d : List UInt8) (t : List Bool), p + s.length ≤ d.length → d.length = t.length → fillL p s d t = none → ∃ j, j < s.length ∧ t[p + j]? = some true ∧ d[p + j]? ≠ s[j]?
  | [], p, d, t, _, _, h => by cases h
  | c :: s, p, d, t, hl, hdt, h => by
    simp only [List.length_cons] at hl
    simp only [fillL] at h
    split at h
    · rename_i hn
      exact ⟨0, by simp, hn.1, by simpa using hn.2⟩
    · obtain ⟨j, h1, h2, h3⟩ := fillL_none s (p + 1) (d.set p c) (t.set p true) (by simp; omega) (by simp [hdt]) h
      rw [List.getElem?_set_ne (by omega)] at h2 h3
      exact ⟨j + 1, by simp; omega, by rw [← h2]; congr 1; omega, by rw [show p + (j + 1) = p + 1 + j by omega]; exact h3⟩
/-- The rows but two are as they were. -/
def HK2 (g g' : Heap) (a b : Nat) : Prop := g'.length = g.length ∧ ∀ i, i ≠ a → i ≠ b → Heap.row g' i = Heap.row g i
theorem HK2.refl (g : Heap) (a b : Nat) : HK2 g g a b := ⟨rfl, fun _ _ _ => rfl⟩
theorem HK2.trans {g h k : Heap} {a b : Nat} (x : HK2 g h a b) (y : HK2 h k a b) : HK2 g k a b := ⟨y.1.trans x.1, fun i h1 h2 => (y.2 i h1 h2).trans (x.2 i h1 h2)⟩
theorem HK2.set (g : Heap) (a b : Nat) (x y : Option (List V)) : HK2 g ((g.set a x).set b y) a b := ⟨by simp, fun i h1 h2 => by rw [row_ne (fun e => h2 e.symm), row_ne (fun e => h1 e.symm)]⟩
theorem fill_loopF (b : BB) (o N D B : Nat) (hDB : D ≠ B) (hN : o + b.pay.s.length ≤ N) (hN2 : N ≤ 1000000) : ∀ (m i : Nat) (d : List UInt8) (t : List Bool) (g : Heap), i + m = b.pay.s.length → d.length = N → t.length = N → g.row D = some (bys d) → g.row B = some (blsF t) → ∀ ks Q,
    (∀ d' t' g' z, fillL (o + i) (b.pay.s.drop i) d t = some (d', t') → HK2 g g' D B → g'.row D = some (bys d') → g'.row B = some (blsF t') → Xk T ks (.x 0) z g' Q) →
    (fillL (o + i) (b.pay.s.drop i) d t = none → ∀ g', HK2 g g' D B → Xk T ks .r [(6, .bool false)] g' Q) →
    Xc T l_frag_fill_0 ks [(1, .hs 1 B 0 N), (5, .rp b.cells), (7, .int .i64 o), (8, .hs 1 D o b.pay.s.length), (31, .int .i64 b.pay.s.length), (32, .int .i64 i)] g Q := by
  intro m
  induction m with
  | zero =>
    intro i d t g hi hd ht hD hB ks Q h1 h2
    have e : b.pay.s.drop i = [] := List.drop_eq_nil_of_le (by omega)
    rw [e] at h1
    have c1 : ¬ (i : Int) < b.pay.s.length := by omega
    rw [L_frag_fill_0]; unfold bl_frag_fill_0
    simp (disch := omega) [c1]
    exact h1 d t g _ rfl (HK2.refl _ _ _) hD hB
  | succ m ih =>
    intro i d t g hi hd ht hD hB ks Q h1 h2
    have hil : i < b.pay.s.length := by omega
    have c1 : (i : Int) < b.pay.s.length := by omega
    have e := List.drop_eq_getElem_cons hil
    rw [e] at h1 h2
    have gs : b.pay.s[i]? = some b.pay.s[i] := List.getElem?_eq_getElem hil
    obtain ⟨c, hc⟩ : ∃ c, c = b.pay.s[i] := ⟨_, rfl⟩
    rw [← hc] at gs h1 h2
    have hod : o + i < d.length := by omega
    have hot : o + i < t.length := by omega
    have gd : (bys d)[o + i]? = some (byteV d[o + i]) := by rw [bys_get, List.getElem?_eq_getElem hod]; rfl
    have gt : (blsF t)[o + i]? = some (.bool t[o + i]) := by simp [blsF, List.getElem?_eq_getElem hot]
    simp only [fillL, List.getElem?_eq_getElem hod, List.getElem?_eq_getElem hot, ne_eq, Option.some.injEq] at h1 h2
    have wr := wrap_i64 (x := (o : Int) + i) (by omega) (by omega)
    have oi : ((o : Int) + i).toNat = o + i := by omega
    have oiN : (o : Int) + i < N := by omega
    have bl := blsF_len t
    have yl := bys_len d
    generalize d[o + i] = x at *
    have Dl := rlt hD
    have Bl := rlt hB
    rw [L_frag_fill_0]; unfold bl_frag_fill_0
    by_cases c2 : t[o + i] = true ∧ ¬ x = c
    · rw [if_pos c2] at h2
      have c3 : ¬ ((x.toNat : Int) = c.toNat) := fun q => c2.2 (u8_inj.1 q)
      simp (disch := omega) [c1, gs, gd, gt, hD, hB, wr, oi, oiN, c2.1, byteV_def, c3, bl, yl, hil]
      exact h2 rfl g (HK2.refl _ _ _)
    · rw [if_neg c2] at h1 h2
      have hbd : (bys d).set (o + i) (byteV c) = bys (d.set (o + i) c) := by simp [bys, List.map_set]
      have hbt : (blsF t).set (o + i) (.bool true) = blsF (t.set (o + i) true) := by simp [blsF, List.map_set]
      have k := HK2.set g D B (some (bys (d.set (o + i) c))) (some (blsF (t.set (o + i) true)))
      have := ih (i + 1) (d.set (o + i) c) (t.set (o + i) true) ((g.set D (some (bys (d.set (o + i) c)))).set B (some (blsF (t.set (o + i) true)))) (by omega) (by simp [hd]) (by simp [ht]) (by rw [row_ne (fun e => hDB e.symm), row_set Dl]) (row_set (by simpa using Bl)) ks Q (fun d' t' g' z q1 q2 => h1 d' t' g' z q1 (k.trans q2)) (fun q1 g' q2 => h2 q1 g' (k.trans q2))
      rw [show ((i + 1 : Nat) : Int) = (i : Int) + 1 from rfl] at this
      have hB2 : Heap.row (g.set D (some (bys (d.set (o + i) c)))) B = some (blsF t) := by rw [row_ne hDB]; exact hB
      rw [byteV_def] at hbd
      cases c3 : t[o + i] with
      | false =>
        rw [c3] at gt
        simp (disch := omega) [c1, gs, gd, gt, hD, hB, wr, oi, oiN, byteV_def, bl, yl, hil, hbd, hbt, hB2]
        exact this
      | true =>
        rw [c3] at gt
        have c4 : x = c := Decidable.byContradiction fun q => c2 ⟨c3, q⟩
        subst c4
        simp (disch := omega) [c1, gs, gd, gt, hD, hB, wr, oi, oiN, byteV_def, bl, yl, hil, hbd, hbt, hB2]
        exact this
attribute [local simp] BB.tk BB.len BB.one BB.sp BB.c0 BB.c17 BB.c18 BB.c19 BB.c24 PP.len PP.tk PP.one PP.sp BB.vc PP.vc PP.cv BB.tP
theorem slX (b N o n : Nat) (h : o + n ≤ N) : slV (.sl 1) (.hs 1 b 0 N) (some (.int .i64 o)) (some (.int .i64 (o + n : Nat))) (some (.int .i64 (o + n : Nat))) = some (if n = 0 then .ps 1 [] else .hs 1 b o n) := by
  have e1 : (((o + n : Nat) : Int)).toNat = o + n := by omega
  have h1 : ((o : Int)).toNat = o := by omega
  simp only [slV, bndO, bndV, e1, h1, Option.isSome_some, imp_self, and_self, if_true]
  rw [if_pos (by omega)]
  simp only [Option.bind_some]
  rw [if_pos (by omega)]
  simp only [Option.bind_some]
  rw [if_pos (by omega)]
  simp only [Option.bind_some, Nat.zero_add, Nat.mul_one, show o + n - o = n by omega]
  split <;> rfl
def FillR (o : Nat) (s d : List UInt8) (t : List Bool) (D B : Nat) (r : Bool) (g' : Heap) : Prop := match fillL o s d t with
  | some (d', t') => r = true ∧ g'.row D = some (bys d') ∧ g'.row B = some (blsF t')
  | none => r = false
theorem FgFill_run (b : BB) (o N D B : Nat) (ho : b.p.off = o) (hDB : D ≠ B) (hN : o + b.pay.s.length ≤ N) (hN2 : N ≤ 1000000) (d : List UInt8) (t : List Bool) (g : Heap) (hd : d.length = N) (ht : t.length = N) (hD : g.row D = some (bys d)) (hB : g.row B = some (blsF t)) :
    ∃ r g', FillR o b.pay.s d t D B r g' ∧ HK2 g g' D B ∧ Run T f_frag_fill [.hs 1 D 0 N, .hs 1 B 0 N, b.v] g (.bool r) g' := by
  obtain ⟨v, g', ⟨r, ev, q1, q2⟩, rr⟩ := Run.startP (P := fun v g' => ∃ r, v = .bool r ∧ FillR o b.pay.s d t D B r g' ∧ HK2 g g' D B) (vs := [.hs 1 D 0 N, .hs 1 B 0 N, b.v]) (h := g) t_frag_fill (by
    have sx := slX D N o b.pay.s.length hN
    have lp := fill_loopF b o N D B hDB hN hN2 b.pay.s.length 0 d t g (by omega) hd ht hD hB
    rw [List.drop_zero, Nat.add_zero] at lp
    have wr := wrap_i64 (x := (o : Int) + b.pay.s.length) (by omega) (by omega)
    rw [show (o : Int) + b.pay.s.length = ((o + b.pay.s.length : Nat) : Int) by omega] at wr
    unfold k_frag_fill BB.v
    by_cases c : b.pay.s.length = 0
    · rw [if_pos c] at sx
      have e : b.pay.s = [] := List.eq_nil_of_length_eq_zero c
      simp (disch := omega) [ho, wr, sx]
      rw [show ((o : Int) + b.pay.s.length) = ((o + b.pay.s.length : Nat) : Int) by omega, sx]
      simp (disch := omega)
      rw [L_frag_fill_0]; unfold bl_frag_fill_0
      simp (disch := omega)
      exact ⟨by unfold FillR; rw [e]; exact ⟨rfl, hD, hB⟩, HK2.refl _ _ _⟩
    · rw [if_neg c] at sx
      simp (disch := omega) [ho]
      rw [show ((o : Int) + b.pay.s.length) = ((o + b.pay.s.length : Nat) : Int) by omega, sx]
      simp (disch := omega)
      refine lp _ _ (fun d' t' g' z e1 e2 e3 e4 => ?_) (fun e1 g' e2 => ?_)
      · simp (disch := omega)
        exact ⟨by unfold FillR; rw [e1]; exact ⟨rfl, e3, e4⟩, e2⟩
      · simp (disch := omega)
        exact ⟨by unfold FillR; rw [e1], e2⟩)
  subst ev
  exact ⟨r, g', q1, q2, rr⟩
/-- What was laid of fragments. -/
structure Inv (F : List BB) (d : List UInt8) (t : List Bool) (N : Nat) : Prop where
  dl : d.length = N
  tl : t.length = N
  th : ∀ p, p < N → t[p]? = some (F.any fun b => (val b p).isSome)
  da : ∀ b ∈ F, ∀ p x, val b p = some x → d[p]? = some x
/-- Two that differ at a place. -/
def Cfl (l : List BB) : Prop := ∃ b ∈ l, ∃ c ∈ l, ∃ p x y, val b p = some x ∧ val c p = some y ∧ x ≠ y
theorem val_at {b : BB} {o : Nat} (ho : b.p.off = o) (j : Nat) : val b (o + j) = b.pay.s[j]? := by
  unfold val
  rw [if_pos (by omega)]
  congr 1; omega
theorem val_out {b : BB} {o p : Nat} (ho : b.p.off = o) (h : p < o ∨ o + b.pay.s.length ≤ p) : val b p = none := by
  unfold val
  split
  · rw [List.getElem?_eq_none]; omega
  · rfl
theorem inv_step {F : List BB} {d : List UInt8} {t : List Bool} {N o : Nat} {b : BB} (h : Inv F d t N) (ho : b.p.off = o) (hN : o + b.pay.s.length ≤ N) :
    match fillL o b.pay.s d t with
    | some (d', t') => Inv (F ++ [b]) d' t' N
    | none => ∃ c ∈ F, ∃ p x y, val b p = some x ∧ val c p = some y ∧ x ≠ y := by
  have hdl := h.dl
  have htl := h.tl
  cases e : fillL o b.pay.s d t with
  | some q =>
    obtain ⟨d', t'⟩ := q
    obtain ⟨e1, e2, e3, e4, e5⟩ := fillL_some b.pay.s o d t d' t' (by omega) (by omega) e
    refine ⟨by omega, by omega, fun p hp => ?_, fun c hc p x hx => ?_⟩
    · rw [List.any_append]
      by_cases k : p < o ∨ o + b.pay.s.length ≤ p
      · rw [(e3 p k).2, h.th p hp]
        simp [val_out ho k]
      · obtain ⟨j, rfl⟩ : ∃ j, p = o + j := ⟨p - o, by omega⟩
        rw [(e4 j (by omega)).2]
        simp [val_at ho, List.getElem?_eq_getElem (show j < b.pay.s.length by omega)]
    · by_cases k : p < o ∨ o + b.pay.s.length ≤ p
      · rw [(e3 p k).1]
        rcases List.mem_append.1 hc with hc | hc
        · exact h.da c hc p x hx
        · rw [List.mem_singleton.1 hc, val_out ho k] at hx; cases hx
      · obtain ⟨j, rfl⟩ : ∃ j, p = o + j := ⟨p - o, by omega⟩
        have hj : j < b.pay.s.length := by omega
        rw [(e4 j hj).1]
        rcases List.mem_append.1 hc with hc | hc
        · have ht : t[o + j]? = some true := by
            rw [h.th _ (by omega)]
            congr 1
            exact List.any_eq_true.2 ⟨c, hc, by rw [hx]; rfl⟩
          rw [← e5 j hj ht]
          exact h.da c hc _ x hx
        · rw [List.mem_singleton.1 hc, val_at ho] at hx
          exact hx
  | none =>
    obtain ⟨j, hj, h2, h3⟩ := fillL_none b.pay.s o d t (by omega) (by omega) e
    rw [h.th _ (by omega)] at h2
    obtain ⟨c, hc, hv⟩ := List.any_eq_true.1 (Option.some.inj h2)
    obtain ⟨y, hy⟩ := Option.isSome_iff_exists.1 hv
    have h4 := h.da c hc _ y hy
    refine ⟨c, hc, o + j, b.pay.s[j], y, by rw [val_at ho, List.getElem?_eq_getElem hj], hy, fun q => h3 ?_⟩
    rw [h4, List.getElem?_eq_getElem hj, q]
/-- What fits: where it lies. -/
structure FOk (N : Nat) (b : BB) : Prop where
  o0 : 0 ≤ b.p.off
  o : b.p.off.toNat + b.pay.s.length ≤ N
theorem join1_loop (l : List BB) (N D B : Nat) (hDB : D ≠ B) (hD0 : D ≠ 0) (hB0 : B ≠ 0) (hl : l.length ≤ 1000000) (hN2 : N ≤ 1000000) (hf : ∀ b ∈ l, FOk N b) : ∀ (m i : Nat) (d : List UInt8) (t : List Bool) (g : Heap), i + m = l.length → Inv (l.take i) d t N → g.row 0 = some zB.cells → g.row D = some (bys d) → g.row B = some (blsF t) → ∀ ks Q,
    (∀ d' t' g', Inv l d' t' N → g'.row 0 = some zB.cells → g'.row D = some (bys d') → ∀ z, Xk T ks (.x 2) ((0, .ps 25 (bbs l)) :: (2, .ptr 0 0) :: (7, .int .u64 N) :: (8, .hs 1 D 0 N) :: (9, .hs 1 B 0 N) :: z) g' Q) →
    (Cfl l → ∀ g', g'.row 0 = some zB.cells → Xk T ks .r [(2, .ptr 0 0), (3, .int .i64 6)] g' Q) →
    Xc T l_frag_Join_1 ks [(0, .ps 25 (bbs l)), (2, .ptr 0 0), (7, .int .u64 N), (8, .hs 1 D 0 N), (9, .hs 1 B 0 N), (58, .ps 25 (bbs l)), (59, .int .i64 l.length), (60, .int .i64 i)] g Q := by
  intro m
  induction m with
  | zero =>
    intro i d t g hi hI h0 hD hB ks Q h1 h2
    have c1 : ¬ (i : Int) < l.length := by omega
    rw [List.take_of_length_le (by omega)] at hI
    rw [L_frag_Join_1]; unfold bl_frag_Join_1
    simp (disch := omega) [c1]
    exact h1 d t g hI h0 hD _
  | succ m ih =>
    intro i d t g hi hI h0 hD hB ks Q h1 h2
    have hil : i < l.length := by omega
    have c1 : (i : Int) < l.length := by omega
    have g1 := bbs_get l i hil
    have fk := hf l[i] (List.getElem_mem _)
    have ts : l.take (i + 1) = l.take i ++ [l[i]] := by rw [List.take_succ, List.getElem?_eq_getElem hil]; rfl
    have memi : l[i] ∈ l := List.getElem_mem _
    have ih := fun d t g => ih (i + 1) d t g (by omega)
    rw [ts, show ((i + 1 : Nat) : Int) = (i : Int) + 1 from rfl] at ih
    obtain ⟨b, hb'⟩ : ∃ b, b = l[i] := ⟨_, rfl⟩
    rw [← hb'] at g1 fk ih memi
    obtain ⟨o, ho⟩ := Int.eq_ofNat_of_zero_le fk.o0
    have fo := fk.o
    rw [ho] at fo
    have st := inv_step hI ho (by simpa using fo)
    have D0 := rlt hD
    have B0 := rlt hB
    have z0 := rlt h0
    obtain ⟨r, g', q1, q2, q3⟩ := FgFill_run b o N D B ho hDB (by simpa using fo) hN2 d t (g ++ [some b.cells]) hI.dl hI.tl (by rw [row_app D0]; exact hD) (by rw [row_app B0]; exact hB)
    have r0 : g'.row 0 = some zB.cells := by rw [q2.2 0 (fun e => hD0 e.symm) (fun e => hB0 e.symm), row_app z0]; exact h0
    have rA : ∀ x w, Heap.row (g ++ x :: w) g.length = x := fun x w => rowA
    have bv : V.agg b.cells = b.v := rfl
    rw [L_frag_Join_1]; unfold bl_frag_Join_1
    rw [zB_cells]
    simp (disch := omega) [c1, hil, g1, rA, bv]
    rw [Xf_run q3]
    unfold FillR at q1
    cases e : fillL o b.pay.s d t with
    | none =>
      rw [e] at q1 st
      subst q1
      have zl := rlt r0
      have s0 : Heap.row (g'.set 0 (some zB.cells)) 0 = some zB.cells := row_set zl
      simp (disch := omega) [r0]
      obtain ⟨c, hc, p, x, y, v1, v2, v3⟩ := st
      refine h2 ⟨b, memi, c, List.mem_of_mem_take hc, p, x, y, v1, v2, v3⟩ _ ?_
      exact s0
    | some q =>
      obtain ⟨d', t'⟩ := q
      rw [e] at q1 st
      obtain ⟨rfl, k1, k2⟩ := q1
      simp (disch := omega)
      exact ih d' t' g' st r0 k1 k2 ks Q h1 h2
attribute [local simp] BB.tk BB.len BB.one BB.sp BB.c0 BB.c17 BB.c18 BB.c19 BB.c24 PP.len PP.tk PP.one PP.sp BB.vc PP.vc PP.cv BB.tP
theorem isNaN64_run (x : Int) (h : Heap) : Run T f_cmp_isNaN_uint64 [.int .u64 x] h (.bool false) h := by
  refine Run.start t_cmp_isNaN_uint64 ?_
  unfold k_cmp_isNaN_uint64
  simp (disch := omega)
section
variable {ks : List Kt} {ops : List AOpr} {K : Kp} {e : Env} {h : Heap} {Q : Ex → Env → Heap → Prop} {d : Nat} {lent : Bool}
theorem isNaN64_p (x : Int) : Xp T f_cmp_isNaN_uint64 (some ([.int .u64 x], lent)) h (some d) ops K ks e Q = Xo T ops K ks ((d, .bool false) :: e) h Q :=
  Xp_run (isNaN64_run x []) (by simp) rfl (by simp [scalar])
end
def cmpI (x y : Int) : Int := if x < y then -1 else if y < x then 1 else 0
theorem Compare_run (x y : Int) (h : Heap) : Run T f_cmp_Compare_uint64 [.int .u64 x, .int .u64 y] h (.int .i64 (cmpI x y)) h := by
  refine Run.start t_cmp_Compare_uint64 ?_
  unfold k_cmp_Compare_uint64 cmpI
  by_cases c1 : x < y
  · simp (disch := omega) [isNaN64_p, c1]
  · by_cases c2 : y < x
    · simp (disch := omega) [isNaN64_p, c1, c2]
    · simp (disch := omega) [isNaN64_p, c1, c2]
section
variable {ks : List Kt} {ops : List AOpr} {K : Kp} {e : Env} {h : Heap} {Q : Ex → Env → Heap → Prop} {d : Nat} {lent : Bool}
theorem Compare_p (x y : Int) : Xp T f_cmp_Compare_uint64 (some ([.int .u64 x, .int .u64 y], lent)) h (some d) ops K ks e Q = Xo T ops K ks ((d, .int .i64 (cmpI x y)) :: e) h Q :=
  Xp_run (Compare_run x y []) (by simp) rfl (by simp [scalar])
end
theorem Holes1_run (x y : Pr) (h : Heap) : Run T f_frag_Holes_1 [.agg x.cs, .agg y.cs] h (.int .i64 (cmpI x.lo y.lo)) h := by
  refine Run.start t_frag_Holes_1 ?_
  unfold k_frag_Holes_1 Pr.cs
  simp (disch := omega) [Compare_p]
theorem cmpI_lt (x y : Int) : decide (cmpI x y < 0) = decide (x < y) := by
  unfold cmpI
  split
  · simp [*]
  · split <;> simp [*]
def cmpP (x y : Pr) : Int := cmpI x.lo y.lo
theorem ltC_p (x y : Pr) : ltC cmpP x y = decide (x.lo < y.lo) := cmpI_lt _ _
theorem swoP : Sort.SWO (ltC cmpP) where
  irrefl := fun x => by simp [ltC_p]
  trans := fun x y z h1 h2 => by simp only [ltC_p, decide_eq_true_eq] at *; omega
  ntrans := fun x y z h1 h2 => by simp only [ltC_p, decide_eq_false_iff_not] at *; omega
theorem FgSort_nil (v : V) (hv : v = .hn 2 ∨ v = .ps 2 []) (h : Heap) : Run T f_slices_SortFunc_2_uint64_2_uint64 [v, .fn f_frag_Holes_1 []] h (.tup []) h := by
  have lv : lenV false v = some (.int .i64 0) := by rcases hv with rfl | rfl <;> rfl
  have r1 : Run T f_slices_insertionSortCmpFunc_2_uint64 [v, .int .i64 0, .int .i64 0, .fn f_frag_Holes_1 []] h (.tup []) h := by
    refine Run.start t_slices_insertionSortCmpFunc_2_uint64 ?_
    unfold k_slices_insertionSortCmpFunc_2_uint64
    simp (disch := omega)
    rw [L_slices_insertionSortCmpFunc_2_uint64_1]; unfold bl_slices_insertionSortCmpFunc_2_uint64_1
    simp (disch := omega)
  have r2 : ∀ lim, Run T f_slices_pdqsortCmpFunc_2_uint64 [v, .int .i64 0, .int .i64 0, .int .i64 lim, .fn f_frag_Holes_1 []] h (.tup []) h := fun lim => by
    refine Run.start t_slices_pdqsortCmpFunc_2_uint64 ?_
    unfold k_slices_pdqsortCmpFunc_2_uint64
    simp (disch := omega)
    rw [L_slices_pdqsortCmpFunc_2_uint64_0]; unfold bl_slices_pdqsortCmpFunc_2_uint64_0
    simp (disch := omega)
    rw [Xf_run r1]
    simp (disch := omega)
  refine Run.start t_slices_SortFunc_2_uint64_2_uint64 ?_
  unfold k_slices_SortFunc_2_uint64_2_uint64
  have := len_run [] 0 (by omega)
  simp at this
  simp (disch := omega) [lv]
  rw [Xp_run this (by simp) (by simp) (by simp)]
  simp (disch := omega)
  rw [Xf_run (r2 _)]
  simp (disch := omega)
def spanB (b : BB) : Pr := ⟨b.p.off, b.p.off + b.pay.s.length⟩
theorem span_run (b : BB) (N : Nat) (hN : N ≤ 1000000) (hf : FOk N b) : ∃ h', Run T f_frag_span [b.v, .int .u64 N] [] (.agg (spanB b).cs) h' := by
  have h0 := hf.o0
  have h1 := hf.o
  refine Run.startE t_frag_span ?_
  unfold k_frag_span BB.v
  have e1 : min b.p.off (N : Int) = b.p.off := by omega
  have e2 : min (b.pay.s.length : Int) (N - b.p.off) = b.pay.s.length := by omega
  have w1 : IntKind.u64.wrap ((N : Int) - b.p.off) = N - b.p.off := wrap_u64 (by omega) (by omega)
  have w2 : IntKind.u64.wrap (b.p.off + b.pay.s.length) = b.p.off + b.pay.s.length := wrap_u64 (by omega) (by omega)
  simp (disch := omega) [e1, e2, w1, w2]
  rfl
/-- Places in none. -/
def holesF : Int → List Pr → List Pr
  | _, [] => []
  | a, s :: r => (if a < s.lo then [⟨a, s.lo⟩] else []) ++ holesF (max a s.hi) r
theorem holesF_nil (N : Int) : ∀ (r : List Pr) (a : Int), r.Pairwise (fun x y => x.lo ≤ y.lo) → (∀ s ∈ r, s.lo < s.hi ∧ s.hi ≤ N) → (holesF a (r ++ [⟨N, N⟩]) = [] ↔ ∀ p, a ≤ p → p < N → ∃ s ∈ r, s.lo ≤ p ∧ p < s.hi)
  | [], a, _, _ => by
    simp only [List.nil_append, holesF, List.append_nil]
    constructor
    · intro h p h1 h2
      by_cases c : a < N
      · simp [c] at h
      · omega
    · intro h
      by_cases c : a < N
      · obtain ⟨s, hs, _⟩ := h a (Int.le_refl _) c
        simp at hs
      · simp [c]
  | s :: r, a, hp, hs => by
    obtain ⟨p1, p2⟩ := List.pairwise_cons.1 hp
    obtain ⟨q1, q2⟩ := hs s (by simp)
    have ih := holesF_nil N r (max a s.hi) p2 fun t ht => hs t (by simp [ht])
    simp only [List.cons_append, holesF]
    by_cases c : a < s.lo
    · simp only [if_pos c]
      constructor
      · intro h; simp at h
      · intro h
        obtain ⟨t, ht, k1, k2⟩ := h a (Int.le_refl _) (by omega)
        rcases List.mem_cons.1 ht with rfl | ht
        · omega
        · have := p1 t ht; omega
    · simp only [if_neg c, List.nil_append, ih]
      constructor
      · intro h p h1 h2
        by_cases d : p < s.hi
        · exact ⟨s, by simp, by omega, d⟩
        · obtain ⟨t, ht, k⟩ := h p (by omega) h2
          exact ⟨t, by simp [ht], k⟩
      · intro h p h1 h2
        obtain ⟨t, ht, k1, k2⟩ := h p (by omega) h2
        rcases List.mem_cons.1 ht with rfl | ht
        · omega
        · exact ⟨t, ht, k1, k2⟩
attribute [local simp] BB.tk BB.len BB.one BB.sp BB.c0 BB.c17 BB.c18 BB.c19 BB.c24 PP.len PP.tk PP.one PP.sp BB.vc PP.vc PP.cv BB.tP
def posB (b : BB) : Bool := decide (0 < b.pay.s.length)
def spansB (l : List BB) : List Pr := (l.filter posB).map spanB
def hvs (l : List Pr) : List V := l.map Pr.v
/-- Spans in the heap. -/
def SpV (S : List Pr) (v : V) (g : Heap) : Prop := (S = [] ∧ v = .hn 2) ∨ (S ≠ [] ∧ ∃ o, v = .hs 2 o 0 S.length ∧ g.row o = some (prs S))
theorem hol_loop0 (l : List BB) (N : Nat) (hN : N ≤ 1000000) (hl : l.length ≤ 1000) (hf : ∀ b ∈ l, FOk N b) : ∀ (m i : Nat) (v : V) (g : Heap), i + m = l.length → SpV (spansB (l.take i)) v g → ∀ ks Q,
    (∀ z v' g', SpV (spansB l) v' g' → Xk T ks (.x 0) ((0, .int .u64 N) :: (5, v') :: (6, .ps 2 []) :: z) g' Q) →
    Xc T l_frag_Holes_0 ks [(0, .int .u64 N), (5, v), (6, .ps 2 []), (13, .ps 25 (bbs l)), (14, .int .i64 l.length), (15, .int .i64 i)] g Q := by
  intro m
  induction m with
  | zero =>
    intro i v g hi hs ks Q hx
    have c1 : ¬ (i : Int) < l.length := by omega
    rw [List.take_of_length_le (by omega)] at hs
    rw [L_frag_Holes_0]; unfold bl_frag_Holes_0
    simp (disch := omega) [c1]
    exact hx _ v g hs
  | succ m ih =>
    intro i v g hi hs ks Q hx
    have hil : i < l.length := by omega
    have c1 : (i : Int) < l.length := by omega
    have g1 := bbs_get l i hil
    have fk := hf l[i] (List.getElem_mem _)
    have ts : spansB (l.take (i + 1)) = spansB (l.take i) ++ if 0 < l[i].pay.s.length then [spanB l[i]] else [] := by
      unfold spansB
      rw [List.take_succ_eq_append_getElem hil, List.filter_append, List.map_append]
      congr 1
      by_cases c : 0 < l[i].pay.s.length <;> simp [posB, c]
    have sl : (spansB (l.take i)).length ≤ 1000 := by
      unfold spansB
      rw [List.length_map]
      exact Nat.le_trans (List.length_filter_le _ _) (by rw [List.length_take]; omega)
    have ih := fun v g => ih (i + 1) v g (by omega)
    rw [ts, show ((i + 1 : Nat) : Int) = (i : Int) + 1 from rfl] at ih
    obtain ⟨b, hb'⟩ : ∃ b, b = l[i] := ⟨_, rfl⟩
    rw [← hb'] at g1 fk ih
    generalize spansB (l.take i) = S at *
    obtain ⟨_, rs⟩ := span_run b N hN fk
    have rA : ∀ x w, Heap.row (g ++ x :: w) g.length = x := fun x w => rowA
    have rB : ∀ x y w, Heap.row (g ++ x :: y :: w) (g.length + 1) = y := fun x y w => by
      rw [show g ++ x :: y :: w = (g ++ [x]) ++ y :: w by simp, show g.length + 1 = (g ++ [x]).length by simp]; exact rowA
    have bv : V.agg b.cells = b.v := rfl
    have sc : (spanB b).cs = [.int .u64 b.p.off, .int .u64 (b.p.off + b.pay.s.length)] := rfl
    have spl : spliceL [V.int .u64 0, V.int .u64 0] 0 [V.int .u64 b.p.off, V.int .u64 (b.p.off + b.pay.s.length)] = [V.int .u64 b.p.off, V.int .u64 (b.p.off + b.pay.s.length)] := rfl
    rw [sc] at rs
    rw [L_frag_Holes_0]; unfold bl_frag_Holes_0
    rw [zB_cells]
    by_cases c2 : 0 < b.pay.s.length
    · rw [if_pos c2] at ih
      have c3 : (0 : Int) < b.pay.s.length := by omega
      have c4 : b.p.off < b.p.off + b.pay.s.length := by omega
      rcases hs with ⟨rfl, rfl⟩ | ⟨hne, o, rfl, ho⟩
      · simp (disch := omega) [c1, hil, g1, rA, bv]
        rw [Xp_run rs (by simp [BB.hf]) (by simp) (by simp)]
        simp (disch := omega) [rA, rB, spl, c3, c4]
        refine ih _ _ (.inr ⟨by simp, g.length + 2, rfl, ?_⟩) ks Q hx
        rw [show g ++ [some b.cells, some [V.int .u64 b.p.off, V.int .u64 (b.p.off + b.pay.s.length)], some [V.int .u64 b.p.off, V.int .u64 (b.p.off + b.pay.s.length)]] = (g ++ [some b.cells, some [V.int .u64 b.p.off, V.int .u64 (b.p.off + b.pay.s.length)]]) ++ [some [V.int .u64 b.p.off, V.int .u64 (b.p.off + b.pay.s.length)]] by simp, show g.length + 2 = (g ++ [some b.cells, some [V.int .u64 b.p.off, V.int .u64 (b.p.off + b.pay.s.length)]]).length by simp]
        exact rowA
      · have ol := rlt ho
        have pl := prs_len S
        simp (disch := omega) [c1, hil, g1, rA, bv]
        rw [Xp_run rs (by simp [BB.hf]) (by simp) (by simp)]
        have hoA : ∀ w, Heap.row (g ++ w) o = some (prs S) := fun w => by rw [row_app ol]; exact ho
        simp (disch := omega) [rA, rB, spl, c3, c4, hoA, ho, pl]
        refine ih _ _ (.inr ⟨by simp, g.length + 2, by simp, ?_⟩) ks Q hx
        rw [prs_app]
        rw [show g.set o none ++ [some b.cells, some [V.int .u64 b.p.off, V.int .u64 (b.p.off + b.pay.s.length)], some (prs S ++ [V.int .u64 b.p.off, V.int .u64 (b.p.off + b.pay.s.length)])] = (g.set o none ++ [some b.cells, some [V.int .u64 b.p.off, V.int .u64 (b.p.off + b.pay.s.length)]]) ++ [some (prs S ++ [V.int .u64 b.p.off, V.int .u64 (b.p.off + b.pay.s.length)])] by simp, show g.length + 2 = (g.set o none ++ [some b.cells, some [V.int .u64 b.p.off, V.int .u64 (b.p.off + b.pay.s.length)]]).length by simp]
        exact rowA
    · rw [if_neg c2, List.append_nil] at ih
      have c3 : ¬ (0 : Int) < b.pay.s.length := by omega
      have c4 : ¬ b.p.off < b.p.off + b.pay.s.length := by omega
      simp (disch := omega) [c1, hil, g1, rA, bv]
      rw [Xp_run rs (by simp [BB.hf]) (by simp) (by simp)]
      simp (disch := omega) [rA, rB, spl, c3, c4]
      refine ih _ _ ?_ ks Q hx
      rcases hs with h | ⟨hne, o, h1, h2⟩
      · exact .inl h
      · exact .inr ⟨hne, o, h1, by rw [row_app (rlt h2)]; exact h2⟩
attribute [local simp] BB.tk BB.len BB.one BB.sp BB.c0 BB.c17 BB.c18 BB.c19 BB.c24 PP.len PP.tk PP.one PP.sp BB.vc PP.vc PP.cv BB.tP
theorem hvs_app (a b : List Pr) : hvs (a ++ b) = hvs a ++ hvs b := by simp [hvs]
theorem hol_loop1 (L : List Pr) (o : Nat) (hL : L.length ≤ 2000) : ∀ (m i : Nat) (H : List Pr) (a : Int) (g : Heap), i + m = L.length → H.length ≤ i → g.row o = some (prs L) → ∀ ks Q,
    (∀ z g', Xk T ks (.x 2) ((6, .ps 2 (hvs (H ++ holesF a (L.drop i)))) :: z) g' Q) →
    Xc T l_frag_Holes_1 ks [(6, .ps 2 (hvs H)), (10, .int .u64 a), (39, .hs 2 o 0 L.length), (40, .int .i64 L.length), (41, .int .i64 i)] g Q := by
  intro m
  induction m with
  | zero =>
    intro i H a g hi hH ho ks Q hx
    have e : L.drop i = [] := List.drop_eq_nil_of_le (by omega)
    rw [e, holesF, List.append_nil] at hx
    have c1 : ¬ (i : Int) < L.length := by omega
    rw [L_frag_Holes_1]; unfold bl_frag_Holes_1
    simp (disch := omega) [c1]
    exact hx _ _
  | succ m ih =>
    intro i H a g hi hH ho ks Q hx
    have hil : i < L.length := by omega
    have c1 : (i : Int) < L.length := by omega
    have e := List.drop_eq_getElem_cons hil
    have g1 := prs_part L i hil
    have pl := prs_len L
    rw [e, holesF] at hx
    have ih := fun H a g => ih (i + 1) H a g (by omega)
    rw [show ((i + 1 : Nat) : Int) = (i : Int) + 1 from rfl] at ih
    obtain ⟨s, hs⟩ : ∃ s, s = L[i] := ⟨_, rfl⟩
    rw [← hs] at g1 hx
    have scs : s.cs = [.int .u64 s.lo, .int .u64 s.hi] := rfl
    rw [scs] at g1
    have ol := rlt ho
    have oA : ∀ w, Heap.row (g ++ w) o = some (prs L) := fun w => by rw [row_app ol]; exact ho
    have rA : ∀ x w, Heap.row (g ++ x :: w) g.length = x := fun x w => rowA
    have spl : spliceL [V.int .u64 0, V.int .u64 0] 0 [V.int .u64 s.lo, V.int .u64 s.hi] = [V.int .u64 s.lo, V.int .u64 s.hi] := rfl
    have c2 : i * 2 + 2 ≤ (prs L).length := by omega
    rw [L_frag_Holes_1]; unfold bl_frag_Holes_1
    by_cases c3 : a < s.lo
    · rw [if_pos c3] at hx
      have := ih (H ++ [⟨a, s.lo⟩]) (max a s.hi) (g ++ [some [V.int .u64 s.lo, V.int .u64 s.hi]]) (by simp; omega) (oA _) ks Q (fun z g' => by rw [List.append_assoc]; exact hx z g')
      rw [hvs_app] at this
      have hvl : (hvs H).length = H.length := by simp [hvs]
      have hv1 : ((hvs H).length + 1) * 16 ≤ 140737488355328 := by omega
      simp (disch := omega) [c1, hv1, ho, g1, c2, oA, rA, spl, c3]
      exact this
    · rw [if_neg c3] at hx
      have := ih H (max a s.hi) (g ++ [some [V.int .u64 s.lo, V.int .u64 s.hi]]) (by omega) (oA _) ks Q (fun z g' => hx z g')
      simp (disch := omega) [c1, ho, g1, c2, oA, rA, spl, c3]
      exact this
/-- The spans can be sorted. -/
def CanSort (S : List Pr) : Prop := ∀ (g : Heap) (o : Nat), g.row o = some (prs S) → ∃ g' S', g'.row o = some (prs S') ∧ S'.Perm S ∧ S'.Pairwise (fun a b => a.lo ≤ b.lo) ∧ Run T f_slices_SortFunc_2_uint64_2_uint64 [.hs 2 o 0 S.length, .fn f_frag_Holes_1 []] g (.tup []) g'
theorem FgSet_row {h : Heap} {b : Nat} {cs : List V} (hr : h.row b = some cs) : h.set b (some cs) = h := by
  have hb := rlt hr
  refine List.ext_getElem (by simp) fun i h1 h2 => ?_
  rw [List.getElem_set]
  split
  · rename_i e
    subst e
    unfold Heap.row at hr
    rw [List.getElem?_eq_getElem hb] at hr
    simpa using hr.symm
  · rfl
theorem canSort (S : List Pr) (hS : S.length < 50) : CanSort S := by
  intro g o ho
  have ol := rlt ho
  have hc : Cmp g o f_frag_Holes_1 [] cmpP := ⟨rfl, ol, fun g _ x y => Holes1_run x y g⟩
  obtain ⟨g2, d', ag, hp, hs, rs⟩ := sortf_run (tv := []) hc swoP (Agree.refl) S.toArray (by simpa using hS)
  have sd : SD [] g o S.toArray = g := by
    unfold SD prt
    rw [show S.toArray.toList = S from rfl, List.append_nil]
    exact FgSet_row ho
  have fsz : S.toArray.size = S.length := by simp
  rw [sd, fsz] at rs
  have dsz : d'.size = S.length := by rw [hp.1, fsz]
  have perm : d'.toList.Perm S := by
    have := hp.2.2
    simp at this
    rwa [List.take_of_length_le (by simp [dsz])] at this
  have srt : d'.toList.Pairwise (fun a b => a.lo ≤ b.lo) := by
    rw [List.pairwise_iff_getElem]
    intro i j hi hj hij
    simp at hi hj
    have := hs i j (Nat.zero_le _) hij (by rw [fsz, ← dsz]; exact hj)
    simp only [ltC_p, decide_eq_false_iff_not] at this
    simp only [getElem!_pos d' i hi, getElem!_pos d' j hj] at this
    simp
    omega
  have b2 : o < g2.length := Nat.lt_of_lt_of_le ol ag.1
  have rw2 : Heap.row (SD [] g2 o d') o = some (prs d'.toList ++ []) := SD_row b2 d'
  rw [List.append_nil] at rw2
  exact ⟨_, _, rw2, perm, srt, rs⟩
theorem Holes_run (l : List BB) (N : Nat) (hN : N ≤ 1000000) (hl : l.length ≤ 1000) (hf : ∀ b ∈ l, FOk N b) (hS : spansB l ≠ [] → CanSort (spansB l)) :
    ∃ H h', Run T f_frag_Holes [.int .u64 N, .ps 25 (bbs l)] [] (.ps 2 (hvs H)) h' ∧ (H = [] ↔ ∀ p, p < N → ∃ b ∈ l, (val b p).isSome = true) := by
  have bl := bbs_len l
  have lp := hol_loop0 l N hN hl hf l.length 0 (.hn 2) [] (by omega) (.inl ⟨rfl, rfl⟩)
  have fin : ∀ S' : List Pr, S'.Perm (spansB l) → S'.Pairwise (fun a b => a.lo ≤ b.lo) → (holesF 0 (S' ++ [⟨N, N⟩]) = [] ↔ ∀ p, p < N → ∃ b ∈ l, (val b p).isSome = true) := by
    intro S' hp hs
    have mem : ∀ s, s ∈ S' ↔ ∃ b ∈ l, 0 < b.pay.s.length ∧ spanB b = s := fun s => by
      rw [hp.mem_iff]
      simp only [spansB, List.mem_map, List.mem_filter, posB, decide_eq_true_eq, and_assoc]
    have h1 := holesF_nil N S' 0 hs (fun s h => by
      obtain ⟨b, hb, h0, rfl⟩ := (mem s).1 h
      have k0 := (hf b hb).o0
      have k1 := (hf b hb).o
      show b.p.off < b.p.off + b.pay.s.length ∧ b.p.off + b.pay.s.length ≤ N
      omega)
    rw [h1]
    have cov : ∀ (b : BB), FOk N b → ∀ p : Nat, ((val b p).isSome = true ↔ b.p.off ≤ p ∧ (p : Int) < b.p.off + b.pay.s.length) := fun b hb p => by
      have k0 := hb.o0
      unfold val
      by_cases c : b.p.off ≤ p
      · rw [if_pos c]
        by_cases d : (p : Int) < b.p.off + b.pay.s.length
        · rw [List.getElem?_eq_getElem (by omega)]; simp [c, d]
        · rw [List.getElem?_eq_none (by omega)]; simp [d]
      · rw [if_neg c]; simp [c]
    constructor
    · intro h p hp
      obtain ⟨s, hs, h2, h3⟩ := h p (by omega) (by omega)
      obtain ⟨b, hb, h0, rfl⟩ := (mem s).1 hs
      exact ⟨b, hb, (cov b (hf b hb) p).2 ⟨h2, h3⟩⟩
    · intro h p h0 hp
      obtain ⟨q, rfl⟩ := Int.eq_ofNat_of_zero_le h0
      obtain ⟨b, hb, hv⟩ := h q (by omega)
      obtain ⟨h2, h3⟩ := (cov b (hf b hb) q).1 hv
      exact ⟨spanB b, (mem _).2 ⟨b, hb, by omega, rfl⟩, h2, h3⟩
  have sl : (spansB l).length ≤ 1000 := by
    unfold spansB
    rw [List.length_map]
    exact Nat.le_trans (List.length_filter_le _ _) hl
  obtain ⟨v, h', ⟨H, ev, hH⟩, rr⟩ := Run.startP (P := fun v _ => ∃ H, v = .ps 2 (hvs H) ∧ (H = [] ↔ ∀ p, p < N → ∃ b ∈ l, (val b p).isSome = true)) (vs := [.int .u64 N, .ps 25 (bbs l)]) (h := []) t_frag_Holes (by
    unfold k_frag_Holes
    simp (disch := omega) [bl]
    refine lp _ _ fun z v g hv => ?_
    simp (disch := omega)
    rcases hv with ⟨e, rfl⟩ | ⟨hne, o, rfl, ho⟩
    · rw [Xf_run (FgSort_nil _ (.inl rfl) _)]
      have f := fin [] (by rw [e]) .nil
      have l1 := hol_loop1 [⟨N, N⟩] (g.length) (by simp) 1 0 [] 0 (g ++ [some (prs [⟨N, N⟩])]) (by simp) (by simp) rowA
      simp (disch := omega)
      refine l1 _ _ fun z g' => ?_
      simp (disch := omega)
      exact ⟨_, rfl, f⟩
    · obtain ⟨g', S', r1, r2, r3, r4⟩ := hS hne g o ho
      rw [Xf_run r4]
      have f := fin S' r2 r3
      have pl := prs_len S'
      have sl2 := r2.length_eq
      simp (disch := omega) [r1, pl]
      have l1 := hol_loop1 (S' ++ [⟨N, N⟩]) g'.length (by simp; omega) (S'.length + 1) 0 [] 0 (g'.set o none ++ [some (prs (S' ++ [⟨N, N⟩]))]) (by simp) (by simp) (by rw [show g'.length = (g'.set o none).length by simp]; exact rowA)
      have el : (S' ++ [(⟨N, N⟩ : Pr)]).length = (spansB l).length + 1 := by simp [sl2]
      rw [el, prs_app] at l1
      refine l1 _ _ fun z g' => ?_
      simp (disch := omega)
      exact ⟨_, rfl, f⟩)
  subst ev
  exact ⟨H, h', rr, hH⟩
attribute [local simp] BB.tk BB.len BB.one BB.sp BB.c0 BB.c17 BB.c18 BB.c19 BB.c24 PP.len PP.tk PP.one PP.sp BB.vc PP.vc PP.cv BB.tP
/-- The first check that fails. -/
def fstC : List BB → Int
  | [] => 0
  | b :: r => if chkB b ≠ 0 then chkB b else fstC r
theorem join0_loop (l : List BB) (hl : l.length ≤ 1000000) (hp : ∀ b ∈ l, PPok b.p) (hb : ∀ b ∈ l, b.bl.length ≤ 1000000) : ∀ (m i : Nat) (g : Heap), i + m = l.length → g.row 0 = some zB.cells → ∀ ks Q,
    (fstC (l.drop i) = 0 → ∀ z g', g'.row 0 = some zB.cells → Xk T ks (.x 0) ((0, .ps 25 (bbs l)) :: (2, .ptr 0 0) :: z) g' Q) →
    (fstC (l.drop i) ≠ 0 → ∀ g', g'.row 0 = some zB.cells → Xk T ks .r [(2, .ptr 0 0), (3, .int .i64 (fstC (l.drop i)))] g' Q) →
    Xc T l_frag_Join_0 ks [(0, .ps 25 (bbs l)), (2, .ptr 0 0), (18, .ps 25 (bbs l)), (19, .int .i64 l.length), (20, .int .i64 i)] g Q := by
  intro m
  induction m with
  | zero =>
    intro i g hi h0 ks Q h1 h2
    have e : l.drop i = [] := List.drop_eq_nil_of_le (by omega)
    rw [e] at h1
    have c1 : ¬ (i : Int) < l.length := by omega
    rw [L_frag_Join_0]; unfold bl_frag_Join_0
    simp (disch := omega) [c1]
    exact h1 rfl _ g h0
  | succ m ih =>
    intro i g hi h0 ks Q h1 h2
    have hil : i < l.length := by omega
    have e := List.drop_eq_getElem_cons hil
    rw [e] at h1 h2
    have c1 : (i : Int) < l.length := by omega
    have g1 := bbs_get l i hil
    have pk := hp l[i] (List.getElem_mem _)
    have bk := hb l[i] (List.getElem_mem _)
    obtain ⟨b, hb'⟩ : ∃ b, b = l[i] := ⟨_, rfl⟩
    rw [← hb'] at g1 pk bk h1 h2
    have z0 := rlt h0
    have ih := ih (i + 1) (g ++ [some b.cells]) (by omega) (by rw [row_app z0]; exact h0) ks Q
    rw [show ((i + 1 : Nat) : Int) = (i : Int) + 1 from rfl] at ih
    obtain ⟨_, rb⟩ := BCheck_run b pk bk
    have rA : ∀ x w, Heap.row (g ++ x :: w) g.length = x := fun x w => rowA
    have oA : ∀ w, Heap.row (g ++ w) 0 = some zB.cells := fun w => by rw [row_app z0]; exact h0
    have bv : V.agg b.cells = b.v := rfl
    rw [L_frag_Join_0]; unfold bl_frag_Join_0
    rw [zB_cells]
    simp (disch := omega) [c1, hil, g1, rA, bv]
    rw [Xp_run rb (by simp [BB.hf]) (by simp) (by simp [scalar])]
    simp only [fstC] at h1 h2
    by_cases c2 : chkB b = 0
    · rw [if_neg (by simp [c2])] at h1 h2
      simp (disch := omega) [c2]
      exact ih h1 h2
    · rw [if_pos c2] at h2
      have s0 : ∀ w, Heap.row (g.set 0 (some zB.cells) ++ w) 0 = some zB.cells := fun w => by rw [row_app (by simpa using z0)]; exact row_set z0
      simp (disch := omega) [c2, oA]
      refine h2 c2 _ ?_
      exact s0 _
theorem Join1_run (b : BB) (h : Heap) : Run T f_frag_Join_1 [b.v] h (.bool (decide (b.p.off = 0))) h := by
  refine Run.start t_frag_Join_1 ?_
  unfold k_frag_Join_1 BB.v
  have rA : ∀ x w, Heap.row (h ++ x :: w) h.length = x := fun x w => rowA
  simp (disch := omega) [rA]
theorem FgIdx_loop (l : List BB) (hl : l.length ≤ 1000000) : ∀ (m i : Nat) (g : Heap), i + m = l.length → (∃ b ∈ l.drop i, b.p.off = 0) → ∀ ks Q,
    (∀ k, (∃ h : k < l.length, l[k].p.off = 0) → Xk T ks .r [(4, .int .i64 (k : Nat))] g Q) →
    Xc T l_slices_IndexFunc_api_Bundle_api_Bundle_0 ks [(0, .ps 25 (bbs l)), (1, .fn f_frag_Join_1 []), (7, .int .i64 l.length), (8, .int .i64 i)] g Q := by
  intro m
  induction m with
  | zero =>
    intro i g hi ⟨b, hb, _⟩
    rw [List.drop_eq_nil_of_le (by omega)] at hb
    simp at hb
  | succ m ih =>
    intro i g hi hex ks Q hx
    have hil : i < l.length := by omega
    have c1 : (i : Int) < l.length := by omega
    have e := List.drop_eq_getElem_cons hil
    have g1 := bbs_get l i hil
    have hx0 := hx i
    rw [e] at hex
    obtain ⟨b, hb'⟩ : ∃ b, b = l[i] := ⟨_, rfl⟩
    rw [← hb'] at g1 hex
    have ih := ih (i + 1) g (by omega)
    rw [show ((i + 1 : Nat) : Int) = (i : Int) + 1 from rfl] at ih
    have rj := Join1_run b g
    have hfree : T.free f_frag_Join_1 = true := rfl
    have bv : V.agg b.cells = b.v := rfl
    rw [L_slices_IndexFunc_api_Bundle_api_Bundle_0]; unfold bl_slices_IndexFunc_api_Bundle_api_Bundle_0
    by_cases c2 : b.p.off = 0
    · rw [decide_eq_true c2] at rj
      simp (disch := omega) [c1, hil, g1, hfree, bv]
      rw [Xf_run rj]
      simp (disch := omega)
      exact hx0 ⟨hil, by rw [← hb']; exact c2⟩
    · rw [decide_eq_false c2] at rj
      simp (disch := omega) [c1, hil, g1, hfree, bv]
      rw [Xf_run rj]
      simp (disch := omega)
      obtain ⟨d, hd, hd0⟩ := hex
      rcases List.mem_cons.1 hd with rfl | hd
      · exact absurd hd0 c2
      · exact ih ⟨d, hd, hd0⟩ ks Q hx
theorem FgClr (x : BitVec 64) : x &&& ~~~1#64 = (x >>> 1) <<< 1 := by
  apply BitVec.eq_of_getLsbD_eq
  intro i hi
  have h1 : (1#64).getLsbD i = decide (i = 0) := by simp
  simp only [BitVec.getLsbD_and, BitVec.getLsbD_not, BitVec.getLsbD_shiftLeft, BitVec.getLsbD_ushiftRight, h1, hi, decide_true, Bool.true_and]
  cases i with
  | zero => simp
  | succ i =>
    simp
    congr 1; omega
def wholeP (p : PP) : PP := { p with fl := p.fl - p.fl % 2, off := 0, tot := 0 }
theorem op_clr1 (q : EqK) (fl : Int) (h0 : 0 ≤ fl) (h1 : fl ≤ 18446744073709551615) : binV .andNot q (.int .u64 fl) (.int .u64 1) = some (.int .u64 (fl - fl % 2)) := by
  obtain ⟨n, rfl⟩ := Int.eq_ofNat_of_zero_le h0
  have e1 : (BitVec.ofInt 64 (n : Int) &&& ~~~ BitVec.ofInt 64 1).toNat = n - n % 2 := by
    rw [show BitVec.ofInt 64 1 = 1#64 from rfl, FgClr]
    simp
    omega
  rw [bin_andNot]
  show some (V.int .u64 (IntKind.u64.wrap ((BitVec.ofInt 64 (n : Int) &&& ~~~ BitVec.ofInt 64 1).toNat : Int))) = _
  rw [e1]
  rw [wrap_nat (n - n % 2) (by omega)]
  congr 2
  omega
theorem FgWhole_run (p : PP) (ok : PPok p) (h : Heap) : ∃ h', Run T f_primary_Whole [p.v] h (wholeP p).v h' := by
  have o1 := fun q => op_clr1 q p.fl ok.f0 ok.f1
  refine Run.startE t_primary_Whole ?_
  unfold k_primary_Whole PP.v wholeP
  have rA : ∀ x w, Heap.row (h ++ x :: w) h.length = x := fun x w => rowA
  simp (disch := omega) [o1, rA]
attribute [local simp] BB.tk BB.len BB.one BB.sp BB.c0 BB.c17 BB.c18 BB.c19 BB.c24 PP.len PP.tk PP.one PP.sp BB.vc PP.vc PP.cv BB.tP
theorem FgIdx_run (l : List BB) (hl : l.length ≤ 1000000) (hex : ∃ b ∈ l, b.p.off = 0) (g : Heap) : ∃ k : Nat, (∃ h : k < l.length, l[k].p.off = 0) ∧ Run T f_slices_IndexFunc_api_Bundle_api_Bundle [.ps 25 (bbs l), .fn f_frag_Join_1 []] g (.int .i64 k) g := by
  have bl := bbs_len l
  have lp := FgIdx_loop l hl l.length 0 g (by omega) hex
  obtain ⟨v, h', ⟨k, hk, rfl, rfl⟩, rr⟩ := Run.startP (P := fun v h' => ∃ k : Nat, (∃ h : k < l.length, l[k].p.off = 0) ∧ v = .int .i64 k ∧ h' = g) (vs := [.ps 25 (bbs l), .fn f_frag_Join_1 []]) (h := g) t_slices_IndexFunc_api_Bundle_api_Bundle (by
    unfold k_slices_IndexFunc_api_Bundle_api_Bundle
    simp (disch := omega) [bl]
    refine lp _ _ fun k hk => ?_
    simp (disch := omega)
    exact ⟨k, hk, rfl⟩)
  exact ⟨k, hk, rr⟩
def joinB (b : BB) (d : List UInt8) : BB := ⟨wholeP b.p, b.bl, { b.pay with s := d }⟩
/-- What comes of fragments, where there is one. -/
def JoinC (x : BB) (l : List BB) (r : BB) (e : Int) : Prop :=
    if fstC (x :: l) ≠ 0 then r = zB ∧ e = fstC (x :: l)
    else if l = [] ∧ fragB x.p.fl = false then r = x ∧ e = 0
    else if (x :: l).all (fitB x.p) = false then r = zB ∧ e = 6
    else (Cfl (x :: l) ∧ r = zB ∧ e = 6) ∨ ∃ d t, Inv (x :: l) d t x.p.tot.toNat ∧ ((r = zB ∧ e = 8 ∧ ∃ p, p < x.p.tot.toNat ∧ ∀ b ∈ x :: l, val b p = none) ∨ (e = 0 ∧ (∀ p, p < x.p.tot.toNat → ∃ b ∈ x :: l, (val b p).isSome = true) ∧ ∃ b ∈ x :: l, b.p.off = 0 ∧ r = joinB b d))
def JoinR (l : List BB) (r : BB) (e : Int) : Prop := match l with
  | [] => r = zB ∧ e = 8
  | x :: l => JoinC x l r e
theorem J_c {x : BB} {l : List BB} (h : fstC (x :: l) ≠ 0) : JoinR (x :: l) zB (fstC (x :: l)) := by show JoinC _ _ _ _; unfold JoinC; rw [if_pos h]; exact ⟨rfl, rfl⟩
theorem J_1 {x : BB} (h : fstC [x] = 0) (hf : fragB x.p.fl = false) : JoinR [x] x 0 := by show JoinC _ _ _ _; unfold JoinC; rw [if_neg (by simp [h]), if_pos ⟨rfl, hf⟩]; exact ⟨rfl, rfl⟩
theorem J_f {x : BB} {l : List BB} (h : fstC (x :: l) = 0) (h1 : ¬ (l = [] ∧ fragB x.p.fl = false)) (h2 : (x :: l).all (fitB x.p) = false) : JoinR (x :: l) zB 6 := by show JoinC _ _ _ _; unfold JoinC; rw [if_neg (by simp [h]), if_neg h1, if_pos h2]; exact ⟨rfl, rfl⟩
theorem J_x {x : BB} {l : List BB} (h : fstC (x :: l) = 0) (h1 : ¬ (l = [] ∧ fragB x.p.fl = false)) (h2 : (x :: l).all (fitB x.p) = true) (h3 : Cfl (x :: l)) : JoinR (x :: l) zB 6 := by show JoinC _ _ _ _; unfold JoinC; rw [if_neg (by simp [h]), if_neg h1, if_neg (by rw [h2]; simp)]; exact .inl ⟨h3, rfl, rfl⟩
theorem J_h {x : BB} {l : List BB} {d : List UInt8} {t : List Bool} (h : fstC (x :: l) = 0) (h1 : ¬ (l = [] ∧ fragB x.p.fl = false)) (h2 : (x :: l).all (fitB x.p) = true) (h3 : Inv (x :: l) d t x.p.tot.toNat) (h4 : ¬ ∀ p, p < x.p.tot.toNat → ∃ b ∈ x :: l, (val b p).isSome = true) : JoinR (x :: l) zB 8 := by
  show JoinC _ _ _ _; unfold JoinC; rw [if_neg (by simp [h]), if_neg h1, if_neg (by rw [h2]; simp)]
  refine .inr ⟨d, t, h3, .inl ⟨rfl, rfl, Decidable.byContradiction fun q => h4 fun p hp => Decidable.byContradiction fun w => q ⟨p, hp, fun b hb => ?_⟩⟩⟩
  cases e : val b p with
  | none => rfl
  | some z => exact absurd ⟨b, hb, by rw [e]; rfl⟩ w
theorem J_o {x : BB} {l : List BB} {d : List UInt8} {t : List Bool} (h : fstC (x :: l) = 0) (h1 : ¬ (l = [] ∧ fragB x.p.fl = false)) (h2 : (x :: l).all (fitB x.p) = true) (h3 : Inv (x :: l) d t x.p.tot.toNat) (h4 : ∀ p, p < x.p.tot.toNat → ∃ b ∈ x :: l, (val b p).isSome = true) {b : BB} (hb : b ∈ x :: l) (h5 : b.p.off = 0) : JoinR (x :: l) (joinB b d) 0 := by
  show JoinC _ _ _ _; unfold JoinC; rw [if_neg (by simp [h]), if_neg h1, if_neg (by rw [h2]; simp)]
  exact .inr ⟨d, t, h3, .inr ⟨rfl, h4, b, hb, h5, rfl⟩⟩
def tlJ1 : ACode := match k_frag_Join with
  | .seq _ (.seq _ (.seq _ t)) => t
  | _ => .skip
def tlJ2 : ACode := match k_frag_Join with
  | .seq _ (.seq _ (.seq _ (.seq _ t))) => t
  | _ => .skip
def tlJ3 : ACode := match k_frag_Join with
  | .seq _ (.seq _ (.seq _ (.seq _ (.seq _ (.seq _ t))))) => t
  | _ => .skip
def tlJ4 : ACode := match k_frag_Join with
  | .seq _ (.seq _ (.seq _ (.seq _ (.seq _ (.seq _ (.seq _ (.seq _ (.seq _ t)))))))) => t
  | _ => .skip
theorem fit_all {x : BB} {l : List BB} (hok : ∀ b ∈ x :: l, BOk b) (h : (x :: l).all (fitB x.p) = true) : 1 ≤ x.p.tot ∧ x.p.tot ≤ 65536 ∧ ∀ b ∈ x :: l, FOk x.p.tot.toNat b := by
  rw [List.all_eq_true] at h
  have h1 : ∀ b ∈ x :: l, fragB b.p.fl = true ∧ b.p.tot = x.p.tot ∧ (b.pay.s.length : Int) ≤ b.p.tot - b.p.off ∧ b.p.tot ≤ 65536 := fun b hb => by
    have := h b hb
    simp only [fitB, sameP, Bool.and_eq_true, decide_eq_true_eq] at this
    exact ⟨this.1.1.1, this.1.1.2.2, this.1.2, this.2⟩
  have hx := h1 x (by simp)
  have k := (hok x (by simp)).fr hx.1
  have k0 := (hok x (by simp)).p.o0
  refine ⟨by omega, hx.2.2.2, fun b hb => ?_⟩
  have hb1 := h1 b hb
  have kb := (hok b hb).p.o0
  exact ⟨kb, by omega⟩
theorem hvs_hf (l : List Pr) : V.hfs (hvs l) = true := by
  induction l with
  | nil => rfl
  | cons x l ih => show (x.v.hf && V.hfs (hvs l)) = true; rw [ih]; simp [Pr.v, Pr.cs]
theorem Fgjoin_rest (x : BB) (r : List BB) (hl : (x :: r).length ≤ 1000) (hc : fstC (x :: r) = 0) (hok : ∀ b ∈ x :: r, BOk b) (hb : ∀ b ∈ x :: r, b.bl.length ≤ 1000000) (hS : spansB (x :: r) ≠ [] → CanSort (spansB (x :: r))) (h1 : ¬ (r = [] ∧ fragB x.p.fl = false)) (z : List (Nat × V)) (g : Heap) (h0 : g.row 0 = some zB.cells) :
    Xc T tlJ2 [] ((0, .ps 25 (bbs (x :: r))) :: (2, .ptr 0 0) :: z) g (RetP [RV.c 2 25, RV.t 3] [] fun v _ => ∃ r_1 e, v = V.tup [BB.v r_1, V.int IntKind.i64 e] ∧ JoinR (x :: r) r_1 e) := by
  have bl := bbs_len (x :: r)
  have bv : ∀ b : BB, V.agg b.cells = b.v := fun _ => rfl
  obtain ⟨_, rt⟩ := FgFits_run x r (by omega) hok
  have z0 := rlt h0
  have g0 : (bbs (x :: r))[0]? = some x.v := rfl
  have s0 : ∀ w, Heap.row (g.set 0 (some zB.cells) ++ w) 0 = some zB.cells := fun w => by rw [row_app (by simpa using z0)]; exact row_set z0
  have s1 : Heap.row (g.set 0 (some zB.cells)) 0 = some zB.cells := row_set z0
  have ci : ((x :: r).length : Int) = (r.length : Int) + 1 := rfl
  show Xc T (.seq _ (.seq _ tlJ3)) _ _ _ _
  rw [zB_cells]
  simp (disch := omega)
  rw [Xp_run rt (by simp [bbs_hf]) (by simp) (by simp [scalar])]
  cases h2 : (x :: r).all (fitB x.p) with
  | false =>
    simp (disch := omega) [h0, bv, s1]
    exact ⟨zB, _, ⟨rfl, rfl⟩, J_f hc h1 h2⟩
  | true =>
    obtain ⟨n1, n2, hf⟩ := fit_all hok h2
    obtain ⟨N, hN⟩ := Int.eq_ofNat_of_zero_le (show 0 ≤ x.p.tot by omega)
    rw [hN] at hf n1 n2
    have eN : ((N : Int)).toNat = N := rfl
    rw [eN] at hf
    simp (disch := omega) [g0, hN]
    show Xc T (.seq _ (.seq _ (.seq (.seq _ _) tlJ4))) _ _ _ _
    simp (disch := omega) [ci, bl]
    have I0 : Inv ((x :: r).take 0) (List.replicate N 0) (List.replicate N false) N := ⟨by simp, by simp, fun p hp => by simp [List.getElem?_replicate, hp], fun b hb => by simp at hb⟩
    have bz : bys (List.replicate N 0) = List.replicate N (.int .u8 0) := by simp [bys, byteV]
    have tz : blsF (List.replicate N false) = List.replicate N (.bool false) := by simp [blsF]
    have lp := join1_loop (x :: r) N g.length (g.length + 1) (by omega) (by omega) (by omega) (by omega) (by omega) hf (x :: r).length 0 _ _ (g ++ [some (List.replicate N (V.int IntKind.u8 0)), some (List.replicate N (V.bool false))]) (by omega) I0 (by rw [row_app z0]; exact h0) (by rw [bz]; exact rowA) (by
      rw [tz, show g ++ [some (List.replicate N (V.int IntKind.u8 0)), some (List.replicate N (V.bool false))] = (g ++ [some (List.replicate N (V.int IntKind.u8 0))]) ++ [some (List.replicate N (V.bool false))] by simp, show g.length + 1 = (g ++ [some (List.replicate N (V.int IntKind.u8 0))]).length by simp]
      exact rowA)
    rw [ci] at lp
    obtain ⟨D, hD⟩ : ∃ D, D = g.length := ⟨_, rfl⟩
    rw [← hD] at lp ⊢
    refine lp _ _ (fun d t g' hI h0' hDr z' => ?_) (fun hcf g' h0' => ?_)
    · clear lp
      obtain ⟨H, _, rh, hH⟩ := Holes_run (x :: r) N (by omega) (by omega) hf hS
      have z0' := rlt h0'
      have s1' : Heap.row (g'.set 0 (some zB.cells)) 0 = some zB.cells := row_set z0'
      rw [zB_cells]
      simp (disch := omega)
      rw [Xp_run rh (by simp [bbs_hf]) (by simp [hvs_hf]) (by simp [scalar])]
      by_cases cH : H = []
      · subst cH
        have cov := hH.1 rfl
        obtain ⟨b0, hb0, hv0⟩ := cov 0 (by omega)
        have hex : ∃ b ∈ x :: r, b.p.off = 0 := ⟨b0, hb0, by
          have k0 := (hf b0 hb0).o0
          unfold val at hv0
          by_cases q : b0.p.off ≤ ((0 : Nat) : Int)
          · omega
          · rw [if_neg q] at hv0; cases hv0⟩
        obtain ⟨k, ⟨hk, hk0⟩, rk⟩ := FgIdx_run (x :: r) (by omega) hex g'
        have gk := bbs_get (x :: r) k hk
        have mk : (x :: r)[k] ∈ x :: r := List.getElem_mem _
        obtain ⟨b, hbk⟩ : ∃ b, b = (x :: r)[k] := ⟨_, rfl⟩
        rw [← hbk] at gk mk hk0
        obtain ⟨_, rw'⟩ := FgWhole_run b.p (hok b mk).p []
        have c4 : (hvs []).length = 0 := rfl
        have hk' : (k : Int) < r.length + 1 := by omega
        show Xo _ _ _ _ _ _ _
        simp (disch := omega) [c4]
        rw [show tlJ4 = (.seq _ (.seq _ _)) from rfl]
        simp (disch := omega)
        rw [Xf_run rk]
        simp (disch := omega) [gk, hk', bl]
        rw [zB_cells]
        have D0 := rlt hDr
        have rA : ∀ x w, Heap.row (g' ++ x :: w) g'.length = x := fun x w => rowA
        have rDA : ∀ w, Heap.row (g' ++ w) D = some (bys d) := fun w => by rw [row_app D0]; exact hDr
        have r0A : ∀ w, Heap.row (g' ++ w) 0 = some zB.cells := fun w => by rw [row_app z0']; exact h0'
        have t19 : b.cells.take 19 = b.p.cells := rfl
        have t20 : (b.cells.drop 20).take 5 = [.int .u64 b.pay.ty, .int .u64 b.pay.nu, .int .u64 b.pay.fl, .int .i64 b.pay.k, .str b.pay.s] := rfl
        have nh := hb b mk
        have b5 := b5s_len b.bl
        have b5t : (b5s b.bl).take b.bl.length = b5s b.bl := List.take_of_length_le (by omega)
        simp only [BB.sp]
        apply Xc_regf
        simp (disch := omega) [rA, t19]
        rw [Xp_run rw' (by simp [PP.hf]) (by simp [PP.hf]) (by simp [scalar, PP.v])]
        have sl1 : (spliceL zB.cells 0 (wholeP b.p).cells).length = 25 := rfl
        obtain ⟨w, hw⟩ : ∃ w : BB, w = ⟨wholeP b.p, b.bl, b.pay⟩ := ⟨_, rfl⟩
        have sl2 : spliceL ((spliceL zB.cells 0 (wholeP b.p).cells).set 19 (V.ps 5 (b5s b.bl))) 20 [V.int IntKind.u64 b.pay.ty, V.int IntKind.u64 b.pay.nu, V.int IntKind.u64 b.pay.fl, V.int IntKind.i64 b.pay.k, V.str b.pay.s] = w.cells := by rw [hw]; rfl
        have rB : ∀ x y w, Heap.row (g' ++ x :: y :: w) (g'.length + 1) = y := fun x y w => by
          rw [show g' ++ x :: y :: w = (g' ++ [x]) ++ y :: w by simp, show g'.length + 1 = (g' ++ [x]).length by simp]; exact rowA
        simp (disch := omega) [rA, t20, b5, b5t, sl1, sl2]
        simp (disch := omega) [flagsIn, flagP, evOp, rA, rB]
        have hdl := hI.dl
        have cv : convV (g' ++ [some b.cells, some w.cells]) CK.bs (V.hs 1 D 0 N) = some (.str d) := by
          have yl := bys_len d
          have e : hsCells (g' ++ [some b.cells, some w.cells]) 1 D 0 N = some (bys d) := by
            simp only [hsCells, rDA, Option.bind_some, Nat.zero_add, List.drop_zero, Nat.mul_one]
            rw [if_pos (by omega), List.take_of_length_le (by omega)]
          show (hsCells _ 1 D 0 N).bind _ = _
          rw [e, Option.bind_some, bys_back]; rfl
        have wl : w.cells.length = 25 := rfl
        have w24 : w.cells.set 24 (.str d) = (joinB b d).cells := by rw [hw]; rfl
        have rB1 : ∀ x y, Heap.row (g' ++ [x, y]) (g'.length + 1) = y := fun x y => rB x y []
        rw [cv]
        simp (disch := omega) [rA, rB1, r0A, BB.one, w24]
        have rJ : ∀ w, Heap.row (g'.set 0 (some (joinB b d).cells) ++ w) 0 = some (joinB b d).cells := fun w => by rw [row_app (by simpa using z0')]; exact row_set z0'
        simp (disch := omega) [rJ]
        exact ⟨joinB b d, 0, ⟨rfl, rfl⟩, J_o hc h1 h2 (by rw [hN]; exact hI) (by rw [hN]; exact cov) mk hk0⟩
      · have c2 : (0 : Int) < (hvs H).length := by
          have : (hvs H).length = H.length := by simp [hvs]
          have := List.length_pos_iff.2 cH
          omega
        have c3 : 0 < (hvs H).length := by omega
        simp (disch := omega) [c2, c3, h0', s1', bv]
        exact ⟨zB, _, ⟨rfl, rfl⟩, J_h hc h1 h2 (by rw [hN]; exact hI) (by rw [hN]; exact fun q => cH (hH.2 q))⟩
    · simp (disch := omega) [h0', bv]
      exact ⟨zB, _, ⟨rfl, rfl⟩, J_x hc h1 h2 hcf⟩
theorem FgJoin_run (l : List BB) (hl : l.length ≤ 1000) (hp : ∀ b ∈ l, PPok b.p) (hb : ∀ b ∈ l, b.bl.length ≤ 1000000) (hok : fstC l = 0 → ∀ b ∈ l, BOk b) (hS : spansB l ≠ [] → CanSort (spansB l)) :
    ∃ r e h', JoinR l r e ∧ Run T f_frag_Join [.ps 25 (bbs l)] [] (.tup [r.v, .int .i64 e]) h' := by
  have bl := bbs_len l
  have lp := join0_loop l (by omega) hp hb l.length 0 [some zB.cells] (by omega) rfl
  rw [List.drop_zero] at lp
  have bv : ∀ b : BB, V.agg b.cells = b.v := fun _ => rfl
  obtain ⟨v, h', ⟨r, e, ev, hJ⟩, rr⟩ := Run.startP (P := fun v _ => ∃ r e, v = .tup [BB.v r, .int .i64 e] ∧ JoinR l r e) (vs := [.ps 25 (bbs l)]) (h := []) t_frag_Join (by
    show Xc T (.seq _ (.seq _ (.seq _ tlJ1))) _ _ _ _
    rw [zB_cells]
    cases l with
    | nil =>
      simp (disch := omega) [bbs]
      exact ⟨zB, 8, ⟨rfl, rfl⟩, rfl, rfl⟩
    | cons x r =>
      have hx1 : (x :: r).length = r.length + 1 := rfl
      have hx2 : ¬ ((bbs (x :: r)).length : Int) = 0 := by rw [bl]; omega
      have c0 : ¬ ((r.length : Int) + 1 = 0) := by omega
      have ci : ((x :: r).length : Int) = (r.length : Int) + 1 := rfl
      rw [ci] at lp
      simp (disch := omega) [bl, hx2, c0]
      refine lp _ _ (fun hc z g h0 => ?_) (fun hc g h0 => ?_)
      · have hok := hok hc
        clear lp
        have xk := hok x (by simp)
        obtain ⟨_, rf⟩ := Fragment_run x.p xk.p.f0 xk.p.f1 []
        have g0 : (bbs (x :: r))[0]? = some x.v := rfl
        obtain ⟨_, rt⟩ := FgFits_run x r (by omega) hok
        have xf := fun {ks ops K e h Q d lent} => Xp_run (ks := ks) (ops := ops) (K := K) (e := e) (h := h) (Q := Q) (d := d) (b := lent) rf (by simp [PP.hf]) rfl (by simp [scalar])
        have z0 := rlt h0
        show Xc T (.seq _ tlJ2) _ _ _ _
        by_cases cr : r = []
        · subst cr
          cases cf : fragB x.p.fl with
          | false =>
            rw [cf] at xf
            simp (disch := omega) [bl, g0, xf, h0, bv]
            exact ⟨x, _, ⟨rfl, rfl⟩, J_1 hc cf⟩
          | true =>
            rw [cf] at xf
            simp (disch := omega) [bl, g0, xf]
            exact Fgjoin_rest x [] hl hc hok hb hS (by simp [cf]) [(41, .bool false)] g h0
        · have c1 : ¬ ((r.length : Int) + 1 = 1) := fun q => cr (List.eq_nil_of_length_eq_zero (by omega))
          simp (disch := omega) [bl, g0, xf, c1]
          exact Fgjoin_rest x r hl hc hok hb hS (by simp [cr]) [(41, .bool false)] g h0
      · simp (disch := omega) [h0, bv]
        exact ⟨zB, _, ⟨rfl, rfl⟩, J_c hc⟩)
  subst ev
  exact ⟨r, e, h', hJ, rr⟩
attribute [local simp] BB.tk BB.len BB.one BB.sp BB.c0 BB.c17 BB.c18 BB.c19 BB.c24 PP.len PP.tk PP.one PP.sp BB.vc PP.vc PP.cv BB.tP
attribute [local simp] PP.c0 PP.c17 PP.c18 PP.t6 PP.t14
theorem chkB_fr {b : BB} (h : chkB b = 0) (hf : fragB b.p.fl = true) : b.p.off < b.p.tot := by
  unfold chkB at h
  split at h
  · cases h
  · split at h
    · rename_i k; exact absurd h k
    · rename_i k
      have k : chkP b.p = 0 := Decidable.byContradiction fun q => k q
      unfold chkP at k
      split at k
      · cases k
      · split at k
        · cases k
        · rename_i q
          rcases Int.lt_or_le b.p.off b.p.tot with w | w
          · exact w
          · exact absurd (.inl ⟨hf, .inr w⟩) q
theorem light_s {b : BB} (h : lightB b = true) : b.bl.length ≤ 20 ∧ b.pay.s.length ≤ 500 := by
  unfold lightB at h
  split at h
  · cases h
  · omega
theorem spans_len (l : List BB) : (spansB l).length ≤ l.length := by
  unfold spansB
  rw [List.length_map]
  exact List.length_filter_le _ _
attribute [local simp] BB.tk BB.len BB.one BB.sp BB.c0 BB.c17 BB.c18 BB.c19 BB.c24 PP.len PP.tk PP.one PP.sp BB.vc PP.vc PP.cv BB.tP
attribute [local simp] PP.c0 PP.c17 PP.c18 PP.t6 PP.t14
def FgN (n s : Nat) : Nat := if n = 0 then 1 else (n - 1) / s + 1
def FgI (n : Nat) (size : Int) : Int := if size < 1 then 0 else (FgN n size.toNat : Nat)
theorem FgN_le (n s : Nat) (h : 0 < n) : FgN n s ≤ n := by
  unfold FgN
  rw [if_neg (by omega)]
  have := Nat.div_le_self (n - 1) s
  omega
theorem FgMany_run (n : Nat) (hn : n ≤ 1000000) (size : Int) (h : Heap) : ∃ h', Run T f_frag_Many [.int .i64 n, .int .i64 size] h (.int .i64 (FgI n size)) h' := by
  refine Run.startE t_frag_Many ?_
  unfold k_frag_Many FgI
  have c0 : ¬ (n : Int) < 0 := by omega
  by_cases c1 : size < 1
  · simp (disch := omega) [c0, c1]
  · obtain ⟨s, rfl⟩ := Int.eq_ofNat_of_zero_le (show 0 ≤ size by omega)
    have es : ((s : Int)).toNat = s := rfl
    rw [es, if_neg c1]
    unfold FgN
    by_cases c2 : n = 0
    · subst c2
      simp (disch := omega) [c1]
    · have c2' : ¬ (n : Int) = 0 := by omega
      have q := Nat.div_le_self (n - 1) s
      have e1 : ((n : Int) - 1).tdiv s = ((n - 1) / s : Nat) := by
        rw [Int.tdiv_eq_ediv_of_nonneg (by omega), show (n : Int) - 1 = ((n - 1 : Nat) : Int) by omega]; rfl
      have s0 : ¬ s = 0 := by omega
      rw [if_neg c2]
      generalize (n - 1) / s = k at *
      simp (disch := omega) [c0, c1, c2, c2', e1, s0]
theorem FgN_alt (n s : Nat) (hs : 0 < s) : FgN n s = if 0 < n % s ∨ n = 0 then n / s + 1 else n / s := by
  unfold FgN
  by_cases c2 : n = 0
  · subst c2; simp
  · rw [if_neg c2]
    have e := Nat.div_add_mod n s
    have l := Nat.mod_lt n hs
    by_cases c3 : 0 < n % s
    · rw [if_pos (.inl c3)]
      congr 1
      have : n - 1 = s * (n / s) + (n % s - 1) := by omega
      have z : (n % s - 1) / s = 0 := Nat.div_eq_of_lt (by omega)
      rw [this, Nat.mul_add_div hs, z, Nat.add_zero]
    · rw [if_neg (by omega)]
      have h0 : n % s = 0 := by omega
      have k1 : 1 ≤ n / s := by
        rcases Nat.eq_zero_or_pos (n / s) with z | z
        · rw [z, h0] at e; omega
        · exact z
      obtain ⟨k, hk⟩ : ∃ k, n / s = k + 1 := ⟨n / s - 1, by omega⟩
      rw [hk] at e ⊢
      have : n - 1 = s * k + (s - 1) := by rw [Nat.mul_add] at e; omega
      have z : (s - 1) / s = 0 := Nat.div_eq_of_lt (by omega)
      rw [this, Nat.mul_add_div hs, z]
theorem FgManyR_run (n : Nat) (hn : n ≤ 1000000) (size : Int) (h : Heap) : ∃ h', Run T f_ref12_Many [.int .i64 n, .int .i64 size] h (.int .i64 (FgI n size)) h' := by
  refine Run.startE t_ref12_Many ?_
  unfold k_ref12_Many FgI
  have c0 : ¬ (n : Int) < 0 := by omega
  by_cases c1 : size < 1
  · simp (disch := omega) [c0, c1]
  · obtain ⟨s, rfl⟩ := Int.eq_ofNat_of_zero_le (show 0 ≤ size by omega)
    have es : ((s : Int)).toNat = s := rfl
    rw [es, if_neg c1]
    have s0 : ¬ s = 0 := by omega
    have q := Nat.div_le_self n s
    have e1 : (n : Int).tdiv s = (n / s : Nat) := by rw [Int.tdiv_eq_ediv_of_nonneg (by omega)]; rfl
    have e2 : (n : Int).tmod s = (n % s : Nat) := by rw [Int.tmod_eq_emod_of_nonneg (by omega)]; rfl
    rw [FgN_alt n s (by omega)]
    generalize n / s = k at *
    generalize n % s = m at *
    by_cases c2 : 0 < m
    · have c2' : (0 : Int) < m := by omega
      simp (disch := omega) [c0, c1, e1, e2, s0, c2, c2']
    · have c2' : ¬ (0 : Int) < m := by omega
      by_cases c3 : n = 0
      · have c3' : (n : Int) = 0 := by omega
        simp (disch := omega) only [c3, e1, e2, or_true, if_true] at *
        have c3'' : k = 0 := by omega
        subst c3''
        have m0 : m = 0 := by omega
        subst m0
        simp (disch := omega) [c1, e1, e2, s0]
      · have c3' : ¬ (n : Int) = 0 := by omega
        simp (disch := omega) [c0, c1, e1, e2, s0, c2, c2', c3, c3']
theorem op_or1 (q : EqK) (fl : Int) (h0 : 0 ≤ fl) (h1 : fl ≤ 18446744073709551615) (hf : fragB fl = false) : binV .or q (.int .u64 fl) (.int .u64 1) = some (.int .u64 (fl + 1)) := by
  obtain ⟨n, rfl⟩ := Int.eq_ofNat_of_zero_le h0
  unfold fragB at hf
  rw [decide_eq_false_iff_not] at hf
  have e1 : (BitVec.ofInt 64 (n : Int) ||| BitVec.ofInt 64 1).toNat = n + 1 := by
    rw [BitVec.toNat_or]
    have a : (BitVec.ofInt 64 (n : Int)).toNat = n := by simp; omega
    have b : (BitVec.ofInt 64 1).toNat = 1 := rfl
    rw [a, b]
    have w := Nat.two_pow_add_eq_or_of_lt (b := 1) (i := 1) (by omega) (n / 2)
    have : 2 ^ 1 * (n / 2) = n := by omega
    rw [this] at w
    exact w.symm
  rw [bin_or]
  show some (V.int .u64 (IntKind.u64.wrap ((BitVec.ofInt 64 (n : Int) ||| BitVec.ofInt 64 1).toNat : Int))) = _
  rw [e1, wrap_nat (n + 1) (by omega)]
  rfl
/-- A piece. -/
def FgPc (b : BB) (f t : Nat) : BB :=
  ⟨{ b.p with fl := if fragB b.p.fl = true then b.p.fl else b.p.fl + 1, off := b.p.off + f, tot := if fragB b.p.fl = true then b.p.tot else b.pay.s.length }, if f = 0 then b.bl else [], { b.pay with s := (b.pay.s.take t).drop f }⟩
theorem BB.s0 (w : BB) (x : Int) : w.cells.set 0 (.int .u64 x) = BB.cells ⟨{ w.p with fl := x }, w.bl, w.pay⟩ := rfl
theorem BB.s17 (w : BB) (x : Int) : w.cells.set 17 (.int .u64 x) = BB.cells ⟨{ w.p with off := x }, w.bl, w.pay⟩ := rfl
theorem BB.s18 (w : BB) (x : Int) : w.cells.set 18 (.int .u64 x) = BB.cells ⟨{ w.p with tot := x }, w.bl, w.pay⟩ := rfl
theorem BB.s19 (w : BB) (l : List B5) : w.cells.set 19 (.ps 5 (b5s l)) = BB.cells ⟨w.p, l, w.pay⟩ := rfl
theorem BB.s24 (w : BB) (x : List UInt8) : w.cells.set 24 (.str x) = BB.cells ⟨w.p, w.bl, { w.pay with s := x }⟩ := rfl
theorem FgPiece_run (b : BB) (hp : PPok b.p) (hb : b.bl.length ≤ 1000000) (f t : Nat) (h1 : f ≤ t) (h2 : t ≤ b.pay.s.length) (h3 : b.pay.s.length ≤ 100000) (h4 : b.p.off + f ≤ 18446744073709551615) : ∃ h', Run T f_frag_piece [b.v, .int .i64 f, .int .i64 t] [] (FgPc b f t).v h' := by
  have b5 := b5s_len b.bl
  have b5t : (b5s b.bl).take b.bl.length = b5s b.bl := List.take_of_length_le (by omega)
  obtain ⟨_, rf⟩ := Fragment_run b.p hp.f0 hp.f1 []
  have xf := fun {ks ops K e h Q d lent} => Xp_run (ks := ks) (ops := ops) (K := K) (e := e) (h := h) (Q := Q) (d := d) (b := lent) rf (by simp [PP.hf]) rfl (by simp [scalar])
  have bv : ∀ b : BB, V.agg b.cells = b.v := fun _ => rfl
  have t19 : b.cells.take 19 = b.p.cells := rfl
  have t20 : (b.cells.drop 20).take 5 = [.int .u64 b.pay.ty, .int .u64 b.pay.nu, .int .u64 b.pay.fl, .int .i64 b.pay.k, .str b.pay.s] := rfl
  refine Run.startE t_frag_piece ?_
  unfold k_frag_piece
  rw [zB_cells]
  unfold BB.v
  have sl1 : (spliceL zB.cells 0 b.p.cells).length = 25 := rfl
  have sl2 : spliceL (spliceL zB.cells 0 b.p.cells) 20 [V.int IntKind.u64 b.pay.ty, V.int IntKind.u64 b.pay.nu, V.int IntKind.u64 b.pay.fl, V.int IntKind.i64 b.pay.k, V.str b.pay.s] = BB.cells ⟨b.p, [], b.pay⟩ := rfl
  have r0 : ∀ v w, Heap.row (v :: w : Heap) 0 = v := fun v w => rfl
  have r1 : ∀ a v w, Heap.row (a :: v :: w : Heap) 1 = v := fun a v w => rfl
  have ho0 := hp.o0
  have w1 : IntKind.u64.wrap (f : Int) = f := wrap_u64 (by omega) (by omega)
  have w2 : IntKind.u64.wrap (b.p.off + f) = b.p.off + f := wrap_u64 (by omega) (by omega)
  have one := BB.one
  cases cf : fragB b.p.fl with
  | true =>
    have pe : FgPc b f t = ⟨{ b.p with off := b.p.off + f }, if f = 0 then b.bl else [], { b.pay with s := (b.pay.s.take t).drop f }⟩ := by simp [FgPc, cf]
    rw [pe]
    rw [cf] at xf
    by_cases c0 : f = 0
    · subst c0
      simp (disch := omega) [t19, t20, xf, sl1, sl2, r0, r1, BB.s17, BB.s19, BB.s24, w1, w2, b5, b5t]
    · have c1 : ¬ (f : Int) = 0 := by omega
      simp (disch := omega) [t19, t20, xf, sl1, sl2, r0, r1, BB.s17, BB.s19, BB.s24, w1, w2, b5, b5t, c0, c1]
  | false =>
    have oo := fun q => op_or1 q b.p.fl hp.f0 hp.f1 cf
    have pe : FgPc b f t = ⟨{ b.p with fl := b.p.fl + 1, off := b.p.off + f, tot := b.pay.s.length }, if f = 0 then b.bl else [], { b.pay with s := (b.pay.s.take t).drop f }⟩ := by simp [FgPc, cf]
    rw [pe]
    rw [cf] at xf
    have w3 : IntKind.u64.wrap (b.pay.s.length : Int) = b.pay.s.length := wrap_u64 (by omega) (by omega)
    by_cases c0 : f = 0
    · subst c0
      simp (disch := omega) [t19, t20, xf, sl1, sl2, r0, r1, BB.s0, BB.s17, BB.s18, BB.s19, BB.s24, w1, w2, w3, b5, b5t, oo]
    · have c1 : ¬ (f : Int) = 0 := by omega
      simp (disch := omega) [t19, t20, xf, sl1, sl2, r0, r1, BB.s0, BB.s17, BB.s18, BB.s19, BB.s24, w1, w2, w3, b5, b5t, c0, c1, oo]
attribute [local simp] BB.tk BB.len BB.one BB.sp BB.c0 BB.c17 BB.c18 BB.c19 BB.c24 PP.len PP.tk PP.one PP.sp BB.vc PP.vc PP.cv BB.tP
attribute [local simp] PP.c0 PP.c17 PP.c18 PP.t6 PP.t14
/-- The pieces, from the first on. -/
def pc (b : BB) (s i : Nat) : BB := FgPc b (i * s) (i * s + min s (b.pay.s.length - i * s))
def pcs (b : BB) (s m : Nat) : List BB := (List.range m).map (pc b s)
theorem pcs_succ (b : BB) (s m : Nat) : pcs b s (m + 1) = pcs b s m ++ [pc b s m] := by simp [pcs, List.range_succ]
theorem pcs_len (b : BB) (s m : Nat) : (pcs b s m).length = m := by simp [pcs]
theorem bbs_app (a c : List BB) : bbs (a ++ c) = bbs a ++ bbs c := by simp [bbs]
theorem FgN_mul {n s i : Nat} (hn : 0 < n) (hi : i < FgN n s) : i * s ≤ n - 1 := by
  unfold FgN at hi
  rw [if_neg (by omega)] at hi
  have h1 : i ≤ (n - 1) / s := by omega
  exact Nat.le_trans (Nat.mul_le_mul_right s h1) (Nat.div_mul_le_self _ _)
theorem split_loop (b : BB) (hp : PPok b.p) (hb : b.bl.length ≤ 1000000) (n s : Nat) (hn : n = b.pay.s.length) (n0 : 0 < n) (n1 : n ≤ 1000) (hs : 0 < s) (hs1 : s ≤ 1000) (h4 : b.p.off + n ≤ 18446744073709551615) (M : Nat) (hM : M = FgN n s) : ∀ (m i : Nat) (g : Heap), i + m = M → ∀ ks Q,
    (∀ z, Xk T ks (.x 1) ((1, .int .i64 s) :: (2, .rp b.cells) :: (7, .int .i64 n) :: (9, .ps 25 (bbs (pcs b s M))) :: z) g Q) →
    Xc T l_frag_Split_0 ks [(1, .int .i64 s), (2, .rp b.cells), (7, .int .i64 n), (9, .ps 25 (bbs (pcs b s i))), (56, .int .i64 M), (57, .int .i64 i)] g Q := by
  intro m
  induction m with
  | zero =>
    intro i g hi ks Q hx
    have e : i = M := by omega
    subst e
    have c1 : ¬ (i : Int) < i := by omega
    rw [L_frag_Split_0]; unfold bl_frag_Split_0
    simp (disch := omega) [c1]
    exact hx _
  | succ m ih =>
    intro i g hi ks Q hx
    have c1 : (i : Int) < M := by omega
    have ih := ih (i + 1) g (by omega) ks Q hx
    rw [show ((i + 1 : Nat) : Int) = (i : Int) + 1 from rfl, pcs_succ, bbs_app] at ih
    have hM2 : M ≤ n := by rw [hM]; exact FgN_le n s n0
    have ks' := FgN_mul n0 (show i < FgN n s by omega)
    have pl := pcs_len b s i
    have bl := bbs_len (pcs b s i)
    obtain ⟨k, hk⟩ : ∃ k, k = i * s := ⟨_, rfl⟩
    have pe : pc b s i = FgPc b k (k + min s (n - k)) := by unfold pc; rw [← hk, ← hn]
    rw [← hk] at ks'
    have ho0 := hp.o0
    obtain ⟨_, rp⟩ := FgPiece_run b hp hb k (k + min s (n - k)) (by omega) (by omega) (by omega) (by omega)
    rw [← pe] at rp
    have wk : IntKind.i64.wrap ((i : Int) * (s : Int)) = (k : Int) := by
      rw [show (i : Int) * (s : Int) = ((i * s : Nat) : Int) by simp, ← hk]; exact wrap_i64 (by omega) (by omega)
    have et : (k : Int) + min (s : Int) ((n : Int) - k) = ((k + min s (n - k) : Nat) : Int) := by omega
    have wt : IntKind.i64.wrap ((k + min s (n - k) : Nat) : Int) = ((k + min s (n - k) : Nat) : Int) := wrap_i64 (by omega) (by omega)
    have bv : ∀ b : BB, V.agg b.cells = b.v := fun _ => rfl
    generalize k + min s (n - k) = t at *
    generalize pc b s i = w at *
    generalize pcs b s i = W at *
    rw [L_frag_Split_0]; unfold bl_frag_Split_0
    simp (disch := omega) [c1, wk, et, wt, bv]
    rw [Xp_run rp (by simp [BB.hf]) (by simp [BB.hf]) (by simp [scalar])]
    have h248 : ((bbs W).length + 1) * 248 ≤ 140737488355328 := by omega
    simp (disch := omega) [h248]
    exact ih
/-- What comes of cutting a bundle. -/
def splitR (b : BB) (size : Int) : List BB × Int :=
  if chkB b ≠ 0 then ([], chkB b)
  else if size < 1 then ([], 3)
  else if FgI b.pay.s.length size = 1 then ([b], 0)
  else if wholeB b.p.fl = true then ([], 6)
  else if fragB b.p.fl = true ∧ b.p.tot - b.p.off < b.pay.s.length then ([], 2)
  else (pcs b size.toNat (FgN b.pay.s.length size.toNat), 0)
theorem many_big {n : Nat} {size : Int} (hn : n ≤ 1000) (h1 : ¬ size < 1) (h2 : FgI n size ≠ 1) : ∃ s : Nat, size = s ∧ 0 < s ∧ s ≤ 1000 ∧ 0 < n ∧ FgI n size = (FgN n s : Nat) ∧ 1 < FgN n s ∧ FgN n s ≤ n := by
  obtain ⟨s, rfl⟩ := Int.eq_ofNat_of_zero_le (show 0 ≤ size by omega)
  unfold FgI at h2
  rw [if_neg h1] at h2
  have es : ((s : Int)).toNat = s := rfl
  rw [es] at h2
  have n0 : 0 < n := by
    rcases Nat.eq_zero_or_pos n with z | z
    · exfalso; apply h2; simp [FgN, z]
    · exact z
  have nl := FgN_le n s n0
  have : (FgN n s : Int) ≠ 1 := h2
  have u : FgN n s = (n - 1) / s + 1 := by unfold FgN; rw [if_neg (by omega)]
  have k : 1 < FgN n s := by
    rw [u] at this ⊢
    generalize (n - 1) / s = q at *
    omega
  refine ⟨s, rfl, by omega, ?_, n0, ?_, k, nl⟩
  · rcases Nat.lt_or_ge 1000 s with z | z
    · exfalso
      unfold FgN at k
      rw [if_neg (by omega), Nat.div_eq_of_lt (by omega)] at k
      omega
    · exact z
  · unfold FgI; rw [if_neg h1, es]
theorem chkB_nf {b : BB} (h : chkB b = 0) (hf : fragB b.p.fl = false) : b.p.off = 0 ∧ b.p.tot = 0 := by
  unfold chkB at h
  split at h
  · cases h
  · split at h
    · rename_i k; exact absurd h k
    · rename_i k
      have k : chkP b.p = 0 := Decidable.byContradiction fun q => k q
      unfold chkP at k
      split at k
      · cases k
      · split at k
        · cases k
        · rename_i q
          constructor
          · exact Decidable.byContradiction fun z => q (.inr ⟨hf, .inl z⟩)
          · exact Decidable.byContradiction fun z => q (.inr ⟨hf, .inr z⟩)
theorem FgSplit_run (b : BB) (hp : PPok b.p) (hp1 : b.p.off ≤ 18446744073709551615) (hp2 : b.p.tot ≤ 18446744073709551615) (hb : b.bl.length ≤ 1000000) (hn : b.pay.s.length ≤ 1000) (size : Int) :
    ∃ h', Run T f_frag_Split [b.v, .int .i64 size] [] (.tup [.ps 25 (bbs (splitR b size).1), .int .i64 (splitR b size).2]) h' := by
  obtain ⟨_, rc⟩ := BCheck_run b hp hb
  obtain ⟨_, rm⟩ := FgMany_run b.pay.s.length (by omega) size []
  obtain ⟨_, rf⟩ := Fragment_run b.p hp.f0 hp.f1 []
  have xf := fun {ks ops K e h Q d lent} => Xp_run (ks := ks) (ops := ops) (K := K) (e := e) (h := h) (Q := Q) (d := d) (b := lent) rf (by simp [PP.hf]) rfl (by simp [scalar])
  have bv : ∀ b : BB, V.agg b.cells = b.v := fun _ => rfl
  have t19 : b.cells.take 19 = b.p.cells := rfl
  refine Run.startE t_frag_Split ?_
  unfold k_frag_Split
  simp (disch := omega) [bv]
  rw [Xp_run rc (by simp [BB.hf]) (by simp) (by simp [scalar])]
  by_cases c1 : chkB b = 0
  · simp (disch := omega) [c1]
    rw [Xp_run rm (by simp) (by simp) (by simp [scalar])]
    by_cases c2 : size < 1
    · have e : splitR b size = ([], 3) := by unfold splitR; rw [if_neg (by simp [c1]), if_pos c2]
      simp (disch := omega) [c2, bbs, e]
    · have c3 : FgI b.pay.s.length size ≤ 1000 := by
        by_cases q : FgI b.pay.s.length size = 1
        · omega
        · obtain ⟨s, _, _, _, _, e, _, h⟩ := many_big hn c2 q
          omega
      have c3' : ¬ 1024 < FgI b.pay.s.length size := by omega
      by_cases c4 : FgI b.pay.s.length size = 1
      · have e : splitR b size = ([b], 0) := by unfold splitR; rw [if_neg (by simp [c1]), if_neg c2, if_pos c4]
        simp (disch := omega) [c2, c4, bv, bbs, e]
      · obtain ⟨s, rfl, s0, s1, n0, em, m1, m2⟩ := many_big hn c2 c4
        have o4 := fun q => op_and4 q b.p.fl hp.f0 hp.f1
        cases c5 : wholeB b.p.fl with
        | true =>
          have e : splitR b s = ([], 6) := by unfold splitR; rw [if_neg (by simp [c1]), if_neg c2, if_neg c4, if_pos c5]
          have o4 := fun q => (o4 q).trans (by rw [c5])
          simp only [if_true] at o4
          simp (disch := omega) [c2, c3', c4, o4, e, bbs]
        | false =>
          have o4 := fun q => (o4 q).trans (by rw [c5])
          simp only [if_false, Bool.false_eq_true] at o4
          have rest : ∀ c6 : ¬ (fragB b.p.fl = true ∧ b.p.tot - b.p.off < b.pay.s.length), Xc T l_frag_Split_0 [.block 1, .seq (.seq (.reg [xT 80 9, xT 4 80, xS 5 (.mv (xI 0) false)] [4, 5]) .ret)] [(1, V.int IntKind.i64 (s : Nat)), (2, V.rp b.cells), (7, V.int IntKind.i64 b.pay.s.length), (9, .ps 25 []), (56, V.int IntKind.i64 (FgI b.pay.s.length s)), (57, .int .i64 0)] [] (RetE [RV.t 4, RV.t 5] [] (.tup [.ps 25 (bbs (splitR b s).1), .int .i64 (splitR b s).2])) := by
            intro c6
            have e : splitR b s = (pcs b s (FgN b.pay.s.length s), 0) := by
              unfold splitR
              rw [if_neg (by simp [c1]), if_neg c2, if_neg c4, if_neg (by simp [c5]), if_neg c6]; rfl
            have h4 : b.p.off + b.pay.s.length ≤ 18446744073709551615 := by
              cases cf : fragB b.p.fl with
              | true =>
                have : ¬ b.p.tot - b.p.off < b.pay.s.length := fun q => c6 ⟨cf, q⟩
                omega
              | false =>
                have := chkB_nf c1 cf
                omega
            have lp := split_loop b hp hb b.pay.s.length s rfl n0 hn s0 s1 h4 (FgN b.pay.s.length s) rfl (FgN b.pay.s.length s) 0 [] (by omega)
            rw [e, em]
            refine lp _ _ fun z => ?_
            simp (disch := omega)
          simp (disch := omega) [c2, c3', c4, o4, t19, xf]
          cases cf : fragB b.p.fl with
          | true =>
            have hfr := chkB_fr c1 cf
            have su := sub_u b.p.tot b.p.off hp.o0 hfr hp2
            have w3 : IntKind.u64.wrap (b.pay.s.length : Int) = b.pay.s.length := wrap_u64 (by omega) (by omega)
            by_cases c6 : b.p.tot - b.p.off < b.pay.s.length
            · have e : splitR b s = ([], 2) := by
                unfold splitR
                rw [if_neg (by simp [c1]), if_neg c2, if_neg c4, if_neg (by simp [c5]), if_pos ⟨cf, c6⟩]
              simp (disch := omega) [su, w3, c6, e, bbs]
            · simp (disch := omega) [su, w3, c6]
              exact rest fun q => c6 q.2
          | false =>
            simp (disch := omega)
            exact rest (by simp [cf])
  · have e : splitR b size = ([], chkB b) := by unfold splitR; rw [if_pos c1]
    simp (disch := omega) [c1, bbs, e]
end Ev
