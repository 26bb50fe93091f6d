/- Fragments: of one bundle? Fragments: do they fit? As the program, and as the document says. Fragments: do they fit, as the document says; is a place in one? Fragments: a fragment's data laid. Fragments: all data laid. Fragments: spans, sorted; which places are in none. Fragments: which places are in none, walked. Each theorem states its own conditions. -/
import Derived.Test.YtienkohkbihdoaaJCode
import Derived.Test.YtienkohkbihdoaaJV6
import Derived.Test.YtienkohkbihdoaaJPs
set_option linter.all false
namespace Ev
open Go
set_option maxRecDepth 10000
attribute [-simp] getElem?_pos getElem?_neg List.drop_one
theorem awake12 : ∃ h', Run T f_law12_awake [] [] (.bool true) h' := Run.closed (n := 300) (by kernel_rfl)
section
variable {ks : List Kt} {ops : List AOpr} {K : Kp} {e : Env} {h : Heap} {Q : Ex → Env → Heap → Prop} {d : Nat} {lent : Bool}
theorem awake12_p : Xp T f_law12_awake (some ([], lent)) h (some d) ops K ks e Q = Xo T ops K ks ((d, .bool true) :: e) h Q := by
  obtain ⟨h', r⟩ := awake12
  exact Xp_run r rfl rfl (by simp [scalar])
end
def bbs (l : List BB) : List V := l.map BB.v
theorem bbs_len (l : List BB) : (bbs l).length = l.length := by simp [bbs]
theorem bbs_get (l : List BB) (i : Nat) (h : i < l.length) : (bbs l)[i]? = some l[i].v := by simp [bbs, List.getElem?_eq_getElem h]
theorem bbs_hf (l : List BB) : V.hfs (bbs l) = true := by
  induction l with
  | nil => rfl
  | cons x l ih => show (x.v.hf && V.hfs (bbs l)) = true; rw [BB.hf, ih]; rfl
theorem BB.vc (b : BB) : b.v.cells = b.cells := rfl
theorem BB.c0 (b : BB) : b.cells[0]? = some (.int .u64 b.p.fl) := rfl
theorem BB.c17 (b : BB) : b.cells[17]? = some (.int .u64 b.p.off) := rfl
theorem BB.c18 (b : BB) : b.cells[18]? = some (.int .u64 b.p.tot) := rfl
theorem PP.len (p : PP) : p.cells.length = 19 := rfl
theorem PP.cv (p : PP) : V.agg p.cells = p.v := rfl
def eqE (a b : E4) : Bool := decide (a.sc = b.sc) && decide (a.nm = b.nm) && decide (a.nd = b.nd) && decide (a.sv = b.sv)
def eqT (a b : PP) : Bool := decide (a.st = b.st) && decide (a.sq = b.sq)
def sameP (a b : PP) : Bool := eqE a.s b.s && eqT a b && (fragB a.fl == fragB b.fl) && decide (a.tot = b.tot)
theorem FgSame_run (a b : PP) (ha : PPok a) (hb : PPok b) (h : Heap) : ∃ h', Run T f_primary_Same [a.v, b.v] h (.bool (sameP a b)) h' := by
  obtain ⟨_, fa⟩ := Fragment_run a ha.f0 ha.f1 []
  obtain ⟨_, fb⟩ := Fragment_run b hb.f0 hb.f1 []
  have xa := fun {ks ops K e h Q d lent} => Xp_run (ks := ks) (ops := ops) (K := K) (e := e) (h := h) (Q := Q) (d := d) (b := lent) fa (by simp [PP.hf]) rfl (by simp [scalar])
  have xb := fun {ks ops K e h Q d lent} => Xp_run (ks := ks) (ops := ops) (K := K) (e := e) (h := h) (Q := Q) (d := d) (b := lent) fb (by simp [PP.hf]) rfl (by simp [scalar])
  refine Run.startE t_primary_Same ?_
  unfold k_primary_Same sameP eqE eqT
  unfold PP.v at xa xb ⊢
  by_cases c1 : a.s.sc = b.s.sc
  · by_cases c2 : a.s.nm = b.s.nm
    · by_cases c3 : a.s.nd = b.s.nd
      · by_cases c4 : a.s.sv = b.s.sv
        · by_cases c5 : a.st = b.st
          · by_cases c6 : a.sq = b.sq
            · cases c7 : fragB a.fl <;> cases c8 : fragB b.fl <;>
              ( rw [c7] at xa; rw [c8] at xb
                simp only [c1, c2, c3, c4, c5, c6] at xa
                simp (disch := omega) [c1, c2, c3, c4, c5, c6, xa, xb])
            · simp (disch := omega) [c1, c2, c3, c4, c5, c6]
          · simp (disch := omega) [c1, c2, c3, c4, c5]
        · simp (disch := omega) [c1, c2, c3, c4]
      · simp (disch := omega) [c1, c2, c3]
    · simp (disch := omega) [c1, c2]
  · simp (disch := omega) [c1]
/-- What is read of a bundle that is light. -/
structure BOk (b : BB) : Prop where
  p : PPok b.p
  o1 : b.p.off ≤ 18446744073709551615
  t1 : b.p.tot ≤ 18446744073709551615
  s : b.pay.s.length ≤ 100000
  fr : fragB b.p.fl = true → b.p.off < b.p.tot
def fitB (a : PP) (b : BB) : Bool := fragB b.p.fl && sameP b.p a && decide ((b.pay.s.length : Int) ≤ b.p.tot - b.p.off) && decide (b.p.tot ≤ 65536)
theorem zB_cells : [.int .u64 0, .int .i64 0, .int .i64 0, .str [], .int .u64 0, .int .u64 0, .int .i64 0, .str [], .int .u64 0, .int .u64 0, .int .i64 0, .str [], .int .u64 0, .int .u64 0, .int .u64 0, .int .u64 0, .int .u64 0, .int .u64 0, .int .u64 0, .ps 5 [], .int .u64 0, .int .u64 0, .int .u64 0, .int .i64 0, .str []] = zB.cells := rfl
theorem zP_cells : [.int .u64 0, .int .i64 0, .int .i64 0, .str [], .int .u64 0, .int .u64 0, .int .i64 0, .str [], .int .u64 0, .int .u64 0, .int .i64 0, .str [], .int .u64 0, .int .u64 0, .int .u64 0, .int .u64 0, .int .u64 0, .int .u64 0, .int .u64 0] = zB.p.cells := rfl
theorem PP.sp (a b : PP) : spliceL a.cells 0 b.cells = b.cells := rfl
theorem PP.tk (b : PP) : b.cells.take 19 = b.cells := rfl
theorem PP.vc (p : PP) : p.v.cells = p.cells := rfl
theorem PP.one (b : PP) : b.cells.all V.one = true := by simp [PP.cells]
theorem rowA {g w : Heap} {x : Option (List V)} : Heap.row (g ++ x :: w) g.length = x := by
  unfold Heap.row
  rw [List.getElem?_append_right (Nat.le_refl _), Nat.sub_self]; rfl
theorem rlt {g : Heap} {j : Nat} {cs : List V} (h : Heap.row g j = some cs) : j < g.length := by
  unfold Heap.row at h
  cases hh : g[j]? with
  | none => simp [hh] at h
  | some z => exact (List.getElem?_eq_some_iff.1 hh).1
attribute [local simp] BB.tk BB.len BB.one BB.sp BB.c0 BB.c17 BB.c18 BB.c19 BB.c24 PP.len PP.tk PP.one PP.sp BB.vc PP.vc PP.cv BB.tP
theorem sub_u (a b : Int) (h0 : 0 ≤ b) (h1 : b < a) (h2 : a ≤ 18446744073709551615) : IntKind.u64.wrap (a - b) = a - b := by
  obtain ⟨n, hn⟩ := Int.eq_ofNat_of_zero_le (show 0 ≤ a - b by omega)
  rw [hn]; exact wrap_nat n (by omega)
theorem FgFits_loop (l : List BB) (a : PP) (ha : PPok a) (hl : l.length ≤ 1000000) (hok : ∀ b ∈ l, BOk b) (R : Nat) : ∀ (m i : Nat) (g : Heap), i + m = l.length → g.row R = some a.cells → ∀ ks Q,
    ((l.drop i).all (fitB a) = true → ∀ z g', Xk T ks (.x 0) z g' Q) → ((l.drop i).all (fitB a) = false → ∀ g', Xk T ks .r [(2, .bool false)] g' Q) →
    Xc T l_frag_fits_0 ks [(3, .ptr R 0), (11, .ps 25 (bbs l)), (12, .int .i64 l.length), (13, .int .i64 i)] g Q := by
  intro m
  induction m with
  | zero =>
    intro i g hi hR ks Q h1 h2
    have e : l.drop i = [] := List.drop_eq_nil_of_le (by omega)
    rw [e] at h1
    have c1 : ¬ (i : Int) < l.length := by omega
    rw [L_frag_fits_0]; unfold bl_frag_fits_0
    simp (disch := omega) [c1]
    exact h1 rfl _ _
  | succ m ih =>
    intro i g hi hR ks Q h1 h2
    have hil : i < l.length := by omega
    have e := List.drop_eq_getElem_cons hil
    rw [e] at h1 h2
    have c1 : (i : Int) < l.length := by omega
    have g1 := bbs_get l i hil
    have hb := hok l[i] (List.getElem_mem _)
    obtain ⟨b, hb'⟩ : ∃ b, b = l[i] := ⟨_, rfl⟩
    rw [← hb'] at g1 hb h1 h2
    rw [List.all_cons] at h1 h2
    have Rl := rlt hR
    have ih := ih (i + 1) (g ++ [some b.cells]) (by omega) (by rw [row_app Rl]; exact hR) ks Q
    rw [show ((i + 1 : Nat) : Int) = (i : Int) + 1 from rfl] at ih
    obtain ⟨_, fb⟩ := Fragment_run b.p hb.p.f0 hb.p.f1 []
    obtain ⟨_, sb⟩ := FgSame_run b.p a hb.p ha []
    have xf := fun {ks ops K e h Q d lent} => Xp_run (ks := ks) (ops := ops) (K := K) (e := e) (h := h) (Q := Q) (d := d) (b := lent) fb (by simp [PP.hf]) rfl (by simp [scalar])
    have xs := fun {ks ops K e h Q d lent} => Xp_run (ks := ks) (ops := ops) (K := K) (e := e) (h := h) (Q := Q) (d := d) (b := lent) sb (by simp [PP.hf]) rfl (by simp [scalar])
    have hb1 := hb.s
    have rA : ∀ x w, Heap.row (g ++ x :: w) g.length = x := fun x w => rowA
    rw [L_frag_fits_0]; unfold bl_frag_fits_0
    rw [zB_cells]
    cases c2 : fragB b.p.fl with
    | false =>
      have k : fitB a b = false := by simp [fitB, c2]
      rw [k] at h2
      rw [c2] at xf
      simp (disch := omega) [c1, hil, g1, rA, xf, hR]
      exact h2 rfl _
    | true =>
      rw [c2] at xf
      have hfr := hb.fr c2
      have su := sub_u b.p.tot b.p.off hb.p.o0 hfr hb.t1
      cases c3 : sameP b.p a with
      | false =>
        have k : fitB a b = false := by simp [fitB, c3]
        rw [k] at h2
        rw [c3] at xs
        simp (disch := omega) [c1, hil, g1, rA, xf, xs, hR]
        exact h2 rfl _
      | true =>
        rw [c3] at xs
        by_cases c4 : (b.pay.s.length : Int) ≤ b.p.tot - b.p.off
        · have c4' : ¬ b.p.tot - b.p.off < (b.pay.s.length : Int) := by omega
          by_cases c5 : b.p.tot ≤ 65536
          · have c5' : ¬ 65536 < b.p.tot := by omega
            have k : fitB a b = true := by simp [fitB, c2, c3, c4, c5]
            rw [k] at h1 h2
            simp (disch := omega) [c1, hil, g1, rA, xf, xs, hR, su, c4, c4', c5, c5']
            exact ih h1 h2
          · have c5' : 65536 < b.p.tot := by omega
            have k : fitB a b = false := by simp [fitB, c5]
            rw [k] at h2
            simp (disch := omega) [c1, hil, g1, rA, xf, xs, hR, su, c4, c4', c5, c5']
            exact h2 rfl _
        · have c4' : b.p.tot - b.p.off < (b.pay.s.length : Int) := by omega
          have k : fitB a b = false := by simp [fitB, c4]
          rw [k] at h2
          simp (disch := omega) [c1, hil, g1, rA, xf, xs, hR, su, c4, c4']
          exact h2 rfl _
theorem FgFits_run (x : BB) (r : List BB) (hl : (x :: r).length ≤ 1000000) (hok : ∀ b ∈ x :: r, BOk b) : ∃ h', Run T f_frag_fits [.ps 25 (bbs (x :: r))] [] (.bool ((x :: r).all (fitB x.p))) h' := by
  have lp := FgFits_loop (x :: r) x.p (hok x (by simp)).p hl hok 0 (x :: r).length 0 [some x.p.cells] (by omega) rfl
  have bl := bbs_len (x :: r)
  have g0 : (bbs (x :: r))[0]? = some x.v := rfl
  obtain ⟨v, h', ev, rr⟩ := Run.startP (P := fun v _ => v = .bool ((x :: r).all (fitB x.p))) (vs := [.ps 25 (bbs (x :: r))]) (h := []) t_frag_fits (by
    unfold k_frag_fits
    rw [zP_cells]
    simp (disch := omega) [bl, g0]
    refine lp _ _ (fun h z g' => ?_) (fun h g' => ?_)
    · simp at h
      simp [h]
      exact fun b hb => h.2 b hb
    · have h : (fitB x.p x && r.all (fitB x.p)) = false := h
      simp [h])
  subst ev
  exact ⟨h', rr⟩
attribute [local simp] BB.tk BB.len BB.one BB.sp BB.c0 BB.c17 BB.c18 BB.c19 BB.c24 PP.len PP.tk PP.one PP.sp BB.vc PP.vc PP.cv BB.tP
theorem PP.c0 (p : PP) : p.cells[0]? = some (.int .u64 p.fl) := rfl
theorem PP.c17 (p : PP) : p.cells[17]? = some (.int .u64 p.off) := rfl
theorem PP.c18 (p : PP) : p.cells[18]? = some (.int .u64 p.tot) := rfl
theorem PP.t6 (p : PP) : (p.cells.drop 6).take 4 = [.int .i64 p.s.sc, .str p.s.nm, .int .u64 p.s.nd, .int .u64 p.s.sv] := rfl
theorem PP.t14 (p : PP) : (p.cells.drop 14).take 2 = [.int .u64 p.st, .int .u64 p.sq] := rfl
attribute [local simp] PP.c0 PP.c17 PP.c18 PP.t6 PP.t14
theorem op_rem2 (q : EqK) (fl : Int) (h0 : 0 ≤ fl) (h1 : fl ≤ 18446744073709551615) : binV .rem q (.int .u64 fl) (.int .u64 2) = some (.int .u64 (if fragB fl then 1 else 0)) := by
  have e5 : fl.tmod 2 = fl % 2 := Int.tmod_eq_emod_of_nonneg h0
  have e6 : IntKind.u64.wrap (fl % 2) = fl % 2 := by
    obtain ⟨n, hn⟩ := Int.eq_ofNat_of_zero_le (show 0 ≤ fl % 2 by omega)
    rw [hn]; exact wrap_nat n (by omega)
  unfold fragB
  by_cases c : fl % 2 = 1
  · simp [binV, arithV, intOp, e5, e6, c]
  · have : fl % 2 = 0 := by omega
    simp [binV, arithV, intOp, e5, e6, this]
/-- A bundle's byte at a place. -/
def val (b : BB) (p : Nat) : Option UInt8 := if b.p.off ≤ p then b.pay.s[(p - b.p.off).toNat]? else none
theorem FgIn_run (b : BB) (hb : BOk b) (p : Nat) (hp : p < 18446744073709551616) (h : Heap) : ∃ h', Run T f_ref12_In [b.v, .int .u64 p] h (.bool (val b p).isSome) h' := by
  refine Run.startE t_ref12_In ?_
  have h0 := hb.p.o0
  have h1 := hb.s
  have rA : ∀ x w, Heap.row (h ++ x :: w) h.length = x := fun x w => rowA
  unfold k_ref12_In BB.v
  by_cases c : b.p.off ≤ p
  · have c' : ¬ ((p : Int) < b.p.off) := by omega
    have e6 : IntKind.u64.wrap ((p : Int) - b.p.off) = p - b.p.off := by
      obtain ⟨n, hn⟩ := Int.eq_ofNat_of_zero_le (show 0 ≤ (p : Int) - b.p.off by omega)
      rw [hn]; exact wrap_nat n (by omega)
    have e : (val b p).isSome = decide ((p : Int) - b.p.off < b.pay.s.length) := by
      unfold val
      rw [if_pos c]
      by_cases d : (p : Int) - b.p.off < b.pay.s.length
      · rw [List.getElem?_eq_getElem (by omega)]; simp [d]
      · rw [List.getElem?_eq_none (by omega)]; simp [d]
    rw [e]
    simp (disch := omega) [rA, c, c', e6]
  · have e : (val b p).isSome = false := by simp [val, c]
    rw [e]
    simp (disch := omega) [rA, c]
def fitR (a : PP) (b : BB) : Bool := fragB b.p.fl && eqE b.p.s a.s && eqT b.p a && decide (b.p.tot = a.tot) && fragB a.fl && decide ((b.pay.s.length : Int) ≤ b.p.tot - b.p.off) && decide (b.p.tot ≤ 65536)
theorem fitR_B (a : PP) (b : BB) : fitR a b = fitB a b := by
  unfold fitR fitB sameP
  cases fragB b.p.fl <;> cases fragB a.fl <;> cases eqE b.p.s a.s <;> cases eqT b.p a <;> simp
theorem FgJ1_loop (l : List BB) (a : PP) (ha : PPok a) (hl : l.length ≤ 1000000) (hok : ∀ b ∈ l, BOk b) (R : Nat) : ∀ (m i : Nat) (g : Heap), i + m = l.length → g.row R = some a.cells → ∀ ks Q,
    ((l.drop i).all (fitB a) = true → ∀ z w, Xk T ks (.x 2) ((0, .ps 25 (bbs l)) :: (6, .ptr R 0) :: z) (g ++ w) Q) → ((l.drop i).all (fitB a) = false → ∀ g', Xk T ks .r [(2, .str []), (3, .int .i64 6)] g' Q) →
    Xc T l_ref12_Joins_1 ks [(0, .ps 25 (bbs l)), (6, .ptr R 0), (7, .int .i64 i)] g Q := by
  intro m
  induction m with
  | zero =>
    intro i g hi hR ks Q h1 h2
    have e : l.drop i = [] := List.drop_eq_nil_of_le (by omega)
    rw [e] at h1
    have c1 : ¬ (i : Int) < l.length := by omega
    rw [L_ref12_Joins_1]; unfold bl_ref12_Joins_1
    simp (disch := omega) [c1, bbs_len]
    simpa using h1 rfl _ []
  | succ m ih =>
    intro i g hi hR ks Q h1 h2
    have hil : i < l.length := by omega
    have e := List.drop_eq_getElem_cons hil
    rw [e] at h1 h2
    have c1 : (i : Int) < l.length := by omega
    have g1 := bbs_get l i hil
    have hb := hok l[i] (List.getElem_mem _)
    obtain ⟨b, hb'⟩ : ∃ b, b = l[i] := ⟨_, rfl⟩
    rw [← hb'] at g1 hb h1 h2
    rw [List.all_cons, ← fitR_B] at h1 h2
    have Rl := rlt hR
    have ih := ih (i + 1) (g ++ [some b.p.cells]) (by omega) (by rw [row_app Rl]; exact hR) ks Q
    rw [show ((i + 1 : Nat) : Int) = (i : Int) + 1 from rfl] at ih
    have hb1 := hb.s
    have rA : ∀ x w, Heap.row (g ++ x :: w) g.length = x := fun x w => rowA
    have om := fun q => op_rem2 q b.p.fl hb.p.f0 hb.p.f1
    have oa := fun q => op_rem2 q a.fl ha.f0 ha.f1
    have neg : ∀ (P : Prop) [Decidable P], ¬ P → fitR a b = (decide P && fitR a b) → fitR a b = false := fun P _ hP hh => by rw [hh, decide_eq_false hP]; rfl
    rw [L_ref12_Joins_1]; unfold bl_ref12_Joins_1
    rw [zP_cells]
    have hRA : ∀ w, Heap.row (g ++ w) R = some a.cells := fun w => by rw [row_app Rl]; exact hR
    cases c2 : fragB b.p.fl with
    | false =>
      have k : fitR a b = false := by simp [fitR, c2]
      rw [k] at h2
      have om := fun q => (om q).trans (by rw [c2])
      simp (disch := omega) [c1, hil, g1, rA, hRA, om, bbs_len, hR]
      exact h2 rfl _
    | true =>
      have om := fun q => (om q).trans (by rw [c2])
      simp only [if_true] at om
      have hfr := hb.fr c2
      have su := sub_u b.p.tot b.p.off hb.p.o0 hfr hb.t1
      have eE : (if b.p.s.sc = a.s.sc then if b.p.s.nm = a.s.nm then if b.p.s.nd = a.s.nd then if b.p.s.sv = a.s.sv then some true else some false else some false else some false else some false) = some (eqE b.p.s a.s) := by
        unfold eqE
        by_cases d1 : b.p.s.sc = a.s.sc <;> by_cases d2 : b.p.s.nm = a.s.nm <;> by_cases d3 : b.p.s.nd = a.s.nd <;> by_cases d4 : b.p.s.sv = a.s.sv <;> simp [d1, d2, d3, d4]
      have eT : (if b.p.st = a.st then if b.p.sq = a.sq then some true else some false else some false) = some (eqT b.p a) := by
        unfold eqT
        by_cases d1 : b.p.st = a.st <;> by_cases d2 : b.p.sq = a.sq <;> simp [d1, d2]
      cases c3 : eqE b.p.s a.s with
      | false =>
        have k : fitR a b = false := by simp [fitR, c3]
        rw [k] at h2
        rw [c3] at eE
        simp (disch := omega) [c1, hil, g1, rA, hRA, om, bbs_len, hR, eE]
        exact h2 rfl _
      | true =>
        rw [c3] at eE
        cases c4 : eqT b.p a with
        | false =>
          have k : fitR a b = false := by simp [fitR, c4]
          rw [k] at h2
          rw [c4] at eT
          simp (disch := omega) [c1, hil, g1, rA, hRA, om, bbs_len, hR, eE, eT]
          exact h2 rfl _
        | true =>
          rw [c4] at eT
          by_cases c5 : b.p.tot = a.tot
          · cases c6 : fragB a.fl with
            | false =>
              have k : fitR a b = false := by simp [fitR, c6]
              rw [k] at h2
              have oa := fun q => (oa q).trans (by rw [c6])
              simp (disch := omega) [c1, hil, g1, rA, hRA, om, oa, bbs_len, hR, eE, eT, c5]
              exact h2 rfl _
            | true =>
              have oa := fun q => (oa q).trans (by rw [c6])
              simp only [if_true] at oa
              by_cases c7 : (b.pay.s.length : Int) ≤ b.p.tot - b.p.off
              · have c7' : ¬ b.p.tot - b.p.off < (b.pay.s.length : Int) := by omega
                by_cases c8 : b.p.tot ≤ 65536
                · have c8' : ¬ 65536 < b.p.tot := by omega
                  have k : fitR a b = true := by simp [fitR, c2, c3, c4, c5, c6]; omega
                  rw [k] at h1 h2
                  rw [c5] at su c7 c7' c8 c8'
                  simp (disch := omega) [c1, hil, g1, rA, hRA, om, oa, bbs_len, hR, eE, eT, c5, su, c7, c7', c8, c8']
                  exact ih (fun h z w => by simpa using h1 h z (some b.p.cells :: w)) h2
                · have c8' : 65536 < b.p.tot := by omega
                  have k : fitR a b = false := by simp [fitR, c8]
                  rw [k] at h2
                  rw [c5] at su c7 c7' c8 c8'
                  simp (disch := omega) [c1, hil, g1, rA, hRA, om, oa, bbs_len, hR, eE, eT, c5, su, c7, c7', c8, c8']
                  exact h2 rfl _
              · have c7' : b.p.tot - b.p.off < (b.pay.s.length : Int) := by omega
                have k : fitR a b = false := by simp [fitR, c7]
                rw [k] at h2
                rw [c5] at su c7 c7'
                simp (disch := omega) [c1, hil, g1, rA, hRA, om, oa, bbs_len, hR, eE, eT, c5, su, c7, c7']
                exact h2 rfl _
          · have k : fitR a b = false := by simp [fitR, c5]
            rw [k] at h2
            simp (disch := omega) [c1, hil, g1, rA, hRA, om, bbs_len, hR, eE, eT, c5]
            exact h2 rfl _
attribute [local simp] BB.tk BB.len BB.one BB.sp BB.c0 BB.c17 BB.c18 BB.c19 BB.c24 PP.len PP.tk PP.one PP.sp BB.vc PP.vc PP.cv BB.tP
def blsF (t : List Bool) : List V := t.map V.bool
theorem blsF_len (t : List Bool) : (blsF t).length = t.length := by simp [blsF]
/-- Bytes are laid from a place on. -/
def fillL : Nat → List UInt8 → List UInt8 → List Bool → Option (List UInt8 × List Bool)
  | _, [], d, t => some (d, t)
  | p, c :: s, d, t => if t[p]? = some true ∧ d[p]? ≠ some c then none else fillL (p + 1) s (d.set p c) (t.set p true)
theorem fillL_some : ∀ (s : List UInt8) (p : Nat) (d : List UInt8) (t : List Bool) (d' : List UInt8) (t' : List Bool), p + s.length ≤ d.length → d.length = t.length → fillL p s d t = some (d', t') →
    d'.length = d.length ∧ t'.length = t.length ∧ (∀ q, q < p ∨ p + s.length ≤ q → d'[q]? = d[q]? ∧ t'[q]? = t[q]?) ∧ (∀ j, j < s.length → d'[p + j]? = s[j]? ∧ t'[p + j]? = some true) ∧ (∀ j, j < s.length → t[p + j]? = some true → d[p + j]? = s[j]?)
  | [], p, d, t, d', t', _, _, h => by
    cases h
    exact ⟨rfl, rfl, fun q _ => ⟨rfl, rfl⟩, fun j h => by simp at h, fun j h => by simp at h⟩
  | c :: s, p, d, t, d', t', hl, hdt, h => by
    simp only [List.length_cons] at hl
    simp only [fillL] at h
    split at h
    · cases h
    · rename_i hn
      obtain ⟨e1, e2, e3, e4, e5⟩ := fillL_some s (p + 1) (d.set p c) (t.set p true) d' t' (by simp; omega) (by simp [hdt]) h
      simp only [List.length_set] at e1 e2
      refine ⟨e1, e2, fun q hq => ?_, fun j hj => ?_, fun j hj ht => ?_⟩
      · simp only [List.length_cons] at hq
        obtain ⟨f1, f2⟩ := e3 q (by omega)
        exact ⟨by rw [f1, List.getElem?_set_ne (by omega)], by rw [f2, List.getElem?_set_ne (by omega)]⟩
      · cases j with
        | zero =>
          obtain ⟨f1, f2⟩ := e3 p (by omega)
          refine ⟨?_, ?_⟩
          · rw [Nat.add_zero, f1, List.getElem?_set_self (by omega)]; rfl
          · rw [Nat.add_zero, f2, List.getElem?_set_self (by omega)]
        | succ j =>
          have := e4 j (by simpa using hj)
          rw [show p + (j + 1) = p + 1 + j by omega]
          exact this
      · cases j with
        | zero =>
          rw [Nat.add_zero] at ht ⊢
          have : d[p]? = some c := Decidable.byContradiction fun k => hn ⟨ht, k⟩
          rw [this]; rfl
        | succ j =>
          have := e5 j (by simpa using hj) (by rw [List.getElem?_set_ne (by omega), ← ht]; congr 1; omega)
          rw [List.getElem?_set_ne (by omega)] at this
          rw [show p + (j + 1) = p + 1 + j by omega, this]
          rfl
theorem fillL_none : ∀ (s : List UInt8) (p : Nat) (d : List UInt8) (t : List Bool), p + s.length ≤ d.length → d.length = t.length → fillL p s d t = none → ∃ j, j < s.length ∧ t[p + j]? = some true ∧ d[p + j]? ≠ s[j]?
  | [], p, d, t, _, _, h => by cases h
  | c :: s, p, d, t, hl, hdt, h => by
    simp only [List.length_cons] at hl
    simp only [fillL] at h
    split at h
    · rename_i hn
      exact ⟨0, by simp, hn.1, by simpa using hn.2⟩
    · obtain ⟨j, h1, h2, h3⟩ := fillL_none s (p + 1) (d.set p c) (t.set p true) (by simp; omega) (by simp [hdt]) h
      rw [List.getElem?_set_ne (by omega)] at h2 h3
      exact ⟨j + 1, by simp; omega, by rw [← h2]; congr 1; omega, by rw [show p + (j + 1) = p + 1 + j by omega]; exact h3⟩
/-- The rows but two are as they were. -/
def HK2 (g g' : Heap) (a b : Nat) : Prop := g'.length = g.length ∧ ∀ i, i ≠ a → i ≠ b → Heap.row g' i = Heap.row g i
theorem HK2.refl (g : Heap) (a b : Nat) : HK2 g g a b := ⟨rfl, fun _ _ _ => rfl⟩
theorem HK2.trans {g h k : Heap} {a b : Nat} (x : HK2 g h a b) (y : HK2 h k a b) : HK2 g k a b := ⟨y.1.trans x.1, fun i h1 h2 => (y.2 i h1 h2).trans (x.2 i h1 h2)⟩
theorem HK2.set (g : Heap) (a b : Nat) (x y : Option (List V)) : HK2 g ((g.set a x).set b y) a b := ⟨by simp, fun i h1 h2 => by rw [row_ne (fun e => h2 e.symm), row_ne (fun e => h1 e.symm)]⟩
theorem fill_loopF (b : BB) (o N D B : Nat) (hDB : D ≠ B) (hN : o + b.pay.s.length ≤ N) (hN2 : N ≤ 1000000) : ∀ (m i : Nat) (d : List UInt8) (t : List Bool) (g : Heap), i + m = b.pay.s.length → d.length = N → t.length = N → g.row D = some (bys d) → g.row B = some (blsF t) → ∀ ks Q,
    (∀ d' t' g' z, fillL (o + i) (b.pay.s.drop i) d t = some (d', t') → HK2 g g' D B → g'.row D = some (bys d') → g'.row B = some (blsF t') → Xk T ks (.x 0) z g' Q) →
    (fillL (o + i) (b.pay.s.drop i) d t = none → ∀ g', HK2 g g' D B → Xk T ks .r [(6, .bool false)] g' Q) →
    Xc T l_frag_fill_0 ks [(1, .hs 1 B 0 N), (5, .rp b.cells), (7, .int .i64 o), (8, .hs 1 D o b.pay.s.length), (31, .int .i64 b.pay.s.length), (32, .int .i64 i)] g Q := by
  intro m
  induction m with
  | zero =>
    intro i d t g hi hd ht hD hB ks Q h1 h2
    have e : b.pay.s.drop i = [] := List.drop_eq_nil_of_le (by omega)
    rw [e] at h1
    have c1 : ¬ (i : Int) < b.pay.s.length := by omega
    rw [L_frag_fill_0]; unfold bl_frag_fill_0
    simp (disch := omega) [c1]
    exact h1 d t g _ rfl (HK2.refl _ _ _) hD hB
  | succ m ih =>
    intro i d t g hi hd ht hD hB ks Q h1 h2
    have hil : i < b.pay.s.length := by omega
    have c1 : (i : Int) < b.pay.s.length := by omega
    have e := List.drop_eq_getElem_cons hil
    rw [e] at h1 h2
    have gs : b.pay.s[i]? = some b.pay.s[i] := List.getElem?_eq_getElem hil
    obtain ⟨c, hc⟩ : ∃ c, c = b.pay.s[i] := ⟨_, rfl⟩
    rw [← hc] at gs h1 h2
    have hod : o + i < d.length := by omega
    have hot : o + i < t.length := by omega
    have gd : (bys d)[o + i]? = some (byteV d[o + i]) := by rw [bys_get, List.getElem?_eq_getElem hod]; rfl
    have gt : (blsF t)[o + i]? = some (.bool t[o + i]) := by simp [blsF, List.getElem?_eq_getElem hot]
    simp only [fillL, List.getElem?_eq_getElem hod, List.getElem?_eq_getElem hot, ne_eq, Option.some.injEq] at h1 h2
    have wr := wrap_i64 (x := (o : Int) + i) (by omega) (by omega)
    have oi : ((o : Int) + i).toNat = o + i := by omega
    have oiN : (o : Int) + i < N := by omega
    have bl := blsF_len t
    have yl := bys_len d
    generalize d[o + i] = x at *
    have Dl := rlt hD
    have Bl := rlt hB
    rw [L_frag_fill_0]; unfold bl_frag_fill_0
    by_cases c2 : t[o + i] = true ∧ ¬ x = c
    · rw [if_pos c2] at h2
      have c3 : ¬ ((x.toNat : Int) = c.toNat) := fun q => c2.2 (u8_inj.1 q)
      simp (disch := omega) [c1, gs, gd, gt, hD, hB, wr, oi, oiN, c2.1, byteV_def, c3, bl, yl, hil]
      exact h2 rfl g (HK2.refl _ _ _)
    · rw [if_neg c2] at h1 h2
      have hbd : (bys d).set (o + i) (byteV c) = bys (d.set (o + i) c) := by simp [bys, List.map_set]
      have hbt : (blsF t).set (o + i) (.bool true) = blsF (t.set (o + i) true) := by simp [blsF, List.map_set]
      have k := HK2.set g D B (some (bys (d.set (o + i) c))) (some (blsF (t.set (o + i) true)))
      have := ih (i + 1) (d.set (o + i) c) (t.set (o + i) true) ((g.set D (some (bys (d.set (o + i) c)))).set B (some (blsF (t.set (o + i) true)))) (by omega) (by simp [hd]) (by simp [ht]) (by rw [row_ne (fun e => hDB e.symm), row_set Dl]) (row_set (by simpa using Bl)) ks Q (fun d' t' g' z q1 q2 => h1 d' t' g' z q1 (k.trans q2)) (fun q1 g' q2 => h2 q1 g' (k.trans q2))
      rw [show ((i + 1 : Nat) : Int) = (i : Int) + 1 from rfl] at this
      have hB2 : Heap.row (g.set D (some (bys (d.set (o + i) c)))) B = some (blsF t) := by rw [row_ne hDB]; exact hB
      rw [byteV_def] at hbd
      cases c3 : t[o + i] with
      | false =>
        rw [c3] at gt
        simp (disch := omega) [c1, gs, gd, gt, hD, hB, wr, oi, oiN, byteV_def, bl, yl, hil, hbd, hbt, hB2]
        exact this
      | true =>
        rw [c3] at gt
        have c4 : x = c := Decidable.byContradiction fun q => c2 ⟨c3, q⟩
        subst c4
        simp (disch := omega) [c1, gs, gd, gt, hD, hB, wr, oi, oiN, byteV_def, bl, yl, hil, hbd, hbt, hB2]
        exact this
attribute [local simp] BB.tk BB.len BB.one BB.sp BB.c0 BB.c17 BB.c18 BB.c19 BB.c24 PP.len PP.tk PP.one PP.sp BB.vc PP.vc PP.cv BB.tP
theorem slX (b N o n : Nat) (h : o + n ≤ N) : slV (.sl 1) (.hs 1 b 0 N) (some (.int .i64 o)) (some (.int .i64 (o + n : Nat))) (some (.int .i64 (o + n : Nat))) = some (if n = 0 then .ps 1 [] else .hs 1 b o n) := by
  have e1 : (((o + n : Nat) : Int)).toNat = o + n := by omega
  have h1 : ((o : Int)).toNat = o := by omega
  simp only [slV, bndO, bndV, e1, h1, Option.isSome_some, imp_self, and_self, if_true]
  rw [if_pos (by omega)]
  simp only [Option.bind_some]
  rw [if_pos (by omega)]
  simp only [Option.bind_some]
  rw [if_pos (by omega)]
  simp only [Option.bind_some, Nat.zero_add, Nat.mul_one, show o + n - o = n by omega]
  split <;> rfl
def FillR (o : Nat) (s d : List UInt8) (t : List Bool) (D B : Nat) (r : Bool) (g' : Heap) : Prop := match fillL o s d t with
  | some (d', t') => r = true ∧ g'.row D = some (bys d') ∧ g'.row B = some (blsF t')
  | none => r = false
theorem FgFill_run (b : BB) (o N D B : Nat) (ho : b.p.off = o) (hDB : D ≠ B) (hN : o + b.pay.s.length ≤ N) (hN2 : N ≤ 1000000) (d : List UInt8) (t : List Bool) (g : Heap) (hd : d.length = N) (ht : t.length = N) (hD : g.row D = some (bys d)) (hB : g.row B = some (blsF t)) :
    ∃ r g', FillR o b.pay.s d t D B r g' ∧ HK2 g g' D B ∧ Run T f_frag_fill [.hs 1 D 0 N, .hs 1 B 0 N, b.v] g (.bool r) g' := by
  obtain ⟨v, g', ⟨r, ev, q1, q2⟩, rr⟩ := Run.startP (P := fun v g' => ∃ r, v = .bool r ∧ FillR o b.pay.s d t D B r g' ∧ HK2 g g' D B) (vs := [.hs 1 D 0 N, .hs 1 B 0 N, b.v]) (h := g) t_frag_fill (by
    have sx := slX D N o b.pay.s.length hN
    have lp := fill_loopF b o N D B hDB hN hN2 b.pay.s.length 0 d t g (by omega) hd ht hD hB
    rw [List.drop_zero, Nat.add_zero] at lp
    have wr := wrap_i64 (x := (o : Int) + b.pay.s.length) (by omega) (by omega)
    rw [show (o : Int) + b.pay.s.length = ((o + b.pay.s.length : Nat) : Int) by omega] at wr
    unfold k_frag_fill BB.v
    by_cases c : b.pay.s.length = 0
    · rw [if_pos c] at sx
      have e : b.pay.s = [] := List.eq_nil_of_length_eq_zero c
      simp (disch := omega) [ho, wr, sx]
      rw [show ((o : Int) + b.pay.s.length) = ((o + b.pay.s.length : Nat) : Int) by omega, sx]
      simp (disch := omega)
      rw [L_frag_fill_0]; unfold bl_frag_fill_0
      simp (disch := omega)
      exact ⟨by unfold FillR; rw [e]; exact ⟨rfl, hD, hB⟩, HK2.refl _ _ _⟩
    · rw [if_neg c] at sx
      simp (disch := omega) [ho]
      rw [show ((o : Int) + b.pay.s.length) = ((o + b.pay.s.length : Nat) : Int) by omega, sx]
      simp (disch := omega)
      refine lp _ _ (fun d' t' g' z e1 e2 e3 e4 => ?_) (fun e1 g' e2 => ?_)
      · simp (disch := omega)
        exact ⟨by unfold FillR; rw [e1]; exact ⟨rfl, e3, e4⟩, e2⟩
      · simp (disch := omega)
        exact ⟨by unfold FillR; rw [e1], e2⟩)
  subst ev
  exact ⟨r, g', q1, q2, rr⟩
/-- What was laid of fragments. -/
structure Inv (F : List BB) (d : List UInt8) (t : List Bool) (N : Nat) : Prop where
  dl : d.length = N
  tl : t.length = N
  th : ∀ p, p < N → t[p]? = some (F.any fun b => (val b p).isSome)
  da : ∀ b ∈ F, ∀ p x, val b p = some x → d[p]? = some x
/-- Two that differ at a place. -/
def Cfl (l : List BB) : Prop := ∃ b ∈ l, ∃ c ∈ l, ∃ p x y, val b p = some x ∧ val c p = some y ∧ x ≠ y
theorem val_at {b : BB} {o : Nat} (ho : b.p.off = o) (j : Nat) : val b (o + j) = b.pay.s[j]? := by
  unfold val
  rw [if_pos (by omega)]
  congr 1; omega
theorem val_out {b : BB} {o p : Nat} (ho : b.p.off = o) (h : p < o ∨ o + b.pay.s.length ≤ p) : val b p = none := by
  unfold val
  split
  · rw [List.getElem?_eq_none]; omega
  · rfl
theorem inv_step {F : List BB} {d : List UInt8} {t : List Bool} {N o : Nat} {b : BB} (h : Inv F d t N) (ho : b.p.off = o) (hN : o + b.pay.s.length ≤ N) :
    match fillL o b.pay.s d t with
    | some (d', t') => Inv (F ++ [b]) d' t' N
    | none => ∃ c ∈ F, ∃ p x y, val b p = some x ∧ val c p = some y ∧ x ≠ y := by
  have hdl := h.dl
  have htl := h.tl
  cases e : fillL o b.pay.s d t with
  | some q =>
    obtain ⟨d', t'⟩ := q
    obtain ⟨e1, e2, e3, e4, e5⟩ := fillL_some b.pay.s o d t d' t' (by omega) (by omega) e
    refine ⟨by omega, by omega, fun p hp => ?_, fun c hc p x hx => ?_⟩
    · rw [List.any_append]
      by_cases k : p < o ∨ o + b.pay.s.length ≤ p
      · rw [(e3 p k).2, h.th p hp]
        simp [val_out ho k]
      · obtain ⟨j, rfl⟩ : ∃ j, p = o + j := ⟨p - o, by omega⟩
        rw [(e4 j (by omega)).2]
        simp [val_at ho, List.getElem?_eq_getElem (show j < b.pay.s.length by omega)]
    · by_cases k : p < o ∨ o + b.pay.s.length ≤ p
      · rw [(e3 p k).1]
        rcases List.mem_append.1 hc with hc | hc
        · exact h.da c hc p x hx
        · rw [List.mem_singleton.1 hc, val_out ho k] at hx; cases hx
      · obtain ⟨j, rfl⟩ : ∃ j, p = o + j := ⟨p - o, by omega⟩
        have hj : j < b.pay.s.length := by omega
        rw [(e4 j hj).1]
        rcases List.mem_append.1 hc with hc | hc
        · have ht : t[o + j]? = some true := by
            rw [h.th _ (by omega)]
            congr 1
            exact List.any_eq_true.2 ⟨c, hc, by rw [hx]; rfl⟩
          rw [← e5 j hj ht]
          exact h.da c hc _ x hx
        · rw [List.mem_singleton.1 hc, val_at ho] at hx
          exact hx
  | none =>
    obtain ⟨j, hj, h2, h3⟩ := fillL_none b.pay.s o d t (by omega) (by omega) e
    rw [h.th _ (by omega)] at h2
    obtain ⟨c, hc, hv⟩ := List.any_eq_true.1 (Option.some.inj h2)
    obtain ⟨y, hy⟩ := Option.isSome_iff_exists.1 hv
    have h4 := h.da c hc _ y hy
    refine ⟨c, hc, o + j, b.pay.s[j], y, by rw [val_at ho, List.getElem?_eq_getElem hj], hy, fun q => h3 ?_⟩
    rw [h4, List.getElem?_eq_getElem hj, q]
/-- What fits: where it lies. -/
structure FOk (N : Nat) (b : BB) : Prop where
  o0 : 0 ≤ b.p.off
  o : b.p.off.toNat + b.pay.s.length ≤ N
theorem join1_loop (l : List BB) (N D B : Nat) (hDB : D ≠ B) (hD0 : D ≠ 0) (hB0 : B ≠ 0) (hl : l.length ≤ 1000000) (hN2 : N ≤ 1000000) (hf : ∀ b ∈ l, FOk N b) : ∀ (m i : Nat) (d : List UInt8) (t : List Bool) (g : Heap), i + m = l.length → Inv (l.take i) d t N → g.row 0 = some zB.cells → g.row D = some (bys d) → g.row B = some (blsF t) → ∀ ks Q,
    (∀ d' t' g', Inv l d' t' N → g'.row 0 = some zB.cells → g'.row D = some (bys d') → ∀ z, Xk T ks (.x 2) ((0, .ps 25 (bbs l)) :: (2, .ptr 0 0) :: (7, .int .u64 N) :: (8, .hs 1 D 0 N) :: (9, .hs 1 B 0 N) :: z) g' Q) →
    (Cfl l → ∀ g', g'.row 0 = some zB.cells → Xk T ks .r [(2, .ptr 0 0), (3, .int .i64 6)] g' Q) →
    Xc T l_frag_Join_1 ks [(0, .ps 25 (bbs l)), (2, .ptr 0 0), (7, .int .u64 N), (8, .hs 1 D 0 N), (9, .hs 1 B 0 N), (58, .ps 25 (bbs l)), (59, .int .i64 l.length), (60, .int .i64 i)] g Q := by
  intro m
  induction m with
  | zero =>
    intro i d t g hi hI h0 hD hB ks Q h1 h2
    have c1 : ¬ (i : Int) < l.length := by omega
    rw [List.take_of_length_le (by omega)] at hI
    rw [L_frag_Join_1]; unfold bl_frag_Join_1
    simp (disch := omega) [c1]
    exact h1 d t g hI h0 hD _
  | succ m ih =>
    intro i d t g hi hI h0 hD hB ks Q h1 h2
    have hil : i < l.length := by omega
    have c1 : (i : Int) < l.length := by omega
    have g1 := bbs_get l i hil
    have fk := hf l[i] (List.getElem_mem _)
    have ts : l.take (i + 1) = l.take i ++ [l[i]] := by rw [List.take_succ, List.getElem?_eq_getElem hil]; rfl
    have memi : l[i] ∈ l := List.getElem_mem _
    have ih := fun d t g => ih (i + 1) d t g (by omega)
    rw [ts, show ((i + 1 : Nat) : Int) = (i : Int) + 1 from rfl] at ih
    obtain ⟨b, hb'⟩ : ∃ b, b = l[i] := ⟨_, rfl⟩
    rw [← hb'] at g1 fk ih memi
    obtain ⟨o, ho⟩ := Int.eq_ofNat_of_zero_le fk.o0
    have fo := fk.o
    rw [ho] at fo
    have st := inv_step hI ho (by simpa using fo)
    have D0 := rlt hD
    have B0 := rlt hB
    have z0 := rlt h0
    obtain ⟨r, g', q1, q2, q3⟩ := FgFill_run b o N D B ho hDB (by simpa using fo) hN2 d t (g ++ [some b.cells]) hI.dl hI.tl (by rw [row_app D0]; exact hD) (by rw [row_app B0]; exact hB)
    have r0 : g'.row 0 = some zB.cells := by rw [q2.2 0 (fun e => hD0 e.symm) (fun e => hB0 e.symm), row_app z0]; exact h0
    have rA : ∀ x w, Heap.row (g ++ x :: w) g.length = x := fun x w => rowA
    have bv : V.agg b.cells = b.v := rfl
    rw [L_frag_Join_1]; unfold bl_frag_Join_1
    rw [zB_cells]
    simp (disch := omega) [c1, hil, g1, rA, bv]
    rw [Xf_run q3]
    unfold FillR at q1
    cases e : fillL o b.pay.s d t with
    | none =>
      rw [e] at q1 st
      subst q1
      have zl := rlt r0
      have s0 : Heap.row (g'.set 0 (some zB.cells)) 0 = some zB.cells := row_set zl
      simp (disch := omega) [r0]
      obtain ⟨c, hc, p, x, y, v1, v2, v3⟩ := st
      refine h2 ⟨b, memi, c, List.mem_of_mem_take hc, p, x, y, v1, v2, v3⟩ _ ?_
      exact s0
    | some q =>
      obtain ⟨d', t'⟩ := q
      rw [e] at q1 st
      obtain ⟨rfl, k1, k2⟩ := q1
      simp (disch := omega)
      exact ih d' t' g' st r0 k1 k2 ks Q h1 h2
attribute [local simp] BB.tk BB.len BB.one BB.sp BB.c0 BB.c17 BB.c18 BB.c19 BB.c24 PP.len PP.tk PP.one PP.sp BB.vc PP.vc PP.cv BB.tP
theorem isNaN64_run (x : Int) (h : Heap) : Run T f_cmp_isNaN_uint64 [.int .u64 x] h (.bool false) h := by
  refine Run.start t_cmp_isNaN_uint64 ?_
  unfold k_cmp_isNaN_uint64
  simp (disch := omega)
section
variable {ks : List Kt} {ops : List AOpr} {K : Kp} {e : Env} {h : Heap} {Q : Ex → Env → Heap → Prop} {d : Nat} {lent : Bool}
theorem isNaN64_p (x : Int) : Xp T f_cmp_isNaN_uint64 (some ([.int .u64 x], lent)) h (some d) ops K ks e Q = Xo T ops K ks ((d, .bool false) :: e) h Q :=
  Xp_run (isNaN64_run x []) (by simp) rfl (by simp [scalar])
end
def cmpI (x y : Int) : Int := if x < y then -1 else if y < x then 1 else 0
theorem Compare_run (x y : Int) (h : Heap) : Run T f_cmp_Compare_uint64 [.int .u64 x, .int .u64 y] h (.int .i64 (cmpI x y)) h := by
  refine Run.start t_cmp_Compare_uint64 ?_
  unfold k_cmp_Compare_uint64 cmpI
  by_cases c1 : x < y
  · simp (disch := omega) [isNaN64_p, c1]
  · by_cases c2 : y < x
    · simp (disch := omega) [isNaN64_p, c1, c2]
    · simp (disch := omega) [isNaN64_p, c1, c2]
section
variable {ks : List Kt} {ops : List AOpr} {K : Kp} {e : Env} {h : Heap} {Q : Ex → Env → Heap → Prop} {d : Nat} {lent : Bool}
theorem Compare_p (x y : Int) : Xp T f_cmp_Compare_uint64 (some ([.int .u64 x, .int .u64 y], lent)) h (some d) ops K ks e Q = Xo T ops K ks ((d, .int .i64 (cmpI x y)) :: e) h Q :=
  Xp_run (Compare_run x y []) (by simp) rfl (by simp [scalar])
end
theorem Holes1_run (x y : Pr) (h : Heap) : Run T f_frag_Holes_1 [.agg x.cs, .agg y.cs] h (.int .i64 (cmpI x.lo y.lo)) h := by
  refine Run.start t_frag_Holes_1 ?_
  unfold k_frag_Holes_1 Pr.cs
  simp (disch := omega) [Compare_p]
theorem cmpI_lt (x y : Int) : decide (cmpI x y < 0) = decide (x < y) := by
  unfold cmpI
  split
  · simp [*]
  · split <;> simp [*]
def cmpP (x y : Pr) : Int := cmpI x.lo y.lo
theorem ltC_p (x y : Pr) : ltC cmpP x y = decide (x.lo < y.lo) := cmpI_lt _ _
theorem swoP : Sort.SWO (ltC cmpP) where
  irrefl := fun x => by simp [ltC_p]
  trans := fun x y z h1 h2 => by simp only [ltC_p, decide_eq_true_eq] at *; omega
  ntrans := fun x y z h1 h2 => by simp only [ltC_p, decide_eq_false_iff_not] at *; omega
theorem FgSort_nil (v : V) (hv : v = .hn 2 ∨ v = .ps 2 []) (h : Heap) : Run T f_slices_SortFunc_2_uint64_2_uint64 [v, .fn f_frag_Holes_1 []] h (.tup []) h := by
  have lv : lenV false v = some (.int .i64 0) := by rcases hv with rfl | rfl <;> rfl
  have r1 : Run T f_slices_insertionSortCmpFunc_2_uint64 [v, .int .i64 0, .int .i64 0, .fn f_frag_Holes_1 []] h (.tup []) h := by
    refine Run.start t_slices_insertionSortCmpFunc_2_uint64 ?_
    unfold k_slices_insertionSortCmpFunc_2_uint64
    simp (disch := omega)
    rw [L_slices_insertionSortCmpFunc_2_uint64_1]; unfold bl_slices_insertionSortCmpFunc_2_uint64_1
    simp (disch := omega)
  have r2 : ∀ lim, Run T f_slices_pdqsortCmpFunc_2_uint64 [v, .int .i64 0, .int .i64 0, .int .i64 lim, .fn f_frag_Holes_1 []] h (.tup []) h := fun lim => by
    refine Run.start t_slices_pdqsortCmpFunc_2_uint64 ?_
    unfold k_slices_pdqsortCmpFunc_2_uint64
    simp (disch := omega)
    rw [L_slices_pdqsortCmpFunc_2_uint64_0]; unfold bl_slices_pdqsortCmpFunc_2_uint64_0
    simp (disch := omega)
    rw [Xf_run r1]
    simp (disch := omega)
  refine Run.start t_slices_SortFunc_2_uint64_2_uint64 ?_
  unfold k_slices_SortFunc_2_uint64_2_uint64
  have := len_run [] 0 (by omega)
  simp at this
  simp (disch := omega) [lv]
  rw [Xp_run this (by simp) (by simp) (by simp)]
  simp (disch := omega)
  rw [Xf_run (r2 _)]
  simp (disch := omega)
def spanB (b : BB) : Pr := ⟨b.p.off, b.p.off + b.pay.s.length⟩
theorem span_run (b : BB) (N : Nat) (hN : N ≤ 1000000) (hf : FOk N b) : ∃ h', Run T f_frag_span [b.v, .int .u64 N] [] (.agg (spanB b).cs) h' := by
  have h0 := hf.o0
  have h1 := hf.o
  refine Run.startE t_frag_span ?_
  unfold k_frag_span BB.v
  have e1 : min b.p.off (N : Int) = b.p.off := by omega
  have e2 : min (b.pay.s.length : Int) (N - b.p.off) = b.pay.s.length := by omega
  have w1 : IntKind.u64.wrap ((N : Int) - b.p.off) = N - b.p.off := wrap_u64 (by omega) (by omega)
  have w2 : IntKind.u64.wrap (b.p.off + b.pay.s.length) = b.p.off + b.pay.s.length := wrap_u64 (by omega) (by omega)
  simp (disch := omega) [e1, e2, w1, w2]
  rfl
/-- Places in none. -/
def holesF : Int → List Pr → List Pr
  | _, [] => []
  | a, s :: r => (if a < s.lo then [⟨a, s.lo⟩] else []) ++ holesF (max a s.hi) r
theorem holesF_nil (N : Int) : ∀ (r : List Pr) (a : Int), r.Pairwise (fun x y => x.lo ≤ y.lo) → (∀ s ∈ r, s.lo < s.hi ∧ s.hi ≤ N) → (holesF a (r ++ [⟨N, N⟩]) = [] ↔ ∀ p, a ≤ p → p < N → ∃ s ∈ r, s.lo ≤ p ∧ p < s.hi)
  | [], a, _, _ => by
    simp only [List.nil_append, holesF, List.append_nil]
    constructor
    · intro h p h1 h2
      by_cases c : a < N
      · simp [c] at h
      · omega
    · intro h
      by_cases c : a < N
      · obtain ⟨s, hs, _⟩ := h a (Int.le_refl _) c
        simp at hs
      · simp [c]
  | s :: r, a, hp, hs => by
    obtain ⟨p1, p2⟩ := List.pairwise_cons.1 hp
    obtain ⟨q1, q2⟩ := hs s (by simp)
    have ih := holesF_nil N r (max a s.hi) p2 fun t ht => hs t (by simp [ht])
    simp only [List.cons_append, holesF]
    by_cases c : a < s.lo
    · simp only [if_pos c]
      constructor
      · intro h; simp at h
      · intro h
        obtain ⟨t, ht, k1, k2⟩ := h a (Int.le_refl _) (by omega)
        rcases List.mem_cons.1 ht with rfl | ht
        · omega
        · have := p1 t ht; omega
    · simp only [if_neg c, List.nil_append, ih]
      constructor
      · intro h p h1 h2
        by_cases d : p < s.hi
        · exact ⟨s, by simp, by omega, d⟩
        · obtain ⟨t, ht, k⟩ := h p (by omega) h2
          exact ⟨t, by simp [ht], k⟩
      · intro h p h1 h2
        obtain ⟨t, ht, k1, k2⟩ := h p (by omega) h2
        rcases List.mem_cons.1 ht with rfl | ht
        · omega
        · exact ⟨t, ht, k1, k2⟩
attribute [local simp] BB.tk BB.len BB.one BB.sp BB.c0 BB.c17 BB.c18 BB.c19 BB.c24 PP.len PP.tk PP.one PP.sp BB.vc PP.vc PP.cv BB.tP
def posB (b : BB) : Bool := decide (0 < b.pay.s.length)
def spansB (l : List BB) : List Pr := (l.filter posB).map spanB
def hvs (l : List Pr) : List V := l.map Pr.v
/-- Spans in the heap. -/
def SpV (S : List Pr) (v : V) (g : Heap) : Prop := (S = [] ∧ v = .hn 2) ∨ (S ≠ [] ∧ ∃ o, v = .hs 2 o 0 S.length ∧ g.row o = some (prs S))
theorem hol_loop0 (l : List BB) (N : Nat) (hN : N ≤ 1000000) (hl : l.length ≤ 1000) (hf : ∀ b ∈ l, FOk N b) : ∀ (m i : Nat) (v : V) (g : Heap), i + m = l.length → SpV (spansB (l.take i)) v g → ∀ ks Q,
    (∀ z v' g', SpV (spansB l) v' g' → Xk T ks (.x 0) ((0, .int .u64 N) :: (5, v') :: (6, .ps 2 []) :: z) g' Q) →
    Xc T l_frag_Holes_0 ks [(0, .int .u64 N), (5, v), (6, .ps 2 []), (13, .ps 25 (bbs l)), (14, .int .i64 l.length), (15, .int .i64 i)] g Q := by
  intro m
  induction m with
  | zero =>
    intro i v g hi hs ks Q hx
    have c1 : ¬ (i : Int) < l.length := by omega
    rw [List.take_of_length_le (by omega)] at hs
    rw [L_frag_Holes_0]; unfold bl_frag_Holes_0
    simp (disch := omega) [c1]
    exact hx _ v g hs
  | succ m ih =>
    intro i v g hi hs ks Q hx
    have hil : i < l.length := by omega
    have c1 : (i : Int) < l.length := by omega
    have g1 := bbs_get l i hil
    have fk := hf l[i] (List.getElem_mem _)
    have ts : spansB (l.take (i + 1)) = spansB (l.take i) ++ if 0 < l[i].pay.s.length then [spanB l[i]] else [] := by
      unfold spansB
      rw [List.take_succ_eq_append_getElem hil, List.filter_append, List.map_append]
      congr 1
      by_cases c : 0 < l[i].pay.s.length <;> simp [posB, c]
    have sl : (spansB (l.take i)).length ≤ 1000 := by
      unfold spansB
      rw [List.length_map]
      exact Nat.le_trans (List.length_filter_le _ _) (by rw [List.length_take]; omega)
    have ih := fun v g => ih (i + 1) v g (by omega)
    rw [ts, show ((i + 1 : Nat) : Int) = (i : Int) + 1 from rfl] at ih
    obtain ⟨b, hb'⟩ : ∃ b, b = l[i] := ⟨_, rfl⟩
    rw [← hb'] at g1 fk ih
    generalize spansB (l.take i) = S at *
    obtain ⟨_, rs⟩ := span_run b N hN fk
    have rA : ∀ x w, Heap.row (g ++ x :: w) g.length = x := fun x w => rowA
    have rB : ∀ x y w, Heap.row (g ++ x :: y :: w) (g.length + 1) = y := fun x y w => by
      rw [show g ++ x :: y :: w = (g ++ [x]) ++ y :: w by simp, show g.length + 1 = (g ++ [x]).length by simp]; exact rowA
    have bv : V.agg b.cells = b.v := rfl
    have sc : (spanB b).cs = [.int .u64 b.p.off, .int .u64 (b.p.off + b.pay.s.length)] := rfl
    have spl : spliceL [V.int .u64 0, V.int .u64 0] 0 [V.int .u64 b.p.off, V.int .u64 (b.p.off + b.pay.s.length)] = [V.int .u64 b.p.off, V.int .u64 (b.p.off + b.pay.s.length)] := rfl
    rw [sc] at rs
    rw [L_frag_Holes_0]; unfold bl_frag_Holes_0
    rw [zB_cells]
    by_cases c2 : 0 < b.pay.s.length
    · rw [if_pos c2] at ih
      have c3 : (0 : Int) < b.pay.s.length := by omega
      have c4 : b.p.off < b.p.off + b.pay.s.length := by omega
      rcases hs with ⟨rfl, rfl⟩ | ⟨hne, o, rfl, ho⟩
      · simp (disch := omega) [c1, hil, g1, rA, bv]
        rw [Xp_run rs (by simp [BB.hf]) (by simp) (by simp)]
        simp (disch := omega) [rA, rB, spl, c3, c4]
        refine ih _ _ (.inr ⟨by simp, g.length + 2, rfl, ?_⟩) ks Q hx
        rw [show g ++ [some b.cells, some [V.int .u64 b.p.off, V.int .u64 (b.p.off + b.pay.s.length)], some [V.int .u64 b.p.off, V.int .u64 (b.p.off + b.pay.s.length)]] = (g ++ [some b.cells, some [V.int .u64 b.p.off, V.int .u64 (b.p.off + b.pay.s.length)]]) ++ [some [V.int .u64 b.p.off, V.int .u64 (b.p.off + b.pay.s.length)]] by simp, show g.length + 2 = (g ++ [some b.cells, some [V.int .u64 b.p.off, V.int .u64 (b.p.off + b.pay.s.length)]]).length by simp]
        exact rowA
      · have ol := rlt ho
        have pl := prs_len S
        simp (disch := omega) [c1, hil, g1, rA, bv]
        rw [Xp_run rs (by simp [BB.hf]) (by simp) (by simp)]
        have hoA : ∀ w, Heap.row (g ++ w) o = some (prs S) := fun w => by rw [row_app ol]; exact ho
        simp (disch := omega) [rA, rB, spl, c3, c4, hoA, ho, pl]
        refine ih _ _ (.inr ⟨by simp, g.length + 2, by simp, ?_⟩) ks Q hx
        rw [prs_app]
        rw [show g.set o none ++ [some b.cells, some [V.int .u64 b.p.off, V.int .u64 (b.p.off + b.pay.s.length)], some (prs S ++ [V.int .u64 b.p.off, V.int .u64 (b.p.off + b.pay.s.length)])] = (g.set o none ++ [some b.cells, some [V.int .u64 b.p.off, V.int .u64 (b.p.off + b.pay.s.length)]]) ++ [some (prs S ++ [V.int .u64 b.p.off, V.int .u64 (b.p.off + b.pay.s.length)])] by simp, show g.length + 2 = (g.set o none ++ [some b.cells, some [V.int .u64 b.p.off, V.int .u64 (b.p.off + b.pay.s.length)]]).length by simp]
        exact rowA
    · rw [if_neg c2, List.append_nil] at ih
      have c3 : ¬ (0 : Int) < b.pay.s.length := by omega
      have c4 : ¬ b.p.off < b.p.off + b.pay.s.length := by omega
      simp (disch := omega) [c1, hil, g1, rA, bv]
      rw [Xp_run rs (by simp [BB.hf]) (by simp) (by simp)]
      simp (disch := omega) [rA, rB, spl, c3, c4]
      refine ih _ _ ?_ ks Q hx
      rcases hs with h | ⟨hne, o, h1, h2⟩
      · exact .inl h
      · exact .inr ⟨hne, o, h1, by rw [row_app (rlt h2)]; exact h2⟩
end Ev
