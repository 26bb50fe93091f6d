/- First blocks: what is wrong with them. First blocks: the reference's check. First blocks laid. First blocks as values. First blocks: values that can be laid; those that have a first block's shape. First blocks read: the parts. First blocks read. First blocks read: what the sum says. The law PrimaryPuts: the bytes of any first block, or what is wrong; read it is that block. The law PrimaryPuts: the bytes of any first block, or what is wrong; read it is that block. Each theorem states its own conditions. -/
import Derived.Test.YtienkohkbihdoaaDoorQR9
set_option linter.all false
namespace Ev
open Go
set_option maxRecDepth 10000
attribute [-simp] getElem?_pos getElem?_neg List.drop_one
structure E4 where
  sc : Int
  nm : List UInt8
  nd : Int
  sv : Int
/-- A first block. -/
structure PP where
  fl : Int
  crc : Int
  d : E4
  s : E4
  r : E4
  st : Int
  sq : Int
  life : Int
  off : Int
  tot : Int
def PP.v (p : PP) : V := .agg [.int .u64 p.fl, .int .i64 p.crc, .int .i64 p.d.sc, .str p.d.nm, .int .u64 p.d.nd, .int .u64 p.d.sv, .int .i64 p.s.sc, .str p.s.nm, .int .u64 p.s.nd, .int .u64 p.s.sv, .int .i64 p.r.sc, .str p.r.nm, .int .u64 p.r.nd, .int .u64 p.r.sv, .int .u64 p.st, .int .u64 p.sq, .int .u64 p.life, .int .u64 p.off, .int .u64 p.tot]
theorem PP.hf (p : PP) : V.hf p.v = true := by simp [PP.v]
theorem pp_fold (a b c e g i k m q s t u w : Int) (d h l : List UInt8) (x y z : Int) : V.agg [.int .u64 a, .int .i64 b, .int .i64 c, .str d, .int .u64 e, .int .u64 g, .int .i64 i, .str h, .int .u64 k, .int .u64 m, .int .i64 q, .str l, .int .u64 s, .int .u64 t, .int .u64 u, .int .u64 w, .int .u64 x, .int .u64 y, .int .u64 z] = PP.v ⟨a, b, ⟨c, d, e, g⟩, ⟨i, h, k, m⟩, ⟨q, l, s, t⟩, u, w, x, y, z⟩ := rfl
/-! ### bits -/
theorem wrap_nat (n : Nat) (h : n < 18446744073709551616) : IntKind.u64.wrap (n : Int) = n := by
  simp [IntKind.wrap, IntKind.bits, IntKind.signed]; omega
theorem ofInt_nat (n : Nat) (h : n < 18446744073709551616) : (BitVec.ofInt 64 (n : Int)).toNat = n := by
  rw [BitVec.toNat_ofInt]
  simp
  omega
theorem and_nat (n m : Nat) (hn : n < 18446744073709551616) (hm : m < 18446744073709551616) : IntKind.u64.wrap ↑(BitVec.ofInt IntKind.u64.bits (n : Int) &&& BitVec.ofInt IntKind.u64.bits (m : Int)).toNat = ((n &&& m : Nat) : Int) := by
  show IntKind.u64.wrap ↑(BitVec.ofInt 64 (n : Int) &&& BitVec.ofInt 64 (m : Int)).toNat = _
  rw [BitVec.toNat_and, ofInt_nat n hn, ofInt_nat m hm]
  exact wrap_nat _ (Nat.lt_of_le_of_lt Nat.and_le_left hn)
theorem and1 (n : Nat) : n &&& 1 = n % 2 := Nat.and_one_is_mod n
theorem and4 (n : Nat) : n &&& 4 = n / 4 % 2 * 4 := by
  apply Nat.eq_of_testBit_eq
  intro i
  have e4 : (4 : Nat) = 1 * 2 ^ 2 := rfl
  rw [Nat.testBit_and]
  rw [show n / 4 % 2 * 4 = (n / 2 ^ 2 % 2 ^ 1) * 2 ^ 2 from rfl, Nat.testBit_mul_two_pow, Nat.testBit_mod_two_pow, Nat.testBit_div_two_pow]
  rw [show (4 : Nat).testBit i = (decide (2 ≤ i) && (1 : Nat).testBit (i - 2)) from by rw [show (4 : Nat) = 1 * 2 ^ 2 from rfl, Nat.testBit_mul_two_pow]]
  by_cases h : 2 ≤ i
  · have e : i - 2 + 2 = i := by omega
    rw [show (1 : Nat) = 2 ^ 1 - 1 from rfl, Nat.testBit_two_pow_sub_one]
    simp [h]
    exact Bool.and_comm _ _
  · simp [h]
theorem and31 (n : Nat) : n &&& 507904 = n / 16384 % 32 * 16384 := by
  apply Nat.eq_of_testBit_eq
  intro i
  rw [Nat.testBit_and]
  rw [show n / 16384 % 32 * 16384 = (n / 2 ^ 14 % 2 ^ 5) * 2 ^ 14 from rfl, Nat.testBit_mul_two_pow, Nat.testBit_mod_two_pow, Nat.testBit_div_two_pow]
  rw [show (507904 : Nat).testBit i = (decide (14 ≤ i) && (31 : Nat).testBit (i - 14)) from by rw [show (507904 : Nat) = 31 * 2 ^ 14 from rfl, Nat.testBit_mul_two_pow]]
  by_cases h : 14 ≤ i
  · have e : i - 14 + 14 = i := by omega
    rw [show (31 : Nat) = 2 ^ 5 - 1 from rfl, Nat.testBit_two_pow_sub_one]
    simp [h]
    exact Bool.and_comm _ _
  · simp [h]
def fragB (fl : Int) : Bool := decide (fl % 2 = 1)
def wholeB (fl : Int) : Bool := decide (fl / 4 % 2 = 1)
def repB (fl : Int) : Bool := decide (fl / 16384 % 32 ≠ 0)
theorem op_and1 (q : EqK) (fl : Int) (h0 : 0 ≤ fl) (h1 : fl ≤ 18446744073709551615) : binV .and q (.int .u64 fl) (.int .u64 1) = some (.int .u64 (if fragB fl then 1 else 0)) := by
  obtain ⟨n, rfl⟩ := Int.eq_ofNat_of_zero_le h0
  have := and_nat n 1 (by omega) (by omega)
  rw [bin_and]
  rw [show ((1 : Int)) = ((1 : Nat) : Int) from rfl, this, and1]
  congr 2
  unfold fragB
  by_cases c : n % 2 = 1
  · rw [if_pos (by simp; omega)]; omega
  · rw [if_neg (by simp; omega)]; omega
theorem op_and4 (q : EqK) (fl : Int) (h0 : 0 ≤ fl) (h1 : fl ≤ 18446744073709551615) : binV .and q (.int .u64 fl) (.int .u64 4) = some (.int .u64 (if wholeB fl then 4 else 0)) := by
  obtain ⟨n, rfl⟩ := Int.eq_ofNat_of_zero_le h0
  have := and_nat n 4 (by omega) (by omega)
  rw [bin_and]
  rw [show ((4 : Int)) = ((4 : Nat) : Int) from rfl, this, and4]
  congr 2
  unfold wholeB
  by_cases c : n / 4 % 2 = 1
  · rw [if_pos (by simp; omega)]; omega
  · rw [if_neg (by simp; omega)]; omega
theorem op_and31 (q : EqK) (fl : Int) (h0 : 0 ≤ fl) (h1 : fl ≤ 18446744073709551615) : ∃ z : Int, binV .and q (.int .u64 fl) (.int .u64 507904) = some (.int .u64 z) ∧ (z = 0 ↔ repB fl = false) := by
  obtain ⟨n, rfl⟩ := Int.eq_ofNat_of_zero_le h0
  have := and_nat n 507904 (by omega) (by omega)
  refine ⟨_, by rw [bin_and, show ((507904 : Int)) = ((507904 : Nat) : Int) from rfl, this, and31], ?_⟩
  unfold repB
  simp
  omega
theorem Fragment_run (p : PP) (h0 : 0 ≤ p.fl) (h1 : p.fl ≤ 18446744073709551615) (h : Heap) : ∃ h', Run T f_primary_Fragment [p.v] h (.bool (fragB p.fl)) h' := by
  refine Run.startE t_primary_Fragment ?_
  unfold k_primary_Fragment PP.v
  have o1 := op_and1 .int p.fl h0 h1
  cases hF : fragB p.fl <;> rw [hF] at o1 <;> simp (disch := omega) [o1]
theorem Bit_run (fl w : Int) (h0 : 0 ≤ fl) (hw : 0 < w) (hw2 : w ≤ 100000) (h1 : fl ≤ 18446744073709551615) (h : Heap) : ∃ h', Run T f_ref10_Bit [.int .u64 fl, .int .u64 w] h (.bool (decide (fl / w % 2 = 1))) h' := by
  refine Run.startE t_ref10_Bit ?_
  unfold k_ref10_Bit
  have e1 : fl.tdiv w = fl / w := Int.tdiv_eq_ediv_of_nonneg h0
  have e3 : 0 ≤ fl / w := Int.ediv_nonneg h0 (by omega)
  have e4 : fl / w ≤ fl := Int.ediv_le_self _ h0
  have e5 : (fl / w).tmod 2 = fl / w % 2 := Int.tmod_eq_emod_of_nonneg e3
  have e6 : IntKind.u64.wrap (fl / w) = fl / w := by
    obtain ⟨n, hn⟩ := Int.eq_ofNat_of_zero_le e3
    rw [hn]; exact wrap_nat n (by omega)
  have hz : ¬ w = 0 := by omega
  simp (disch := omega) [e1, e5, e6, hz]
/-- What is wrong with a first block. -/
def chkP (p : PP) : Int :=
  if p.crc < 0 ∨ 2 < p.crc ∨ ¬ (rightE p.d.sc p.d.nm p.d.nd p.d.sv = true ∧ rightE p.s.sc p.s.nm p.s.nd p.s.sv = true ∧ rightE p.r.sc p.r.nm p.r.nd p.r.sv = true) ∨ 2097152 ≤ p.fl then 2
  else if (fragB p.fl = true ∧ (wholeB p.fl = true ∨ p.tot ≤ p.off)) ∨ (fragB p.fl = false ∧ (p.off ≠ 0 ∨ p.tot ≠ 0)) then 6
  else if p.s.sc = 1 ∧ p.s.nm = [] ∧ (wholeB p.fl = false ∨ fragB p.fl = true ∨ repB p.fl = true) then 6 else 0
structure PPok (p : PP) : Prop where
  f0 : 0 ≤ p.fl
  f1 : p.fl ≤ 18446744073709551615
  o0 : 0 ≤ p.off
  t0 : 0 ≤ p.tot
  n1 : p.d.nm.length ≤ 140737488351232
  n2 : p.s.nm.length ≤ 140737488351232
  n3 : p.r.nm.length ≤ 140737488351232
theorem pp_eta (p : PP) : PP.v ⟨p.fl, p.crc, ⟨p.d.sc, p.d.nm, p.d.nd, p.d.sv⟩, ⟨p.s.sc, p.s.nm, p.s.nd, p.s.sv⟩, ⟨p.r.sc, p.r.nm, p.r.nd, p.r.sv⟩, p.st, p.sq, p.life, p.off, p.tot⟩ = p.v := rfl
def badA (p : PP) : Prop := p.crc < 0 ∨ 2 < p.crc ∨ ¬ (rightE p.d.sc p.d.nm p.d.nd p.d.sv = true ∧ rightE p.s.sc p.s.nm p.s.nd p.s.sv = true ∧ rightE p.r.sc p.r.nm p.r.nd p.r.sv = true) ∨ 2097152 ≤ p.fl
def badB (p : PP) : Prop := (fragB p.fl = true ∧ (wholeB p.fl = true ∨ p.tot ≤ p.off)) ∨ (fragB p.fl = false ∧ (p.off ≠ 0 ∨ p.tot ≠ 0))
def badC (p : PP) : Prop := p.s.sc = 1 ∧ p.s.nm = [] ∧ (wholeB p.fl = false ∨ fragB p.fl = true ∨ repB p.fl = true)
theorem chk_a {p : PP} (h : badA p) : chkP p = 2 := by unfold badA at h; unfold chkP; rw [if_pos h]
theorem chk_b {p : PP} (h : ¬ badA p) (h2 : badB p) : chkP p = 6 := by unfold badA at h; unfold badB at h2; unfold chkP; rw [if_neg h, if_pos h2]
theorem chk_c {p : PP} (h : ¬ badA p) (h2 : ¬ badB p) (h3 : badC p) : chkP p = 6 := by unfold badA at h; unfold badB at h2; unfold badC at h3; unfold chkP; rw [if_neg h, if_neg h2, if_pos h3]
theorem chk_0 {p : PP} (h : ¬ badA p) (h2 : ¬ badB p) (h3 : ¬ badC p) : chkP p = 0 := by unfold badA at h; unfold badB at h2; unfold badC at h3; unfold chkP; rw [if_neg h, if_neg h2, if_neg h3]
theorem CheckP_run (p : PP) (ok : PPok p) (h : Heap) : ∃ h', Run T f_primary_Check [p.v] h (.int .i64 (chkP p)) h' := by
  obtain ⟨_, rF⟩ := Fragment_run p ok.f0 ok.f1 []
  obtain ⟨_, r1⟩ := eidRight_run p.d.sc p.d.nm p.d.nd p.d.sv ok.n1 []
  obtain ⟨_, r2⟩ := eidRight_run p.s.sc p.s.nm p.s.nd p.s.sv ok.n2 []
  obtain ⟨_, r3⟩ := eidRight_run p.r.sc p.r.nm p.r.nd p.r.sv ok.n3 []
  obtain ⟨_, rN⟩ := None_run []
  have o4 := op_and4 .int p.fl ok.f0 ok.f1
  obtain ⟨z, o31, oz⟩ := op_and31 .int p.fl ok.f0 ok.f1
  have o0 := ok.o0
  have t0 := ok.t0
  have q2 := @rightE_cases p.s.sc p.s.nm p.s.nd p.s.sv
  refine Run.startE t_primary_Check ?_
  unfold k_primary_Check PP.v
  simp (disch := omega)
  simp only [pp_fold, pp_eta]
  rw [Xp_run rF (by simp [PP.hf]) rfl (by simp)]
  simp (disch := omega)
  simp only [eid_fold]
  rw [Xp_run r1 (by simp [eid_hf]) rfl (by simp)]
  cases h1 : rightE p.d.sc p.d.nm p.d.nd p.d.sv with
  | false =>
    have e2 := chk_a (p := p) (.inr (.inr (.inl (fun k => by rw [h1] at k; cases k.1))))
    by_cases c1 : p.crc < 0
    · simp (disch := first | omega | assumption) [c1, h1, e2]
    · by_cases c2 : 2 < p.crc
      · simp (disch := first | omega | assumption) [c1, c2, h1, e2]
      · simp (disch := first | omega | assumption) [c1, c2, h1, e2]
  | true =>
    simp (disch := omega)
    simp only [eid_fold]
    rw [Xp_run r2 (by simp [eid_hf]) rfl (by simp)]
    cases h2 : rightE p.s.sc p.s.nm p.s.nd p.s.sv with
    | false =>
      have e2 := chk_a (p := p) (.inr (.inr (.inl (fun k => by rw [h2] at k; cases k.2.1))))
      by_cases c1 : p.crc < 0
      · simp (disch := first | omega | assumption) [c1, h1, e2]
      · by_cases c2 : 2 < p.crc
        · simp (disch := first | omega | assumption) [c1, c2, h1, e2]
        · simp (disch := first | omega | assumption) [c1, c2, h1, e2]
    | true =>
      simp (disch := omega)
      simp only [eid_fold]
      rw [Xp_run r3 (by simp [eid_hf]) rfl (by simp)]
      cases h3 : rightE p.r.sc p.r.nm p.r.nd p.r.sv with
      | false =>
        have e2 := chk_a (p := p) (.inr (.inr (.inl (fun k => by rw [h3] at k; cases k.2.2))))
        by_cases c1 : p.crc < 0
        · simp (disch := first | omega | assumption) [c1, h1, e2]
        · by_cases c2 : 2 < p.crc
          · simp (disch := first | omega | assumption) [c1, c2, h1, e2]
          · simp (disch := first | omega | assumption) [c1, c2, h1, e2]
      | true =>
        by_cases c1 : p.crc < 0
        · have e2 := chk_a (p := p) (.inl c1)
          simp (disch := first | omega | assumption) [c1, e2]
        by_cases c2 : 2 < p.crc
        · have e2 := chk_a (p := p) (.inr (.inl c2))
          simp (disch := first | omega | assumption) [c1, c2, e2]
        by_cases c3 : 2097152 ≤ p.fl
        · have e2 := chk_a (p := p) (.inr (.inr (.inr c3)))
          simp (disch := first | omega | assumption) [c1, c2, c3, e2]
        have nA : ¬ badA p := fun k => by rcases k with k | k | k | k; exact c1 k; exact c2 k; exact k ⟨h1, h2, h3⟩; exact c3 k
        simp (disch := first | omega | assumption) [c1, c2, c3]
        have q2 := q2 h2
        cases hF : fragB p.fl with
        | true =>
          cases hW : wholeB p.fl with
          | true =>
            have e2 := chk_b nA (.inl ⟨hF, .inl hW⟩)
            rw [hW] at o4
            simp (disch := first | omega | assumption) [o4, e2]
          | false =>
            rw [hW] at o4
            by_cases c4 : p.tot ≤ p.off
            · have e2 := chk_b nA (.inl ⟨hF, .inr c4⟩)
              simp (disch := first | omega | assumption) [o4, c4, e2]
            · have nB : ¬ badB p := fun k => by rcases k with k | k; rcases k.2 with k | k; rw [hW] at k; cases k; exact c4 k; rw [hF] at k; cases k.1
              simp (disch := first | omega | assumption) [o4, c4]
              rw [Xp_run rN (by simp) (by simp [eidV]) (by simp)]
              by_cases c5 : p.s.sc = 1 ∧ p.s.nm = []
              · have e2 := chk_c nA nB ⟨c5.1, c5.2, .inl hW⟩
                rcases q2 with q | q
                · omega
                · simp (disch := first | omega | assumption) [eidV, c5.1, c5.2, q.2.1, q.2.2.1, o4, e2]
              · have e2 := chk_0 nA nB (fun k => c5 ⟨k.1, k.2.1⟩)
                by_cases c6 : p.s.sc = 1
                · have c7 : ¬ p.s.nm = [] := fun k => c5 ⟨c6, k⟩
                  simp (disch := first | omega | assumption) [eidV, c6, c7, e2]
                · simp (disch := first | omega | assumption) [eidV, c6, e2]
        | false =>
          by_cases c4 : p.off = 0
          · by_cases c5 : p.tot = 0
            · have nB : ¬ badB p := fun k => by rcases k with k | k; rw [hF] at k; cases k.1; rcases k.2 with k | k; exact k c4; exact k c5
              simp (disch := first | omega | assumption) [c4, c5]
              rw [Xp_run rN (by simp) (by simp [eidV]) (by simp)]
              by_cases c6 : p.s.sc = 1 ∧ p.s.nm = []
              · rcases q2 with q | q
                · omega
                · cases hW : wholeB p.fl with
                  | false =>
                    have e2 := chk_c nA nB ⟨c6.1, c6.2, .inl hW⟩
                    rw [hW] at o4
                    simp (disch := first | omega | assumption) [eidV, c6.1, c6.2, q.2.1, q.2.2.1, o4, e2]
                  | true =>
                    rw [hW] at o4
                    cases hR : repB p.fl with
                    | true =>
                      have zz : ¬ z = 0 := fun k => by have := oz.1 k; rw [hR] at this; cases this
                      have e2 := chk_c nA nB ⟨c6.1, c6.2, .inr (.inr hR)⟩
                      simp (disch := first | omega | assumption) [eidV, c6.1, c6.2, q.2.1, q.2.2.1, o4, o31, zz, e2]
                    | false =>
                      have zz : z = 0 := oz.2 hR
                      have e2 := chk_0 nA nB (fun k => by rcases k.2.2 with k | k | k; rw [hW] at k; cases k; rw [hF] at k; cases k; rw [hR] at k; cases k)
                      simp (disch := first | omega | assumption) [eidV, c6.1, c6.2, q.2.1, q.2.2.1, o4, o31, zz, e2]
              · have e2 := chk_0 nA nB (fun k => c6 ⟨k.1, k.2.1⟩)
                by_cases c7 : p.s.sc = 1
                · have c8 : ¬ p.s.nm = [] := fun k => c6 ⟨c7, k⟩
                  simp (disch := first | omega | assumption) [eidV, c7, c8, e2]
                · simp (disch := first | omega | assumption) [eidV, c7, e2]
            · have e2 := chk_b nA (.inr ⟨hF, .inr c5⟩)
              simp (disch := first | omega | assumption) [c4, c5, e2]
          · have e2 := chk_b nA (.inr ⟨hF, .inl c4⟩)
            simp (disch := first | omega | assumption) [c4, e2]
theorem CheckR_run (p : PP) (ok : PPok p) (h : Heap) : ∃ h', Run T f_ref10_Check [p.v] h (.int .i64 (chkP p)) h' := by
  obtain ⟨_, r1⟩ := R7Right_run p.d.sc p.d.nm p.d.nd p.d.sv ok.n1 []
  obtain ⟨_, r2⟩ := R7Right_run p.s.sc p.s.nm p.s.nd p.s.sv ok.n2 []
  obtain ⟨_, r3⟩ := R7Right_run p.r.sc p.r.nm p.r.nd p.r.sv ok.n3 []
  obtain ⟨_, b1⟩ := Bit_run p.fl 1 ok.f0 (by omega) (by omega) ok.f1 []
  obtain ⟨_, b4⟩ := Bit_run p.fl 4 ok.f0 (by omega) (by omega) ok.f1 []
  rw [Int.ediv_one] at b1
  have eF : decide (p.fl % 2 = 1) = fragB p.fl := rfl
  have eW : decide (p.fl / 4 % 2 = 1) = wholeB p.fl := rfl
  rw [eF] at b1
  rw [eW] at b4
  have f0 := ok.f0
  have f1 := ok.f1
  have o0 := ok.o0
  have t0 := ok.t0
  have e1 : p.fl.tdiv 16384 = p.fl / 16384 := Int.tdiv_eq_ediv_of_nonneg ok.f0
  have e5 : (p.fl / 16384).tmod 32 = p.fl / 16384 % 32 := Int.tmod_eq_emod_of_nonneg (by omega)
  have e6 : IntKind.u64.wrap (p.fl / 16384) = p.fl / 16384 := by
    obtain ⟨n, hn⟩ := Int.eq_ofNat_of_zero_le (show 0 ≤ p.fl / 16384 by omega)
    rw [hn]; exact wrap_nat n (by omega)
  refine Run.startE t_ref10_Check ?_
  unfold k_ref10_Check PP.v
  by_cases c1 : p.crc < 0
  · have e2 := chk_a (p := p) (.inl c1)
    simp (disch := first | omega | assumption) [c1, e2]
  by_cases c2 : 2 < p.crc
  · have e2 := chk_a (p := p) (.inr (.inl c2))
    simp (disch := first | omega | assumption) [c1, c2, e2]
  simp (disch := first | omega | assumption) [c1, c2]
  simp only [eid_fold]
  rw [Xp_run r1 (by simp [eid_hf]) rfl (by simp)]
  cases h1 : rightE p.d.sc p.d.nm p.d.nd p.d.sv with
  | false =>
    have e2 := chk_a (p := p) (.inr (.inr (.inl (fun k => by rw [h1] at k; cases k.1))))
    simp (disch := first | omega | assumption) [e2]
  | true =>
    simp (disch := first | omega | assumption)
    simp only [eid_fold]
    rw [Xp_run r2 (by simp [eid_hf]) rfl (by simp)]
    cases h2 : rightE p.s.sc p.s.nm p.s.nd p.s.sv with
    | false =>
      have e2 := chk_a (p := p) (.inr (.inr (.inl (fun k => by rw [h2] at k; cases k.2.1))))
      simp (disch := first | omega | assumption) [e2]
    | true =>
      simp (disch := first | omega | assumption)
      simp only [eid_fold]
      rw [Xp_run r3 (by simp [eid_hf]) rfl (by simp)]
      cases h3 : rightE p.r.sc p.r.nm p.r.nd p.r.sv with
      | false =>
        have e2 := chk_a (p := p) (.inr (.inr (.inl (fun k => by rw [h3] at k; cases k.2.2))))
        simp (disch := first | omega | assumption) [e2]
      | true =>
        by_cases c3 : 2097152 ≤ p.fl
        · have e2 := chk_a (p := p) (.inr (.inr (.inr c3)))
          simp (disch := first | omega | assumption) [c3, e2]
        have nA : ¬ badA p := fun k => by rcases k with k | k | k | k; exact c1 k; exact c2 k; exact k ⟨h1, h2, h3⟩; exact c3 k
        simp (disch := first | omega | assumption) [c3]
        rw [Xp_run b1 (by simp) rfl (by simp)]
        simp (disch := first | omega | assumption)
        rw [Xp_run b4 (by simp) rfl (by simp)]
        simp (disch := first | omega | assumption)
        have last : ¬ badB p → (wholeB p.fl = false ∨ fragB p.fl = true ∨ repB p.fl = true) → p.s.sc = 1 → p.s.nm = [] → chkP p = 6 := fun nB k a b => chk_c nA nB ⟨a, b, k⟩
        have last0 : ¬ badB p → ¬ (wholeB p.fl = false ∨ fragB p.fl = true ∨ repB p.fl = true) → chkP p = 0 := fun nB k => chk_0 nA nB (fun q => k q.2.2)
        have last1 : ¬ badB p → ¬ (p.s.sc = 1 ∧ p.s.nm = []) → chkP p = 0 := fun nB k => chk_0 nA nB (fun q => k ⟨q.1, q.2.1⟩)
        cases hF : fragB p.fl with
        | true =>
          cases hW : wholeB p.fl with
          | true =>
            have e2 := chk_b nA (.inl ⟨hF, .inl hW⟩)
            simp (disch := first | omega | assumption) [e2]
          | false =>
            by_cases c4 : p.tot ≤ p.off
            · have e2 := chk_b nA (.inl ⟨hF, .inr c4⟩)
              simp (disch := first | omega | assumption) [c4, e2]
            · have nB : ¬ badB p := fun k => by rcases k with k | k; rcases k.2 with k | k; rw [hW] at k; cases k; exact c4 k; rw [hF] at k; cases k.1
              by_cases c5 : p.s.sc = 1
              · by_cases c6 : p.s.nm = []
                · have e2 := last nB (.inl hW) c5 c6
                  simp (disch := first | omega | assumption) [c4, c5, c6, e2]
                · have e2 := last1 nB (fun k => c6 k.2)
                  simp (disch := first | omega | assumption) [c4, c5, c6, e2]
              · have e2 := last1 nB (fun k => c5 k.1)
                simp (disch := first | omega | assumption) [c4, c5, e2]
        | false =>
          by_cases c4 : p.off = 0
          · have c4' : ¬ 0 < p.off := by omega
            by_cases c5 : p.tot = 0
            · have c5' : ¬ 0 < p.tot := by omega
              have nB : ¬ badB p := fun k => by rcases k with k | k; rw [hF] at k; cases k.1; rcases k.2 with k | k; exact k c4; exact k c5
              by_cases c6 : p.s.sc = 1
              · by_cases c7 : p.s.nm = []
                · cases hW : wholeB p.fl with
                  | false =>
                    have e2 := last nB (.inl hW) c6 c7
                    simp (disch := first | omega | assumption) [c4, c5, c6, c7, e2]
                  | true =>
                    by_cases hR : p.fl / 16384 % 32 = 0
                    · have hR2 : repB p.fl = false := by simp [repB, hR]
                      have e2 := last0 nB (fun k => by rcases k with k | k | k; rw [hW] at k; cases k; rw [hF] at k; cases k; rw [hR2] at k; cases k)
                      simp (disch := first | omega | assumption) [c4, c5, c6, c7, e1, e5, e6, hR, e2]
                    · have hR2 : repB p.fl = true := by simp [repB, hR]
                      have e2 := last nB (.inr (.inr hR2)) c6 c7
                      simp (disch := first | omega | assumption) [c4, c5, c6, c7, e1, e5, e6, hR, e2]
                · have e2 := last1 nB (fun k => c7 k.2)
                  simp (disch := first | omega | assumption) [c4, c5, c6, c7, e2]
              · have e2 := last1 nB (fun k => c6 k.1)
                simp (disch := first | omega | assumption) [c4, c5, c6, e2]
            · have c5' : 0 < p.tot := by omega
              have e2 := chk_b nA (.inr ⟨hF, .inr c5⟩)
              simp (disch := first | omega | assumption) [c4, c5, c5', e2]
          · have c4' : 0 < p.off := by omega
            have e2 := chk_b nA (.inr ⟨hF, .inl c4⟩)
            simp (disch := first | omega | assumption) [c4, c4', e2]
def stT (a b : Int) : T6 := node [num6 a, num6 b]
def primL8 (p : PP) : List T6 := [num6 7, num6 p.fl, num6 p.crc, eidT p.d.sc p.d.nm p.d.nd p.d.sv, eidT p.s.sc p.s.nm p.s.nd p.s.sv, eidT p.r.sc p.r.nm p.r.nd p.r.sv, stT p.st p.sq, num6 p.life]
/-- A first block's values. -/
def primL (p : PP) : List T6 := primL8 p ++ (if fragB p.fl then [num6 p.off, num6 p.tot] else [])
/-- A list with its sum. -/
def refL (l : List T6) (k : Nat) : T6 := if k = 0 then node l else node (l ++ [byt6 (sumB k (enc (node (l ++ [byt6 (List.replicate (widthN k) 0)]))))])
theorem encRefL (l : List T6) (k : Nat) (hk : k ≠ 0) : sealB l k = enc (refL l k) := by unfold refL; rw [if_neg hk]; rfl
theorem SealL_run (l : List T6) (k : Nat) (h : Heap) (hl : GoodL l) (hk : k ≤ 2) : ∃ h', Run T f_block_Seal [.ps 1 (anys l), .int .i64 k] h (.tup [.ps 1 (bys (enc (refL l k))), .int .i64 0]) h' := by
  by_cases c : k = 0
  · subst c; exact Seal0_run l h hl
  · rw [← encRefL l k c]; exact Seal_run l k h hl (by omega)
theorem R9SealL_run (l : List T6) (k : Nat) (h : Heap) (hl : GoodL l) (hk : k ≤ 2) : ∃ h', Run T f_ref09_Seal [.ps 4 (T6.vs l), .int .i64 k] h (refL l k).v h' := by
  unfold refL
  by_cases c : k = 0
  · subst c; rw [if_pos rfl]; exact R9Seal0_run l h hl
  · rw [if_neg c]; exact R9Seal_run l k h hl (by omega)
theorem refL_good {l : List T6} {k : Nat} (hl : GoodL l) (hk : k ≤ 2) : Good (refL l k) := by
  unfold refL
  by_cases c : k = 0
  · rw [if_pos c]; exact hl.node
  · rw [if_neg c]
    have := widthN_le k
    exact hl.snoc _ (by rw [sumB_len]; omega)
theorem stampValue_run (a b : Int) (h : Heap) : ∃ h', Run T f_stamp_Value [.agg [.int .u64 a, .int .u64 b]] h (anyV (stT a b)) h' := by
  refine Run.startE t_stamp_Value ?_
  unfold k_stamp_Value
  simp (disch := omega) [stT, anyV, anys]
theorem row_app2 {H t : Heap} {b : Nat} (h : b < H.length) : Heap.row (H ++ t) b = Heap.row H b := by
  simp [Heap.row, List.getElem?_append_left h]
def E4.cells (e : E4) : List V := [.int .i64 e.sc, .str e.nm, .int .u64 e.nd, .int .u64 e.sv]
theorem Put1_run (e : E4) (hs : e.nm.length ≤ 140737488351232) (hr : rightE e.sc e.nm e.nd e.sv = true) (H : Heap) (b c n : Nat) (L : List V) (hb : H.row b = some [.hs 1 c 0 n]) (hc : H.row c = some L) (hl : L.length = n) (hn : n ≤ 1000) (hbl : b < H.length) (hcl : c < H.length) (hne : b ≠ c) :
    Run T f_primary_Put_1 [eidV e.sc e.nm e.nd e.sv, .ptr b 0] H (.tup []) (((H ++ [some e.cells]).set c none ++ [some (L ++ [anyV (eidT e.sc e.nm e.nd e.sv)])]).set b (some [.hs 1 (H.length + 1) 0 (n + 1)])) := by
  obtain ⟨_, r1⟩ := eidValue_run e.sc e.nm e.nd e.sv hs hr []
  have ah := anyV_hf (eidT e.sc e.nm e.nd e.sv)
  have ac := anyV_cells (eidT e.sc e.nm e.nd e.sv)
  have ao := anyV_one (eidT e.sc e.nm e.nd e.sv)
  generalize anyV (eidT e.sc e.nm e.nd e.sv) = X at *
  refine Run.start t_primary_Put_1 ?_
  unfold k_primary_Put_1 eidV E4.cells
  have q1 : ∀ t : Heap, Heap.row (H ++ t) b = some [.hs 1 c 0 n] := fun t => by rw [row_app2 hbl]; exact hb
  have q2 : ∀ t : Heap, Heap.row (H ++ t) c = some L := fun t => by rw [row_app2 hcl]; exact hc
  simp (disch := omega)
  simp only [eid_fold]
  rw [Xp_run r1 (by simp [eid_hf]) (by simp [ah]) (by simp)]
  simp (disch := first | omega | assumption) [q1, q2, ac, ao]
  have q3 : ∀ t : Heap, Heap.row (List.set H c none ++ t) b = some [.hs 1 c 0 n] := fun t => by
    rw [row_app2 (by simpa using hbl)]
    unfold Heap.row
    rw [List.getElem?_set_ne (fun k => hne k.symm)]
    exact hb
  simp (disch := first | omega | assumption) [q3]
theorem PutE_run (p : PP) (ok : PPok p) (hc : chkP p ≠ 0) (h : Heap) : ∃ h', Run T f_primary_Put [p.v] h (.tup [.ps 1 [], .int .i64 (chkP p)]) h' := by
  obtain ⟨_, r1⟩ := CheckP_run p ok []
  refine Run.startE t_primary_Put ?_
  unfold k_primary_Put PP.v
  simp (disch := omega)
  simp only [pp_fold, pp_eta]
  rw [Xp_run r1 (by simp [PP.hf]) rfl (by simp)]
  generalize chkP p = z at *
  simp (disch := omega) [hc]
theorem chk0_spec {p : PP} (h : chkP p = 0) : 0 ≤ p.crc ∧ p.crc ≤ 2 ∧ rightE p.d.sc p.d.nm p.d.nd p.d.sv = true ∧ rightE p.s.sc p.s.nm p.s.nd p.s.sv = true ∧ rightE p.r.sc p.r.nm p.r.nd p.r.sv = true := by
  unfold chkP at h
  split at h
  · cases h
  · rename_i c
    have c1 : ¬ p.crc < 0 := fun k => c (.inl k)
    have c2 : ¬ 2 < p.crc := fun k => c (.inr (.inl k))
    have c3 := Decidable.not_not.1 (fun k => c (.inr (.inr (.inl k))))
    exact ⟨by omega, by omega, c3.1, c3.2.1, c3.2.2⟩
theorem primL8_any (p : PP) : anys (primL8 p) = [.iface 22 (.int .u64 7), .iface 22 (.int .u64 p.fl), .iface 22 (.int .u64 p.crc), anyV (eidT p.d.sc p.d.nm p.d.nd p.d.sv), anyV (eidT p.s.sc p.s.nm p.s.nd p.s.sv), anyV (eidT p.r.sc p.r.nm p.r.nd p.r.sv), anyV (stT p.st p.sq), .iface 22 (.int .u64 p.life)] := rfl
theorem PutP_run (p : PP) (ok : PPok p) (hc : chkP p = 0) (hl : GoodL (primL p)) : ∃ h', Run T f_primary_Put [p.v] [] (.tup [.ps 1 (bys (enc (refL (primL p) p.crc.toNat))), .int .i64 0]) h' := by
  obtain ⟨k0, k2, h1, h2, h3⟩ := chk0_spec hc
  obtain ⟨_, r1⟩ := CheckP_run p ok []
  rw [hc] at r1
  obtain ⟨k, hk⟩ := Int.eq_ofNat_of_zero_le k0
  have ek : p.crc.toNat = k := by omega
  rw [ek]
  obtain ⟨_, rS⟩ := SealL_run (primL p) k [] hl (by omega)
  obtain ⟨_, rF⟩ := Fragment_run p ok.f0 ok.f1 []
  obtain ⟨_, rT⟩ := stampValue_run p.st p.sq []
  have hf : T.free f_primary_Put_1 = true := rfl
  refine Run.startE t_primary_Put ?_
  unfold k_primary_Put PP.v
  simp (disch := omega)
  simp only [pp_fold, pp_eta]
  rw [Xp_run r1 (by simp [PP.hf]) rfl (by simp)]
  simp (disch := omega)
  simp only [eid_fold]
  have ew : IntKind.u64.wrap p.crc = p.crc := by rw [hk]; exact wrap_nat k (by omega)
  rw [Xf_run (Put1_run p.d ok.n1 h1 _ 2 1 3 [.iface 22 (.int .u64 7), .iface 22 (.int .u64 p.fl), .iface 22 (.int .u64 p.crc)] rfl rfl rfl (by omega) (by simp) (by simp) (by omega))]
  have a1 := anyV_one (eidT p.d.sc p.d.nm p.d.nd p.d.sv)
  have a2 := anyV_one (eidT p.s.sc p.s.nm p.s.nd p.s.sv)
  have a3 := anyV_one (eidT p.r.sc p.r.nm p.r.nd p.r.sv)
  have a4 := anyV_one (stT p.st p.sq)
  have a5 := anyV_cells (stT p.st p.sq)
  have a6 := anyV_hf (stT p.st p.sq)
  have lA : primL p = primL8 p ++ (if fragB p.fl then [num6 p.off, num6 p.tot] else []) := rfl
  have l8 := primL8_any p
  simp (disch := omega) [E4.cells]
  simp only [eid_fold]
  rw [Xf_run (Put1_run p.s ok.n2 h2 _ 2 4 4 [.iface 22 (.int .u64 7), .iface 22 (.int .u64 p.fl), .iface 22 (.int .u64 p.crc), anyV (eidT p.d.sc p.d.nm p.d.nd p.d.sv)] rfl rfl rfl (by omega) (by simp) (by simp) (by omega))]
  simp (disch := omega) [E4.cells]
  simp only [eid_fold]
  rw [Xf_run (Put1_run p.r ok.n3 h3 _ 2 6 5 [.iface 22 (.int .u64 7), .iface 22 (.int .u64 p.fl), .iface 22 (.int .u64 p.crc), anyV (eidT p.d.sc p.d.nm p.d.nd p.d.sv), anyV (eidT p.s.sc p.s.nm p.s.nd p.s.sv)] rfl rfl rfl (by omega) (by simp) (by simp) (by omega))]
  simp (disch := omega) [E4.cells]
  rw [Xp_run rT (by simp) (by simp [a6]) (by simp)]
  simp (disch := omega) [a4, a5]
  simp only [pp_fold, pp_eta]
  rw [Xp_run rF (by simp [PP.hf]) rfl (by simp)]
  cases hF : fragB p.fl with
  | false =>
    rw [hF] at lA
    simp only [Bool.false_eq_true, if_false, List.append_nil] at lA
    rw [lA] at rS ⊢
    rw [l8] at rS
    have a7 := anyV_hf (eidT p.d.sc p.d.nm p.d.nd p.d.sv)
    have a8 := anyV_hf (eidT p.s.sc p.s.nm p.s.nd p.s.sv)
    have a9 := anyV_hf (eidT p.r.sc p.r.nm p.r.nd p.r.sv)
    have fz : ∀ H : Heap, H.row 9 = some [V.iface 22 (.int .u64 7), .iface 22 (.int .u64 p.fl), .iface 22 (.int .u64 p.crc), anyV (eidT p.d.sc p.d.nm p.d.nd p.d.sv), anyV (eidT p.s.sc p.s.nm p.s.nd p.s.sv), anyV (eidT p.r.sc p.r.nm p.r.nd p.r.sv), anyV (stT p.st p.sq), .iface 22 (.int .u64 p.life)] → freeze1 false (.hs 1 9 0 8) H = some (.ps 1 [V.iface 22 (.int .u64 7), .iface 22 (.int .u64 p.fl), .iface 22 (.int .u64 p.crc), anyV (eidT p.d.sc p.d.nm p.d.nd p.d.sv), anyV (eidT p.s.sc p.s.nm p.s.nd p.s.sv), anyV (eidT p.r.sc p.r.nm p.r.nd p.r.sv), anyV (stT p.st p.sq), .iface 22 (.int .u64 p.life)], H.set 9 none) := fun H hr => freeze_hs hr (by simp [a1, a2, a3, a4])
    simp (disch := omega)
    rw [fz _ rfl]
    simp (disch := omega)
    rw [← hk] at rS
    rw [Xp_run rS (by simp [a6, a7, a8, a9]) (by simp [bys_hfs]) (by simp)]
    simp (disch := omega)
  | true =>
    rw [hF] at lA
    simp only [if_true] at lA
    rw [lA] at rS ⊢
    rw [anys_app, l8] at rS
    have l2 : anys [num6 p.off, num6 p.tot] = [.iface 22 (.int .u64 p.off), .iface 22 (.int .u64 p.tot)] := rfl
    rw [l2] at rS
    have a7 := anyV_hf (eidT p.d.sc p.d.nm p.d.nd p.d.sv)
    have a8 := anyV_hf (eidT p.s.sc p.s.nm p.s.nd p.s.sv)
    have a9 := anyV_hf (eidT p.r.sc p.r.nm p.r.nd p.r.sv)
    simp only [List.cons_append, List.nil_append] at rS
    have fz : ∀ H : Heap, H.row 10 = some [V.iface 22 (.int .u64 7), .iface 22 (.int .u64 p.fl), .iface 22 (.int .u64 p.crc), anyV (eidT p.d.sc p.d.nm p.d.nd p.d.sv), anyV (eidT p.s.sc p.s.nm p.s.nd p.s.sv), anyV (eidT p.r.sc p.r.nm p.r.nd p.r.sv), anyV (stT p.st p.sq), .iface 22 (.int .u64 p.life), .iface 22 (.int .u64 p.off), .iface 22 (.int .u64 p.tot)] → freeze1 false (.hs 1 10 0 10) H = some (.ps 1 [V.iface 22 (.int .u64 7), .iface 22 (.int .u64 p.fl), .iface 22 (.int .u64 p.crc), anyV (eidT p.d.sc p.d.nm p.d.nd p.d.sv), anyV (eidT p.s.sc p.s.nm p.s.nd p.s.sv), anyV (eidT p.r.sc p.r.nm p.r.nd p.r.sv), anyV (stT p.st p.sq), .iface 22 (.int .u64 p.life), .iface 22 (.int .u64 p.off), .iface 22 (.int .u64 p.tot)], H.set 10 none) := fun H hr => freeze_hs hr (by simp [a1, a2, a3, a4])
    simp (disch := omega)
    rw [fz _ rfl]
    simp (disch := omega)
    rw [← hk] at rS
    rw [Xp_run rS (by simp [a6, a7, a8, a9]) (by simp [bys_hfs]) (by simp)]
    simp (disch := omega)
theorem R10Value_run (p : PP) (ok : PPok p) (k : Nat) (hk : p.crc = k) (hk2 : k ≤ 2) (h1 : rightE p.d.sc p.d.nm p.d.nd p.d.sv = true) (h2 : rightE p.s.sc p.s.nm p.s.nd p.s.sv = true) (h3 : rightE p.r.sc p.r.nm p.r.nd p.r.sv = true) (hl : GoodL (primL p)) :
    ∃ h', Run T f_ref10_Value [p.v] [] (refL (primL p) k).v h' := by
  obtain ⟨_, r1⟩ := R7Value_run p.d.sc p.d.nm p.d.nd p.d.sv ok.n1 h1 []
  obtain ⟨_, r2⟩ := R7Value_run p.s.sc p.s.nm p.s.nd p.s.sv ok.n2 h2 []
  obtain ⟨_, r3⟩ := R7Value_run p.r.sc p.r.nm p.r.nd p.r.sv ok.n3 h3 []
  obtain ⟨_, b1⟩ := Bit_run p.fl 1 ok.f0 (by omega) (by omega) ok.f1 []
  rw [Int.ediv_one] at b1
  have eF : decide (p.fl % 2 = 1) = fragB p.fl := rfl
  rw [eF] at b1
  obtain ⟨_, rS⟩ := R9SealL_run (primL p) k [] hl hk2
  have q1 := T6.v_hf (eidT p.d.sc p.d.nm p.d.nd p.d.sv)
  have q2 := T6.v_hf (eidT p.s.sc p.s.nm p.s.nd p.s.sv)
  have q3 := T6.v_hf (eidT p.r.sc p.r.nm p.r.nd p.r.sv)
  have w1 := T6.cells_len (eidT p.d.sc p.d.nm p.d.nd p.d.sv)
  have w2 := T6.cells_len (eidT p.s.sc p.s.nm p.s.nd p.s.sv)
  have w3 := T6.cells_len (eidT p.r.sc p.r.nm p.r.nd p.r.sv)
  have ve := v_eq (refL (primL p) k)
  have vh := T6.v_hf (refL (primL p) k)
  have one4 : ∀ t : T6, ∀ x ∈ t.v.cells, x.one = true := fun t => by rw [v_eq]; simp
  have o1 := one4 (eidT p.d.sc p.d.nm p.d.nd p.d.sv)
  have o2 := one4 (eidT p.s.sc p.s.nm p.s.nd p.s.sv)
  have o3 := one4 (eidT p.r.sc p.r.nm p.r.nd p.r.sv)
  have lA : primL p = primL8 p ++ (if fragB p.fl then [num6 p.off, num6 p.tot] else []) := rfl
  have l8 : T6.vs (primL8 p) = [.agg [.int .i64 0, .int .u64 7, .str [], .ps 4 []], .agg [.int .i64 0, .int .u64 p.fl, .str [], .ps 4 []], .agg [.int .i64 0, .int .u64 p.crc, .str [], .ps 4 []], (eidT p.d.sc p.d.nm p.d.nd p.d.sv).v, (eidT p.s.sc p.s.nm p.s.nd p.s.sv).v, (eidT p.r.sc p.r.nm p.r.nd p.r.sv).v, .agg [.int .i64 4, .int .u64 0, .str [], .ps 4 [.agg [.int .i64 0, .int .u64 p.st, .str [], .ps 4 []], .agg [.int .i64 0, .int .u64 p.sq, .str [], .ps 4 []]]], .agg [.int .i64 0, .int .u64 p.life, .str [], .ps 4 []]] := rfl
  have rS' := rS
  generalize (eidT p.d.sc p.d.nm p.d.nd p.d.sv).v = X1 at *
  generalize (eidT p.s.sc p.s.nm p.s.nd p.s.sv).v = X2 at *
  generalize (eidT p.r.sc p.r.nm p.r.nd p.r.sv).v = X3 at *
  refine Run.startE t_ref10_Value ?_
  unfold k_ref10_Value PP.v
  have ek : IntKind.u64.wrap p.crc = p.crc := by rw [hk]; exact wrap_nat k (by omega)
  simp (disch := omega)
  simp only [eid_fold]
  rw [Xp_run r1 (by simp [eid_hf]) q1 (by simp)]
  simp (disch := omega)
  simp only [eid_fold]
  rw [Xp_run r2 (by simp [eid_hf]) q2 (by simp)]
  simp (disch := omega)
  simp only [eid_fold]
  rw [Xp_run r3 (by simp [eid_hf]) q3 (by simp)]
  simp (disch := first | omega | assumption) [w1, w2, w3, o1, o2, o3]
  rw [if_pos ⟨o1, o2, o3⟩]
  simp (disch := omega)
  rw [Xp_run b1 (by simp) rfl (by simp)]
  have qS : V.hfs [V.agg [.int .i64 0, .int .u64 p.st, .str [], .ps 4 []], .agg [.int .i64 0, .int .u64 p.sq, .str [], .ps 4 []]] = true := rfl
  cases hF : fragB p.fl with
  | false =>
    rw [hF] at lA
    simp only [Bool.false_eq_true, if_false, List.append_nil] at lA
    rw [lA] at rS vh ve ⊢
    rw [l8, ← hk] at rS
    simp (disch := omega)
    rw [Xp_run rS (by simp [q1, q2, q3]) vh (by simp)]
    rw [ve]
    simp (disch := omega)
  | true =>
    rw [hF] at lA
    simp only [if_true] at lA
    rw [lA] at rS vh ve ⊢
    rw [vs_app, l8, ← hk] at rS
    have l2 : T6.vs [num6 p.off, num6 p.tot] = [.agg [.int .i64 0, .int .u64 p.off, .str [], .ps 4 []], .agg [.int .i64 0, .int .u64 p.tot, .str [], .ps 4 []]] := rfl
    rw [l2] at rS
    simp only [List.cons_append, List.nil_append] at rS
    simp (disch := omega)
    rw [Xp_run rS (by simp [q1, q2, q3]) vh (by simp)]
    rw [ve]
    simp (disch := omega)
def u64B (n : Int) : Prop := 0 ≤ n ∧ n ≤ 18446744073709551615
theorem u0 : u64B 0 := ⟨by omega, by omega⟩
structure E4.B (e : E4) : Prop where
  nd : u64B e.nd
  sv : u64B e.sv
  r : rightE e.sc e.nm e.nd e.sv = true
structure PPB (p : PP) : Prop where
  fl : u64B p.fl
  c0 : 0 ≤ p.crc
  c2 : p.crc ≤ 2
  d : p.d.B
  s : p.s.B
  r : p.r.B
  st : u64B p.st
  sq : u64B p.sq
  life : u64B p.life
  off : u64B p.off
  tot : u64B p.tot
theorem plain_valid (s : List UInt8) (h : plainS s = true) : valid s = true := by
  have : Asc s.length s := by
    intro i hi
    have := List.all_eq_true.1 h s[i] (List.getElem_mem hi)
    simp only [plainB, Bool.and_eq_true, decide_eq_true_eq] at this
    rw [List.getD_eq_getElem?_getD, List.getElem?_eq_getElem hi]
    simp only [Option.getD_some]
    omega
  rw [← valid_asc s.length s (Nat.le_refl _) this, List.drop_length]
  exact valid_nil
theorem named_len {s : List UInt8} (h : namedS s = true) : s.length ≤ 64 ∧ plainS s = true := by
  simp only [namedS, Bool.and_eq_true, decide_eq_true_eq] at h
  exact ⟨h.1.1.2, h.2⟩
theorem good_num {n : Int} (h : u64B n) : GoodL [num6 n] where
  w := by simp [T6.ws, T6.w]
  ok := ⟨⟨by omega, h, by simp, trivial⟩, trivial⟩
  r := by simp [rgts, rgt]
  d := by simp [dps, dp]; omega
  c := by simp [cnts, cnt]
structure Small (l : List T6) (a b c : Nat) : Prop where
  w : T6.ws l ≤ a
  ok : T6.oks l
  r : rgts l = true
  d : dps l ≤ b
  c : cnts l ≤ c
theorem Small.app {l m : List T6} {a b c a' b' c' : Nat} (h : Small l a b c) (k : Small m a' b' c') : Small (l ++ m) (a + a') (max b b') (c + c') where
  w := by have := h.w; have := k.w; rw [ws_app]; omega
  ok := (oks_app _ _).2 ⟨h.ok, k.ok⟩
  r := by rw [rgts_app, h.r, k.r]; rfl
  d := by have := h.d; have := k.d; rw [dps_app]; omega
  c := by have := h.c; have := k.c; rw [cnts_app]; omega
theorem small_num {n : Int} (h : u64B n) : Small [num6 n] 1 1 1 where
  w := by simp [T6.ws, T6.w]
  ok := ⟨⟨by omega, h, by simp, trivial⟩, trivial⟩
  r := by simp [rgts, rgt]
  d := by simp [dps, dp]; omega
  c := by simp [cnts, cnt]
theorem Small.node {l : List T6} {a b c : Nat} (h : Small l a b c) : Small [Ev.node l] (a + 1) (b + 1) (c + 1) where
  w := by have := h.w; simp only [T6.ws, T6.w, List.length_nil]; omega
  ok := ⟨⟨by omega, by omega, by simp, h.ok⟩, trivial⟩
  r := by simp [rgts, rgt, h.r]
  d := by have := h.d; have := dps_le l; simp only [dps, dp, if_true]; omega
  c := by have := h.c; simp only [cnts, cnt, if_true]; omega
theorem small_txt {s : List UInt8} (h : namedS s = true) : Small [txt6 s] 65 1 1 where
  w := by have := (named_len h).1; simp only [txt6, T6.ws, T6.w]; omega
  ok := ⟨⟨by omega, by omega, by have := (named_len h).1; omega, trivial⟩, trivial⟩
  r := by have := plain_valid s (named_len h).2; simp [txt6, rgts, rgt, this]
  d := by simp [txt6, dps, dp]; omega
  c := by simp [txt6, cnts, cnt]
theorem Small.up {l : List T6} {a b c a' b' c' : Nat} (h : Small l a b c) (h1 : a ≤ a') (h2 : b ≤ b') (h3 : c ≤ c') : Small l a' b' c' where
  w := Nat.le_trans h.w h1
  ok := h.ok
  r := h.r
  d := by have := h.d; omega
  c := Nat.le_trans h.c h3
theorem small_eid {e : E4} (h : e.B) : Small [eidT e.sc e.nm e.nd e.sv] 70 4 5 := by
  unfold eidT
  rcases rightE_cases h.r with ⟨e1, e2⟩ | ⟨e1, e2, e3, e4⟩
  · rw [if_pos e1, e1]
    exact (((small_num (n := 2) ⟨by omega, by omega⟩).app ((small_num h.nd).app (small_num h.sv)).node).node).up (by omega) (by omega) (by omega)
  · rw [if_neg (by omega), e1]
    by_cases hz : e.nm = []
    · rw [if_pos hz]
      exact (((small_num (n := 1) ⟨by omega, by omega⟩).app (small_num (n := 0) ⟨by omega, by omega⟩)).node).up (by omega) (by omega) (by omega)
    · rw [if_neg hz]
      exact (((small_num (n := 1) ⟨by omega, by omega⟩).app (small_txt (by rcases e4 with k | k; exact absurd k hz; exact k))).node).up (by omega) (by omega) (by omega)
theorem prim_small {p : PP} (b : PPB p) : Small (primL p) 1000 10 100 := by
  have h8 : Small (primL8 p) 500 8 50 := ((small_num (n := 7) ⟨by omega, by omega⟩).app ((small_num b.fl).app ((small_num (n := p.crc) ⟨b.c0, by have := b.c2; omega⟩).app ((small_eid b.d).app ((small_eid b.s).app ((small_eid b.r).app ((((small_num b.st).app (small_num b.sq)).node).app (small_num b.life)))))))).up (by omega) (by omega) (by omega)
  unfold primL
  split
  · exact (h8.app ((small_num b.off).app (small_num b.tot))).up (by omega) (by omega) (by omega)
  · rw [List.append_nil]; exact h8.up (by omega) (by omega) (by omega)
theorem prim_good {p : PP} (b : PPB p) : GoodL (primL p) := by
  have h := prim_small b
  exact ⟨by have := h.w; omega, h.ok, h.r, by have := h.d; omega, by have := h.c; omega⟩
/-! ### endpoints of values -/
theorem E4.B.len {e : E4} (h : e.B) : e.nm.length ≤ 140737488351232 := by
  rcases rightE_cases h.r with ⟨_, e2⟩ | ⟨_, _, _, e4⟩
  · rw [e2]; simp
  · rcases e4 with k | k
    · rw [k]; simp
    · have := (named_len k).1; omega
def ofE (t : T6) : E4 × Int :=
  if t.k = 4 ∧ t.l.length = 2 ∧ (el t 0).k = 0 then
    (if asN (el t 0) = 1 ∧ (el t 1).k = 0 then (if asN (el t 1) = 0 then (⟨1, [], 0, 0⟩, 0) else (⟨0, [], 0, 0⟩, 6))
    else if asN (el t 0) = 1 ∧ (el t 1).k = 3 then (if asS (el t 1) ≠ [] ∧ rightE 1 (asS (el t 1)) 0 0 = true then (⟨1, asS (el t 1), 0, 0⟩, 0) else (⟨0, [], 0, 0⟩, 6))
    else if asN (el t 0) = 2 ∧ (el t 1).k = 4 ∧ (el t 1).l.length = 2 ∧ (el (el t 1) 0).k = 0 ∧ (el (el t 1) 1).k = 0 then (⟨2, [], asN (el (el t 1) 0), asN (el (el t 1) 1)⟩, 0)
    else (⟨0, [], 0, 0⟩, 18))
  else (⟨0, [], 0, 0⟩, 18)
def E4.v (e : E4) : V := eidV e.sc e.nm e.nd e.sv
theorem ofV_eq (t : T6) : ofV t = .tup [(ofE t).1.v, .int .i64 (ofE t).2] := by
  unfold ofV ofE zeid
  (repeat' split) <;> rfl
theorem list_el2 (t : T6) (h : t.k = 4) (hl : t.l.length = 2) : t.l = [el t 0, el t 1] := by
  obtain ⟨k, n, s, l⟩ := t
  simp only [el, if_pos h]
  change l.length = 2 at hl
  match l, hl with
  | [a, b], _ => rfl
theorem any_eqt (t : T6) (h : t.k = 3) : anyV t = anyV (txt6 (asS t)) ∧ enc t = enc (txt6 (asS t)) := by
  obtain ⟨k, n, s, l⟩ := t
  have : k = 3 := h
  subst this
  exact ⟨rfl, by simp [asS, T6.k, T6.s, enc, txt6]⟩
theorem el_ok (t : T6) (i : Nat) (ok : t.ok) : (el t i).ok := by
  rcases el_mem t i with h | h
  · rw [h]; exact ⟨by decide, by decide, by decide, trivial⟩
  · have : T6.oks t.l := by cases t; exact ok.2.2.2
    exact T6.oks_mem this h
theorem node2 {a b a' b' : T6} (h1 : anyV a = anyV a' ∧ enc a = enc a') (h2 : anyV b = anyV b' ∧ enc b = enc b') : anyV (node [a, b]) = anyV (node [a', b']) ∧ enc (node [a, b]) = enc (node [a', b']) := by
  constructor
  · rw [any_node, any_node]; simp only [anys, h1.1, h2.1]
  · rw [enc_node, enc_node]; simp only [encs, h1.2, h2.2, List.length_cons, List.length_nil]
/-- A value that an endpoint can be read of is that endpoint's. -/
theorem ofE_spec (t : T6) (ok : t.ok) (h : (ofE t).2 = 0) : (ofE t).1.B ∧ anyV t = anyV (eidT (ofE t).1.sc (ofE t).1.nm (ofE t).1.nd (ofE t).1.sv) ∧ enc t = enc (eidT (ofE t).1.sc (ofE t).1.nm (ofE t).1.nd (ofE t).1.sv) := by
  have n0 := el_n (el t 1) 0 (el_ok t 1 ok)
  have n1 := el_n (el t 1) 1 (el_ok t 1 ok)
  unfold ofE at h ⊢
  by_cases c0' : ¬ (t.k = 4 ∧ t.l.length = 2 ∧ (el t 0).k = 0)
  · rw [if_neg c0'] at h; cases h
  have c0 := Decidable.not_not.1 c0'
  rw [if_pos c0] at h ⊢
  have l2 := list_el2 t c0.1 c0.2.1
  have q := any_eql t c0.1
  rw [l2] at q
  have q0 := any_eq _ c0.2.2
  by_cases c1 : asN (el t 0) = 1 ∧ (el t 1).k = 0
  · rw [if_pos c1] at h ⊢
    by_cases c2 : asN (el t 1) = 0
    · rw [if_pos c2] at h ⊢
      have q1 := any_eq _ c1.2
      rw [c2] at q1
      rw [c1.1] at q0
      have := node2 q0 q1
      exact ⟨⟨u0, u0, rfl⟩, q.1.trans this.1, q.2.trans this.2⟩
    · rw [if_neg c2] at h; cases h
  rw [if_neg c1] at h ⊢
  by_cases c2 : asN (el t 0) = 1 ∧ (el t 1).k = 3
  · rw [if_pos c2] at h ⊢
    by_cases c3 : asS (el t 1) ≠ [] ∧ rightE 1 (asS (el t 1)) 0 0 = true
    · rw [if_pos c3] at h ⊢
      have q1 := any_eqt _ c2.2
      rw [c2.1] at q0
      have := node2 q0 q1
      have e1 : eidT 1 (asS (el t 1)) 0 0 = node [num6 1, txt6 (asS (el t 1))] := by
        unfold eidT; rw [if_neg (by omega), if_neg c3.1]
      refine ⟨⟨u0, u0, c3.2⟩, ?_, ?_⟩
      · show anyV t = anyV (eidT 1 (asS (el t 1)) 0 0)
        rw [e1]; exact q.1.trans this.1
      · show enc t = enc (eidT 1 (asS (el t 1)) 0 0)
        rw [e1]; exact q.2.trans this.2
    · rw [if_neg c3] at h; cases h
  rw [if_neg c2] at h ⊢
  by_cases c3 : asN (el t 0) = 2 ∧ (el t 1).k = 4 ∧ (el t 1).l.length = 2 ∧ (el (el t 1) 0).k = 0 ∧ (el (el t 1) 1).k = 0
  · rw [if_pos c3] at h ⊢
    have lx := list_el2 (el t 1) c3.2.1 c3.2.2.1
    have qx := any_eql (el t 1) c3.2.1
    rw [lx] at qx
    have y := node2 (any_eq _ c3.2.2.2.1) (any_eq _ c3.2.2.2.2)
    have qy : anyV (el t 1) = anyV (node [num6 (asN (el (el t 1) 0)), num6 (asN (el (el t 1) 1))]) ∧ enc (el t 1) = enc (node [num6 (asN (el (el t 1) 0)), num6 (asN (el (el t 1) 1))]) := ⟨qx.1.trans y.1, qx.2.trans y.2⟩
    rw [c3.1] at q0
    have := node2 q0 qy
    exact ⟨⟨n0, n1, rfl⟩, q.1.trans this.1, q.2.trans this.2⟩
  · rw [if_neg c3] at h; cases h
def stOk (x : T6) : Prop := x.k = 4 ∧ x.l.length = 2 ∧ (el x 0).k = 0 ∧ (el x 1).k = 0
instance (x : T6) : Decidable (stOk x) := by unfold stOk; infer_instance
def stV (x : T6) : V := if stOk x then .tup [.agg [.int .u64 (asN (el x 0)), .int .u64 (asN (el x 1))], .int .i64 0] else .tup [.agg [.int .u64 0, .int .u64 0], .int .i64 18]
theorem stampOf1_run (x : T6) (i : Nat) (z : Int) (hz : z = i) (A : List V) (hA : A[i]? = some (anyV x)) (b : Bool) (Z : List V) (g : Heap) : Run T f_stamp_Of_1 [.int .i64 z, .ptr 1 0, .ptr 2 0] (some Z :: some [.ps 1 A] :: some [.bool b] :: g) (.int .u64 (asN x)) (some Z :: some [.ps 1 A] :: some [.bool (b && decide (x.k = 0))] :: g) := by
  subst hz
  refine Run.start t_stamp_Of_1 ?_
  unfold k_stamp_Of_1
  have r0 : ∀ v, Heap.row (some Z :: some [.ps 1 A] :: some [v] :: g) 1 = some [.ps 1 A] := fun v => rfl
  have r2 : ∀ v, Heap.row (some Z :: some [.ps 1 A] :: some [v] :: g) 2 = some [v] := fun v => rfl
  have xc := anyV_cells x
  have xo := anyV_one x
  cases b with
  | true => simp (disch := omega) [Uint_p, r0, r2, hA, xc, xo]
  | false => simp (disch := omega) [Uint_p, r0, r2, hA, xc, xo]
theorem stampOf_run (x : T6) (hw : x.w ≤ 4194304) : ∃ h', Run T f_stamp_Of [anyV x] [] (stV x) h' := by
  refine Run.startE t_stamp_Of ?_
  unfold k_stamp_Of stV
  have pl := fun {ks ops K e h Q d} => List_p (ks := ks) (ops := ops) (K := K) (e := e) (h := h) (Q := Q) (d := d) x hw
  have al := anys_len (asL x)
  have hf : T.free f_stamp_Of_1 = true := rfl
  have eL : x.k = 4 → asL x = x.l := fun k4 => by simp [asL, k4]
  have g0 : x.k = 4 → x.l.length = 2 → (anys (asL x))[0]? = some (anyV (el x 0)) := fun k4 l2 => by
    rw [eL k4, anys_get, el, if_pos k4, List.getElem?_eq_getElem (by omega)]; rfl
  have g1 : x.k = 4 → x.l.length = 2 → (anys (asL x))[1]? = some (anyV (el x 1)) := fun k4 l2 => by
    rw [eL k4, anys_get, el, if_pos k4, List.getElem?_eq_getElem (by omega)]; rfl
  generalize anys (asL x) = A at *
  by_cases k4 : x.k = 4
  · rw [eL k4] at al
    by_cases l2 : x.l.length = 2
    · have l2' : (A.length : Int) = 2 := by omega
      have l3' : A.length = 2 := by omega
      have p0 := fun {ks ops K e Q d} b Z g => Xf_run (ks := ks) (ops := ops) (K := K) (e := e) (Q := Q) (d := d) (stampOf1_run (el x 0) 0 0 rfl A (g0 k4 l2) b Z g)
      have p1 := fun {ks ops K e Q d} b Z g => Xf_run (ks := ks) (ops := ops) (K := K) (e := e) (Q := Q) (d := d) (stampOf1_run (el x 1) 1 1 rfl A (g1 k4 l2) b Z g)
      by_cases d0 : (el x 0).k = 0
      · by_cases d1 : (el x 1).k = 0
        · rw [if_pos (show stOk x from ⟨k4, l2, d0, d1⟩)]
          simp (disch := first | omega | assumption) [pl, k4, l2, l2', l3', p0, p1, d0, d1]
        · rw [if_neg (fun k : stOk x => d1 k.2.2.2)]
          simp (disch := first | omega | assumption) [pl, k4, l2, l2', l3', p0, p1, d0, d1]
      · rw [if_neg (fun k : stOk x => d0 k.2.2.1)]
        simp (disch := first | omega | assumption) [pl, k4, l2, l2', l3', p0, p1, d0]
    · have l2' : ¬ (A.length : Int) = 2 := by omega
      have l3' : ¬ A.length = 2 := by omega
      rw [if_neg (fun k : stOk x => l2 k.2.1)]
      simp (disch := first | omega | assumption) [pl, k4, l2, l2', l3']
  · rw [if_neg (fun k : stOk x => k4 k.1)]
    simp (disch := first | omega | assumption) [pl, k4]
def stE (x : T6) : Int := if stOk x then 0 else 18
def st1 (x : T6) : Int := if stOk x then asN (el x 0) else 0
def st2 (x : T6) : Int := if stOk x then asN (el x 1) else 0
theorem stV_eq (x : T6) : stV x = .tup [.agg [.int .u64 (st1 x), .int .u64 (st2 x)], .int .i64 (stE x)] := by
  unfold stV stE st1 st2
  split <;> rfl
theorem stV_hf (x : T6) : V.hf (stV x) = true := by unfold stV; split <;> simp
theorem rn_run (t : T6) (i : Nat) (z : Int) (hz : z = i) (b : Bool) (e : Int) (Z : List V) (g : Heap) : Run T f_primary_reader_n [.ptr 1 0, .int .i64 z] (some Z :: some [anyV t, .bool b, .int .i64 e] :: g) (.int .u64 (asN (el t i))) (some Z :: some [anyV t, .bool (b || !decide ((el t i).k = 0)), .int .i64 e] :: g) := by
  subst hz
  refine Run.start t_primary_reader_n ?_
  unfold k_primary_reader_n
  have ha := at_el t i
  have r0 : ∀ x, Heap.row (some Z :: some x :: g) 1 = some x := fun v => rfl
  have s0 : ∀ x y, List.set (some Z :: some x :: g) 1 y = some Z :: y :: g := fun x y => rfl
  cases b with
  | true => simp (disch := omega) [At_p, ha, Uint_p, r0, s0]
  | false => simp (disch := omega) [At_p, ha, Uint_p, r0, s0]
theorem rname_run (t : T6) (hw : t.w ≤ 4194304) (i : Nat) (z : Int) (hz : z = i) (b : Bool) (e : Int) (Z : List V) (g : Heap) : Run T f_primary_reader_name [.ptr 1 0, .int .i64 z] (some Z :: some [anyV t, .bool b, .int .i64 e] :: g) (ofE (el t i)).1.v (some Z :: some [anyV t, .bool b, .int .i64 (if e = 0 then (ofE (el t i)).2 else e)] :: g ++ [some (ofE (el t i)).1.cells, some (ofE (el t i)).1.cells]) := by
  subst hz
  refine Run.start t_primary_reader_name ?_
  unfold k_primary_reader_name
  have ha := at_el t i
  have ah := anyV_hf (el t i)
  obtain ⟨_, rO⟩ := eidOf_run (el t i) (el_w t i hw)
  have oh := ofV_hf (el t i)
  rw [ofV_eq] at rO oh
  have r0 : ∀ x (g : Heap), Heap.row (some Z :: some x :: g) 1 = some x := fun v g => rfl
  have s0 : ∀ x y (g : Heap), List.set (some Z :: some x :: g) 1 y = some Z :: y :: g := fun x y g => rfl
  generalize (ofE (el t i)).1 = E at *
  generalize (ofE (el t i)).2 = er at *
  simp (disch := omega) [At_p, ha, r0, s0]
  rw [Xp_run rO (by simp [ah]) oh (by simp)]
  simp (disch := omega) [E4.v, eidV, r0, s0]
  by_cases c : e = 0
  · simp (disch := omega) [c, r0, s0, E4.cells]
  · simp (disch := omega) [c, r0, s0, E4.cells]
def fragT (t : T6) : Bool := fragB (asN (el t 1))
def kdT (t : T6) : Int := asN (el t 2)
def mny8 (t : T6) : Nat := if fragT t then 10 else 8
def typT (t : T6) : Prop := (el t 0).k = 0 ∧ (el t 1).k = 0 ∧ (el t 2).k = 0 ∧ (el t 7).k = 0 ∧ (fragT t = true → (el t 8).k = 0 ∧ (el t 9).k = 0) ∧ (0 < kdT t → (el t (mny8 t)).k = 2)
def shpP (t : T6) : Prop := typT t ∧ stOk (el t 6) ∧ asN (el t 0) = 7 ∧ kdT t ≤ 2 ∧ ((asL t).length : Int) = mny8 t + (if 0 < kdT t then 1 else 0)
/-- The first block of a value that has its shape. -/
def pOf (t : T6) : PP := ⟨asN (el t 1), kdT t, (ofE (el t 3)).1, (ofE (el t 4)).1, (ofE (el t 5)).1, st1 (el t 6), st2 (el t 6), asN (el t 7), if fragT t then asN (el t 8) else 0, if fragT t then asN (el t 9) else 0⟩
def errT (t : T6) : Int := if (ofE (el t 3)).2 = 0 then (if (ofE (el t 4)).2 = 0 then (ofE (el t 5)).2 else (ofE (el t 4)).2) else (ofE (el t 3)).2
def zP : V := PP.v ⟨0, 0, ⟨0, [], 0, 0⟩, ⟨0, [], 0, 0⟩, ⟨0, [], 0, 0⟩, 0, 0, 0, 0, 0⟩
def chkPV (t : T6) : V := if chkP (pOf t) = 0 then .tup [(pOf t).v, .int .i64 0] else .tup [zP, .int .i64 (chkP (pOf t))]
noncomputable def getPV (t : T6) (j e : Int) : V := open Classical in
  if shpP t then (if errT t = 0 then (if 0 < kdT t ∧ ¬ (e = 0 ∧ j = kdT t) then .tup [zP, .int .i64 7] else chkPV t) else .tup [zP, .int .i64 (errT t)]) else .tup [zP, .int .i64 18]
theorem stE0 {x : T6} (h : stE x = 0) : stOk x := by
  unfold stE at h
  split at h
  · assumption
  · cases h
theorem stE1 {x : T6} (h : stOk x) : stE x = 0 := if_pos h
theorem errEq (a b c : Int) : (if (if a = 0 then b else a) = 0 then c else (if a = 0 then b else a)) = if a = 0 then (if b = 0 then c else b) else a := by
  by_cases h : a = 0
  · simp [h]
  · simp [h]
theorem PPB.ok {p : PP} (b : PPB p) : PPok p where
  f0 := b.fl.1
  f1 := b.fl.2
  o0 := b.off.1
  t0 := b.tot.1
  n1 := b.d.len
  n2 := b.s.len
  n3 := b.r.len
theorem pOf_B {t : T6} (ok : t.ok) (hs : shpP t) (e : errT t = 0) : PPB (pOf t) := by
  have n1 := el_n t 1 ok
  have n2 := el_n t 2 ok
  have n7 := el_n t 7 ok
  have n8 := el_n t 8 ok
  have n9 := el_n t 9 ok
  have s0 := el_n (el t 6) 0 (el_ok t 6 ok)
  have s1 := el_n (el t 6) 1 (el_ok t 6 ok)
  have k2 := hs.2.2.2.1
  have eS1 : st1 (el t 6) = asN (el (el t 6) 0) := if_pos hs.2.1
  have eS2 : st2 (el t 6) = asN (el (el t 6) 1) := if_pos hs.2.1
  have e1 : (ofE (el t 3)).2 = 0 ∧ (ofE (el t 4)).2 = 0 ∧ (ofE (el t 5)).2 = 0 := by
    unfold errT at e
    by_cases a : (ofE (el t 3)).2 = 0
    · rw [if_pos a] at e
      by_cases b : (ofE (el t 4)).2 = 0
      · rw [if_pos b] at e; exact ⟨a, b, e⟩
      · rw [if_neg b] at e; exact absurd e b
    · rw [if_neg a] at e; exact absurd e a
  exact ⟨n1, n2.1, k2, (ofE_spec _ (el_ok t 3 ok) e1.1).1, (ofE_spec _ (el_ok t 4 ok) e1.2.1).1, (ofE_spec _ (el_ok t 5 ok) e1.2.2).1, by show u64B (st1 (el t 6)); rw [eS1]; exact s0, by show u64B (st2 (el t 6)); rw [eS2]; exact s1, n7,
    by show u64B (if fragT t then asN (el t 8) else 0); split; exact n8; exact u0, by show u64B (if fragT t then asN (el t 9) else 0); split; exact n9; exact u0⟩
theorem GetPG_run (t : T6) (hw : t.w ≤ 1048576) (ok : t.ok) (L : List V) (j eO : Int) (hO : Heap) (hL : V.hfs L = true) (rO : shpP t → errT t = 0 → 0 < kdT t → Run T f_block_Open [anyV t] [] (.tup [.ps 1 L, .int .i64 j, .int .i64 eO]) hO) : ∃ h', Run T f_primary_Get [anyV t] [] (getPV t j eO) h' := by
  have n0 := fun {ks ops K e Q d} b er Z g => Xf_run (ks := ks) (ops := ops) (K := K) (e := e) (Q := Q) (d := d) (rn_run t 0 0 rfl b er Z g)
  have n1 := fun {ks ops K e Q d} b er Z g => Xf_run (ks := ks) (ops := ops) (K := K) (e := e) (Q := Q) (d := d) (rn_run t 1 1 rfl b er Z g)
  have n2 := fun {ks ops K e Q d} b er Z g => Xf_run (ks := ks) (ops := ops) (K := K) (e := e) (Q := Q) (d := d) (rn_run t 2 2 rfl b er Z g)
  have n7 := fun {ks ops K e Q d} b er Z g => Xf_run (ks := ks) (ops := ops) (K := K) (e := e) (Q := Q) (d := d) (rn_run t 7 7 rfl b er Z g)
  have n8 := fun {ks ops K e Q d} b er Z g => Xf_run (ks := ks) (ops := ops) (K := K) (e := e) (Q := Q) (d := d) (rn_run t 8 8 rfl b er Z g)
  have n9 := fun {ks ops K e Q d} b er Z g => Xf_run (ks := ks) (ops := ops) (K := K) (e := e) (Q := Q) (d := d) (rn_run t 9 9 rfl b er Z g)
  have m3 := fun {ks ops K e Q d} b er Z g => Xf_run (ks := ks) (ops := ops) (K := K) (e := e) (Q := Q) (d := d) (rname_run t (by omega) 3 3 rfl b er Z g)
  have m4 := fun {ks ops K e Q d} b er Z g => Xf_run (ks := ks) (ops := ops) (K := K) (e := e) (Q := Q) (d := d) (rname_run t (by omega) 4 4 rfl b er Z g)
  have m5 := fun {ks ops K e Q d} b er Z g => Xf_run (ks := ks) (ops := ops) (K := K) (e := e) (Q := Q) (d := d) (rname_run t (by omega) 5 5 rfl b er Z g)
  have pA := fun {ks ops K e h Q d} i => At_p (ks := ks) (ops := ops) (K := K) (e := e) (h := h) (Q := Q) (d := d) t i
  have pl := fun {ks ops K e h Q d} => List_p (ks := ks) (ops := ops) (K := K) (e := e) (h := h) (Q := Q) (d := d) t (by omega)
  have pB8 := fun {ks ops K e h Q d} => Bytes_p (ks := ks) (ops := ops) (K := K) (e := e) (h := h) (Q := Q) (d := d) (el t 8) (el_w t 8 (by omega))
  have pB10 := fun {ks ops K e h Q d} => Bytes_p (ks := ks) (ops := ops) (K := K) (e := e) (h := h) (Q := Q) (d := d) (el t 10) (el_w t 10 (by omega))
  have a6 : atV t 6 = anyV (el t 6) := at_el t 6
  have a8 : atV t 8 = anyV (el t 8) := at_el t 8
  have a10 : atV t 10 = anyV (el t 10) := at_el t 10
  obtain ⟨_, rS⟩ := stampOf_run (el t 6) (el_w t 6 (by omega))
  have hS := stV_hf (el t 6)
  rw [stV_eq] at rS hS
  have h6 := anyV_hf (el t 6)
  have pS := fun {ks ops K e h Q d} => Xp_run (b := false) (ks := ks) (ops := ops) (K := K) (e := e) (h := h) (Q := Q) (d := d) rS (by simp [h6]) hS (by simp)
  have any1 := anyV_one t
  have anyc := anyV_cells t
  have anyh := anyV_hf t
  obtain ⟨f0, f1⟩ := el_n t 1 ok
  obtain ⟨k0, k1⟩ := el_n t 2 ok
  have o1 := op_and1 .int (asN (el t 1)) f0 f1
  have alen : (anys (asL t)).length = (asL t).length := anys_len _
  refine Run.startE t_primary_Get ?_
  unfold k_primary_Get
  simp (disch := first | omega | assumption) [any1, anyc, n0, n1, n2, n7, pl, o1]
  cases hF : fragB (asN (el t 1)) with
  | false =>
    rw [hF] at o1
    have hP : (pOf t).v = .agg [.int .u64 (asN (el t 1)), .int .i64 (asN (el t 2)), .int .i64 (ofE (el t 3)).1.sc, .str (ofE (el t 3)).1.nm, .int .u64 (ofE (el t 3)).1.nd, .int .u64 (ofE (el t 3)).1.sv, .int .i64 (ofE (el t 4)).1.sc, .str (ofE (el t 4)).1.nm, .int .u64 (ofE (el t 4)).1.nd, .int .u64 (ofE (el t 4)).1.sv, .int .i64 (ofE (el t 5)).1.sc, .str (ofE (el t 5)).1.nm, .int .u64 (ofE (el t 5)).1.nd, .int .u64 (ofE (el t 5)).1.sv, .int .u64 (st1 (el t 6)), .int .u64 (st2 (el t 6)), .int .u64 (asN (el t 7)), .int .u64 0, .int .u64 0] := by simp [pOf, PP.v, fragT, hF, kdT]
    have m8 : mny8 t = 8 := by unfold mny8 fragT; rw [hF]; rfl
    generalize hTB : (!decide ((el t 0).k = 0) || !decide ((el t 1).k = 0) || !decide ((el t 2).k = 0) || !decide ((el t 7).k = 0)) = TB
    cases TB with
    | true =>
      have hs : ¬ shpP t := fun k => by
        obtain ⟨⟨q0, q1, q2, q7, _⟩, _⟩ := k
        simp [q0, q1, q2, q7] at hTB
      rw [show getPV t j eO = .tup [zP, .int .i64 18] from if_neg hs]
      by_cases c : 0 < asN (el t 2)
      · simp (disch := first | omega | assumption) [c, pA, a8, pB8, a6, pS, zP, PP.v]
      · simp (disch := first | omega | assumption) [c, pA, a6, pS, zP, PP.v]
    | false =>
      simp only [Bool.or_eq_false_iff, Bool.not_eq_false', decide_eq_true_eq] at hTB
      obtain ⟨⟨⟨q0, q1⟩, q2⟩, q7⟩ := hTB
      by_cases c : 0 < asN (el t 2)
      · simp (disch := first | omega | assumption) [c, pA, a8, pB8]
        by_cases d8 : (el t 8).k = 2
        · simp (disch := first | omega | assumption) [d8]
          by_cases se : stE (el t 6) = 0
          · by_cases b7 : asN (el t 0) = 7
            · by_cases b2 : 2 < asN (el t 2)
              · have hs : ¬ shpP t := fun k => by have := k.2.2.2.1; unfold kdT at this; omega
                rw [show getPV t j eO = .tup [zP, .int .i64 18] from if_neg hs]
                simp (disch := first | omega | assumption) [a6, pS, pA, se, b7, b2, d8, c, zP, PP.v]
              · by_cases bl : ((asL t).length : Int) = 9
                · have hs : shpP t := ⟨⟨q0, q1, q2, q7, fun k => (by unfold fragT at k; rw [hF] at k; cases k), fun _ => by rw [m8]; exact d8⟩, stE0 se, b7, by unfold kdT; omega, by rw [m8, if_pos (show 0 < kdT t from c)]; omega⟩
                  have bl2 : (asL t).length = 9 := by omega
                  simp (disch := first | omega | assumption) [a6, pS, pA, se, b7, b2, bl, bl2, alen, d8, c, m3, m4, m5]
                  simp only [errEq]
                  have hE : errT t = if (ofE (el t 3)).2 = 0 then (if (ofE (el t 4)).2 = 0 then (ofE (el t 5)).2 else (ofE (el t 4)).2) else (ofE (el t 3)).2 := rfl
                  rw [← hE]
                  simp (disch := first | omega | assumption) [E4.v, eidV]
                  by_cases eT : errT t = 0
                  · have hB := pOf_B ok hs eT
                    obtain ⟨_, rC⟩ := CheckP_run (pOf t) hB.ok []
                    rw [hP] at rC
                    simp (disch := first | omega | assumption) [eT, c]
                    rw [Xp_run (rO hs eT c) (by simp [anyh]) (by simp [hL]) (by simp)]
                    by_cases q1 : eO = 0
                    · by_cases q2 : j = asN (el t 2)
                      · rw [show getPV t j eO = chkPV t from by unfold getPV; rw [if_pos hs, if_pos eT, if_neg (fun k => k.2 ⟨q1, q2⟩)]]
                        simp (disch := first | omega | assumption) [q1, q2]
                        rw [Xp_run rC (by simp) rfl (by simp)]
                        unfold chkPV
                        rw [hP]
                        generalize chkP (pOf t) = CH at *
                        by_cases hc : CH = 0
                        · simp (disch := first | omega | assumption) [hc]
                        · simp (disch := first | omega | assumption) [hc, zP, PP.v]
                      · rw [show getPV t j eO = .tup [zP, .int .i64 7] from by unfold getPV; rw [if_pos hs, if_pos eT, if_pos ⟨c, fun k => q2 k.2⟩]]
                        simp (disch := first | omega | assumption) [q1, q2, zP, PP.v]
                    · rw [show getPV t j eO = .tup [zP, .int .i64 7] from by unfold getPV; rw [if_pos hs, if_pos eT, if_pos ⟨c, fun k => q1 k.1⟩]]
                      simp (disch := first | omega | assumption) [q1, zP, PP.v]
                  · rw [show getPV t j eO = .tup [zP, .int .i64 (errT t)] from by unfold getPV; rw [if_pos hs, if_neg eT]]
                    simp (disch := first | omega | assumption) [eT]
                    apply Xc_regf
                    simp (disch := first | omega | assumption)
                    simp (disch := first | omega | assumption) [flagsIn, flagP, evOp, zP, PP.v]
                · have hs : ¬ shpP t := fun k => bl (by have := k.2.2.2.2; rw [m8, if_pos (show 0 < kdT t from c)] at this; omega)
                  have bl2 : ¬ (asL t).length = 9 := by omega
                  rw [show getPV t j eO = .tup [zP, .int .i64 18] from if_neg hs]
                  simp (disch := first | omega | assumption) [a6, pS, pA, se, b7, b2, bl, bl2, alen, d8, c, zP, PP.v]
            · have hs : ¬ shpP t := fun k => b7 k.2.2.1
              rw [show getPV t j eO = .tup [zP, .int .i64 18] from if_neg hs]
              simp (disch := first | omega | assumption) [a6, pS, pA, se, b7, d8, c, zP, PP.v]
          · have hs : ¬ shpP t := fun k => se (stE1 k.2.1)
            rw [show getPV t j eO = .tup [zP, .int .i64 18] from if_neg hs]
            simp (disch := first | omega | assumption) [a6, pS, pA, se, d8, c, zP, PP.v]
        · have hs : ¬ shpP t := fun k => d8 (by have := k.1.2.2.2.2.2 c; rw [m8] at this; exact this)
          rw [show getPV t j eO = .tup [zP, .int .i64 18] from if_neg hs]
          simp (disch := first | omega | assumption) [a6, pS, pA, d8, c, zP, PP.v]
      · simp (disch := first | omega | assumption) [c]
        by_cases se : stE (el t 6) = 0
        · by_cases b7 : asN (el t 0) = 7
          · by_cases b2 : 2 < asN (el t 2)
            · have hs : ¬ shpP t := fun k => by have := k.2.2.2.1; unfold kdT at this; omega
              rw [show getPV t j eO = .tup [zP, .int .i64 18] from if_neg hs]
              simp (disch := first | omega | assumption) [a6, pS, pA, se, b7, b2, c, zP, PP.v]
            · by_cases bl : ((asL t).length : Int) = 8
              · have hs : shpP t := ⟨⟨q0, q1, q2, q7, fun k => (by unfold fragT at k; rw [hF] at k; cases k), fun k => absurd k c⟩, stE0 se, b7, by unfold kdT; omega, by rw [m8, if_neg (show ¬ 0 < kdT t from c)]; omega⟩
                have bl2 : (asL t).length = 8 := by omega
                simp (disch := first | omega | assumption) [a6, pS, pA, se, b7, b2, bl, bl2, alen, c, m3, m4, m5]
                simp only [errEq]
                have hE : errT t = if (ofE (el t 3)).2 = 0 then (if (ofE (el t 4)).2 = 0 then (ofE (el t 5)).2 else (ofE (el t 4)).2) else (ofE (el t 3)).2 := rfl
                rw [← hE]
                simp (disch := first | omega | assumption) [E4.v, eidV]
                by_cases eT : errT t = 0
                · have hB := pOf_B ok hs eT
                  obtain ⟨_, rC⟩ := CheckP_run (pOf t) hB.ok []
                  rw [hP] at rC
                  simp (disch := first | omega | assumption) [eT, c]
                  rw [show getPV t j eO = chkPV t from by unfold getPV; rw [if_pos hs, if_pos eT, if_neg (fun k => c k.1)]]
                  rw [Xp_run rC (by simp) rfl (by simp)]
                  unfold chkPV
                  rw [hP]
                  generalize chkP (pOf t) = CH at *
                  by_cases hc : CH = 0
                  · simp (disch := first | omega | assumption) [hc]
                  · simp (disch := first | omega | assumption) [hc, zP, PP.v]
                · rw [show getPV t j eO = .tup [zP, .int .i64 (errT t)] from by unfold getPV; rw [if_pos hs, if_neg eT]]
                  simp (disch := first | omega | assumption) [eT]
                  apply Xc_regf
                  simp (disch := first | omega | assumption)
                  simp (disch := first | omega | assumption) [flagsIn, flagP, evOp, zP, PP.v]
              · have hs : ¬ shpP t := fun k => bl (by have := k.2.2.2.2; rw [m8, if_neg (show ¬ 0 < kdT t from c)] at this; omega)
                have bl2 : ¬ (asL t).length = 8 := by omega
                rw [show getPV t j eO = .tup [zP, .int .i64 18] from if_neg hs]
                simp (disch := first | omega | assumption) [a6, pS, pA, se, b7, b2, bl, bl2, alen, c, zP, PP.v]
          · have hs : ¬ shpP t := fun k => b7 k.2.2.1
            rw [show getPV t j eO = .tup [zP, .int .i64 18] from if_neg hs]
            simp (disch := first | omega | assumption) [a6, pS, pA, se, b7, c, zP, PP.v]
        · have hs : ¬ shpP t := fun k => se (stE1 k.2.1)
          rw [show getPV t j eO = .tup [zP, .int .i64 18] from if_neg hs]
          simp (disch := first | omega | assumption) [a6, pS, pA, se, c, zP, PP.v]
  | true =>
    rw [hF] at o1
    have hP : (pOf t).v = .agg [.int .u64 (asN (el t 1)), .int .i64 (asN (el t 2)), .int .i64 (ofE (el t 3)).1.sc, .str (ofE (el t 3)).1.nm, .int .u64 (ofE (el t 3)).1.nd, .int .u64 (ofE (el t 3)).1.sv, .int .i64 (ofE (el t 4)).1.sc, .str (ofE (el t 4)).1.nm, .int .u64 (ofE (el t 4)).1.nd, .int .u64 (ofE (el t 4)).1.sv, .int .i64 (ofE (el t 5)).1.sc, .str (ofE (el t 5)).1.nm, .int .u64 (ofE (el t 5)).1.nd, .int .u64 (ofE (el t 5)).1.sv, .int .u64 (st1 (el t 6)), .int .u64 (st2 (el t 6)), .int .u64 (asN (el t 7)), .int .u64 (asN (el t 8)), .int .u64 (asN (el t 9))] := by simp [pOf, PP.v, fragT, hF, kdT]
    have m8 : mny8 t = 10 := by unfold mny8 fragT; rw [hF]; rfl
    simp (disch := first | omega | assumption) [n8, n9]
    generalize hTB : (!decide ((el t 0).k = 0) || !decide ((el t 1).k = 0) || !decide ((el t 2).k = 0) || !decide ((el t 7).k = 0) || !decide ((el t 8).k = 0) || !decide ((el t 9).k = 0)) = TB
    cases TB with
    | true =>
      have hs : ¬ shpP t := fun k => by
        obtain ⟨⟨q0, q1, q2, q7, q89, _⟩, _⟩ := k
        obtain ⟨q8, q9⟩ := q89 hF
        simp [q0, q1, q2, q7, q8, q9] at hTB
      rw [show getPV t j eO = .tup [zP, .int .i64 18] from if_neg hs]
      by_cases c : 0 < asN (el t 2)
      · simp (disch := first | omega | assumption) [c, pA, a10, pB10, a6, pS, zP, PP.v]
      · simp (disch := first | omega | assumption) [c, pA, a6, pS, zP, PP.v]
    | false =>
      simp only [Bool.or_eq_false_iff, Bool.not_eq_false', decide_eq_true_eq] at hTB
      obtain ⟨⟨⟨⟨⟨q0, q1⟩, q2⟩, q7⟩, q8⟩, q9⟩ := hTB
      by_cases c : 0 < asN (el t 2)
      · simp (disch := first | omega | assumption) [c, pA, a10, pB10]
        by_cases d8 : (el t 10).k = 2
        · simp (disch := first | omega | assumption) [d8]
          by_cases se : stE (el t 6) = 0
          · by_cases b7 : asN (el t 0) = 7
            · by_cases b2 : 2 < asN (el t 2)
              · have hs : ¬ shpP t := fun k => by have := k.2.2.2.1; unfold kdT at this; omega
                rw [show getPV t j eO = .tup [zP, .int .i64 18] from if_neg hs]
                simp (disch := first | omega | assumption) [a6, pS, pA, se, b7, b2, d8, c, zP, PP.v]
              · by_cases bl : ((asL t).length : Int) = 11
                · have hs : shpP t := ⟨⟨q0, q1, q2, q7, fun _ => ⟨q8, q9⟩, fun _ => by rw [m8]; exact d8⟩, stE0 se, b7, by unfold kdT; omega, by rw [m8, if_pos (show 0 < kdT t from c)]; omega⟩
                  have bl2 : (asL t).length = 11 := by omega
                  simp (disch := first | omega | assumption) [a6, pS, pA, se, b7, b2, bl, bl2, alen, d8, c, m3, m4, m5]
                  simp only [errEq]
                  have hE : errT t = if (ofE (el t 3)).2 = 0 then (if (ofE (el t 4)).2 = 0 then (ofE (el t 5)).2 else (ofE (el t 4)).2) else (ofE (el t 3)).2 := rfl
                  rw [← hE]
                  simp (disch := first | omega | assumption) [E4.v, eidV]
                  by_cases eT : errT t = 0
                  · have hB := pOf_B ok hs eT
                    obtain ⟨_, rC⟩ := CheckP_run (pOf t) hB.ok []
                    rw [hP] at rC
                    simp (disch := first | omega | assumption) [eT, c]
                    rw [Xp_run (rO hs eT c) (by simp [anyh]) (by simp [hL]) (by simp)]
                    by_cases q1 : eO = 0
                    · by_cases q2 : j = asN (el t 2)
                      · rw [show getPV t j eO = chkPV t from by unfold getPV; rw [if_pos hs, if_pos eT, if_neg (fun k => k.2 ⟨q1, q2⟩)]]
                        simp (disch := first | omega | assumption) [q1, q2]
                        rw [Xp_run rC (by simp) rfl (by simp)]
                        unfold chkPV
                        rw [hP]
                        generalize chkP (pOf t) = CH at *
                        by_cases hc : CH = 0
                        · simp (disch := first | omega | assumption) [hc]
                        · simp (disch := first | omega | assumption) [hc, zP, PP.v]
                      · rw [show getPV t j eO = .tup [zP, .int .i64 7] from by unfold getPV; rw [if_pos hs, if_pos eT, if_pos ⟨c, fun k => q2 k.2⟩]]
                        simp (disch := first | omega | assumption) [q1, q2, zP, PP.v]
                    · rw [show getPV t j eO = .tup [zP, .int .i64 7] from by unfold getPV; rw [if_pos hs, if_pos eT, if_pos ⟨c, fun k => q1 k.1⟩]]
                      simp (disch := first | omega | assumption) [q1, zP, PP.v]
                  · rw [show getPV t j eO = .tup [zP, .int .i64 (errT t)] from by unfold getPV; rw [if_pos hs, if_neg eT]]
                    simp (disch := first | omega | assumption) [eT]
                    apply Xc_regf
                    simp (disch := first | omega | assumption)
                    simp (disch := first | omega | assumption) [flagsIn, flagP, evOp, zP, PP.v]
                · have hs : ¬ shpP t := fun k => bl (by have := k.2.2.2.2; rw [m8, if_pos (show 0 < kdT t from c)] at this; omega)
                  have bl2 : ¬ (asL t).length = 11 := by omega
                  rw [show getPV t j eO = .tup [zP, .int .i64 18] from if_neg hs]
                  simp (disch := first | omega | assumption) [a6, pS, pA, se, b7, b2, bl, bl2, alen, d8, c, zP, PP.v]
            · have hs : ¬ shpP t := fun k => b7 k.2.2.1
              rw [show getPV t j eO = .tup [zP, .int .i64 18] from if_neg hs]
              simp (disch := first | omega | assumption) [a6, pS, pA, se, b7, d8, c, zP, PP.v]
          · have hs : ¬ shpP t := fun k => se (stE1 k.2.1)
            rw [show getPV t j eO = .tup [zP, .int .i64 18] from if_neg hs]
            simp (disch := first | omega | assumption) [a6, pS, pA, se, d8, c, zP, PP.v]
        · have hs : ¬ shpP t := fun k => d8 (by have := k.1.2.2.2.2.2 c; rw [m8] at this; exact this)
          rw [show getPV t j eO = .tup [zP, .int .i64 18] from if_neg hs]
          simp (disch := first | omega | assumption) [a6, pS, pA, d8, c, zP, PP.v]
      · simp (disch := first | omega | assumption) [c]
        by_cases se : stE (el t 6) = 0
        · by_cases b7 : asN (el t 0) = 7
          · by_cases b2 : 2 < asN (el t 2)
            · have hs : ¬ shpP t := fun k => by have := k.2.2.2.1; unfold kdT at this; omega
              rw [show getPV t j eO = .tup [zP, .int .i64 18] from if_neg hs]
              simp (disch := first | omega | assumption) [a6, pS, pA, se, b7, b2, c, zP, PP.v]
            · by_cases bl : ((asL t).length : Int) = 10
              · have hs : shpP t := ⟨⟨q0, q1, q2, q7, fun _ => ⟨q8, q9⟩, fun k => absurd k c⟩, stE0 se, b7, by unfold kdT; omega, by rw [m8, if_neg (show ¬ 0 < kdT t from c)]; omega⟩
                have bl2 : (asL t).length = 10 := by omega
                simp (disch := first | omega | assumption) [a6, pS, pA, se, b7, b2, bl, bl2, alen, c, m3, m4, m5]
                simp only [errEq]
                have hE : errT t = if (ofE (el t 3)).2 = 0 then (if (ofE (el t 4)).2 = 0 then (ofE (el t 5)).2 else (ofE (el t 4)).2) else (ofE (el t 3)).2 := rfl
                rw [← hE]
                simp (disch := first | omega | assumption) [E4.v, eidV]
                by_cases eT : errT t = 0
                · have hB := pOf_B ok hs eT
                  obtain ⟨_, rC⟩ := CheckP_run (pOf t) hB.ok []
                  rw [hP] at rC
                  simp (disch := first | omega | assumption) [eT, c]
                  rw [show getPV t j eO = chkPV t from by unfold getPV; rw [if_pos hs, if_pos eT, if_neg (fun k => c k.1)]]
                  rw [Xp_run rC (by simp) rfl (by simp)]
                  unfold chkPV
                  rw [hP]
                  generalize chkP (pOf t) = CH at *
                  by_cases hc : CH = 0
                  · simp (disch := first | omega | assumption) [hc]
                  · simp (disch := first | omega | assumption) [hc, zP, PP.v]
                · rw [show getPV t j eO = .tup [zP, .int .i64 (errT t)] from by unfold getPV; rw [if_pos hs, if_neg eT]]
                  simp (disch := first | omega | assumption) [eT]
                  apply Xc_regf
                  simp (disch := first | omega | assumption)
                  simp (disch := first | omega | assumption) [flagsIn, flagP, evOp, zP, PP.v]
              · have hs : ¬ shpP t := fun k => bl (by have := k.2.2.2.2; rw [m8, if_neg (show ¬ 0 < kdT t from c)] at this; omega)
                have bl2 : ¬ (asL t).length = 10 := by omega
                rw [show getPV t j eO = .tup [zP, .int .i64 18] from if_neg hs]
                simp (disch := first | omega | assumption) [a6, pS, pA, se, b7, b2, bl, bl2, alen, c, zP, PP.v]
          · have hs : ¬ shpP t := fun k => b7 k.2.2.1
            rw [show getPV t j eO = .tup [zP, .int .i64 18] from if_neg hs]
            simp (disch := first | omega | assumption) [a6, pS, pA, se, b7, c, zP, PP.v]
        · have hs : ¬ shpP t := fun k => se (stE1 k.2.1)
          rw [show getPV t j eO = .tup [zP, .int .i64 18] from if_neg hs]
          simp (disch := first | omega | assumption) [a6, pS, pA, se, c, zP, PP.v]
/-- Lists whose values are the same, and their bytes. -/
def Sims (l m : List T6) : Prop := anys l = anys m ∧ encs l = encs m ∧ l.length = m.length
theorem Sims.nil : Sims [] [] := ⟨rfl, rfl, rfl⟩
theorem Sims.cons {a b : T6} {l m : List T6} (h : anyV a = anyV b ∧ enc a = enc b) (k : Sims l m) : Sims (a :: l) (b :: m) :=
  ⟨by simp only [anys, h.1, k.1], by simp only [encs, h.2, k.2.1], by simp only [List.length_cons, k.2.2]⟩
theorem Sims.node {t : T6} {m : List T6} (h4 : t.k = 4) (h : Sims t.l m) : anyV t = anyV (Ev.node m) ∧ enc t = enc (Ev.node m) := by
  have q := any_eql t h4
  exact ⟨q.1.trans (by rw [any_node, any_node, h.1]), q.2.trans (by rw [enc_node, enc_node, h.2.1, h.2.2])⟩
theorem list_els (t : T6) (h : t.k = 4) : t.l = (List.range t.l.length).map (el t) := by
  apply List.ext_getElem?
  intro i
  rw [List.getElem?_map]
  rcases Nat.lt_or_ge i t.l.length with c | c
  · rw [List.getElem?_range c, List.getElem?_eq_getElem c]
    simp [el, h, List.getElem?_eq_getElem c]
  · rw [List.getElem?_eq_none c, List.getElem?_eq_none (by simpa using c)]; rfl
theorem st_sim {x : T6} (h : stOk x) : anyV x = anyV (stT (st1 x) (st2 x)) ∧ enc x = enc (stT (st1 x) (st2 x)) := by
  have l2 := list_el2 x h.1 h.2.1
  have q := any_eql x h.1
  rw [l2] at q
  have n := node2 (any_eq _ h.2.2.1) (any_eq _ h.2.2.2)
  have e1 : st1 x = asN (el x 0) := if_pos h
  have e2 : st2 x = asN (el x 1) := if_pos h
  rw [e1, e2]
  exact ⟨q.1.trans n.1, q.2.trans n.2⟩
theorem shpP_k4 {t : T6} (h : shpP t) : t.k = 4 := by
  rcases Decidable.em (t.k = 4) with c | c
  · exact c
  · have := h.2.2.2.2
    simp [asL, c, mny8] at this
    split at this <;> split at this <;> simp at this
theorem err3 {t : T6} (e : errT t = 0) : (ofE (el t 3)).2 = 0 ∧ (ofE (el t 4)).2 = 0 ∧ (ofE (el t 5)).2 = 0 := by
  unfold errT at e
  by_cases a : (ofE (el t 3)).2 = 0
  · rw [if_pos a] at e
    by_cases b : (ofE (el t 4)).2 = 0
    · rw [if_pos b] at e; exact ⟨a, b, e⟩
    · rw [if_neg b] at e; exact absurd e b
  · rw [if_neg a] at e; exact absurd e a
/-- A value of a first block's shape is that block's, with what stands in the place of its sum. -/
theorem shpP_sim {t : T6} (ok : t.ok) (h : shpP t) (e : errT t = 0) : anyV t = anyV (node (primL (pOf t) ++ (if 0 < kdT t then [byt6 (asB (el t (mny8 t)))] else []))) ∧ enc t = enc (node (primL (pOf t) ++ (if 0 < kdT t then [byt6 (asB (el t (mny8 t)))] else []))) := by
  have k4 := shpP_k4 h
  obtain ⟨⟨d0, d1, d2, d7, d89, dm⟩, hst, h7, hk2, hl⟩ := h
  have eL : asL t = t.l := by simp [asL, k4]
  rw [eL] at hl
  have le := list_els t k4
  obtain ⟨e3, e4, e5⟩ := err3 e
  have q3 := (ofE_spec _ (el_ok t 3 ok) e3).2
  have q4 := (ofE_spec _ (el_ok t 4 ok) e4).2
  have q5 := (ofE_spec _ (el_ok t 5 ok) e5).2
  have q0 := any_eq _ d0
  rw [h7] at q0
  have q1 := any_eq _ d1
  have q2 := any_eq _ d2
  have q7 := any_eq _ d7
  have q6 := st_sim hst
  refine Sims.node k4 ?_
  unfold primL primL8
  have eF : fragB (pOf t).fl = fragT t := rfl
  rw [eF]
  cases hF : fragT t with
  | false =>
    have m8 : mny8 t = 8 := by unfold mny8; rw [hF]; rfl
    rw [m8] at hl dm ⊢
    by_cases c : 0 < kdT t
    · rw [if_pos c] at hl ⊢
      have l9 : t.l.length = 9 := by omega
      rw [l9] at le
      rw [show t.l = [el t 0, el t 1, el t 2, el t 3, el t 4, el t 5, el t 6, el t 7, el t 8] from le]
      exact .cons q0 (.cons q1 (.cons q2 (.cons q3 (.cons q4 (.cons q5 (.cons q6 (.cons q7 (.cons (any_eqb _ (dm c)) .nil))))))))
    · rw [if_neg c] at hl ⊢
      have l9 : t.l.length = 8 := by omega
      rw [l9] at le
      rw [show t.l = [el t 0, el t 1, el t 2, el t 3, el t 4, el t 5, el t 6, el t 7] from le]
      exact .cons q0 (.cons q1 (.cons q2 (.cons q3 (.cons q4 (.cons q5 (.cons q6 (.cons q7 .nil)))))))
  | true =>
    have m8 : mny8 t = 10 := by unfold mny8; rw [hF]; rfl
    rw [m8] at hl dm ⊢
    obtain ⟨d8, d9⟩ := d89 hF
    have q8 := any_eq _ d8
    have q9 := any_eq _ d9
    have eo : (pOf t).off = asN (el t 8) := by show (if fragT t then _ else _) = _; rw [hF]; rfl
    have et : (pOf t).tot = asN (el t 9) := by show (if fragT t then _ else _) = _; rw [hF]; rfl
    rw [eo, et]
    by_cases c : 0 < kdT t
    · rw [if_pos c] at hl ⊢
      have l9 : t.l.length = 11 := by omega
      rw [l9] at le
      rw [show t.l = [el t 0, el t 1, el t 2, el t 3, el t 4, el t 5, el t 6, el t 7, el t 8, el t 9, el t 10] from le]
      exact .cons q0 (.cons q1 (.cons q2 (.cons q3 (.cons q4 (.cons q5 (.cons q6 (.cons q7 (.cons q8 (.cons q9 (.cons (any_eqb _ (dm c)) .nil))))))))))
    · rw [if_neg c] at hl ⊢
      have l9 : t.l.length = 10 := by omega
      rw [l9] at le
      rw [show t.l = [el t 0, el t 1, el t 2, el t 3, el t 4, el t 5, el t 6, el t 7, el t 8, el t 9] from le]
      exact .cons q0 (.cons q1 (.cons q2 (.cons q3 (.cons q4 (.cons q5 (.cons q6 (.cons q7 (.cons q8 (.cons q9 .nil)))))))))
/-- What is answered at any value. -/
noncomputable def getPS (t : T6) : V := open Classical in
  if shpP t then (if errT t = 0 then (if enc t = enc (refL (primL (pOf t)) (kdT t).toNat) then chkPV t else .tup [zP, .int .i64 7]) else .tup [zP, .int .i64 (errT t)]) else .tup [zP, .int .i64 18]
theorem GetPS_run (t : T6) (hw : t.w ≤ 1048576) (ok : t.ok) : ∃ h', Run T f_primary_Get [anyV t] [] (getPS t) h' := by
  by_cases c : shpP t ∧ errT t = 0 ∧ 0 < kdT t
  · obtain ⟨hs, he, hp⟩ := c
    have gl := prim_good (pOf_B ok hs he)
    have k2 := hs.2.2.2.1
    obtain ⟨k, hk⟩ := Int.eq_ofNat_of_zero_le (show 0 ≤ kdT t by omega)
    obtain ⟨ea, ee⟩ := shpP_sim ok hs he
    rw [if_pos hp] at ea ee
    have b5 := asB_le (el t (mny8 t))
    have := el_le t (mny8 t)
    have gw := gl.w
    obtain ⟨L, j, e, h', r, r1, r2⟩ := OpenG_run (primL (pOf t)) (asB (el t (mny8 t))) [] gl (by
      have : T6.ws (primL (pOf t)) ≤ 1000 := (prim_small (pOf_B ok hs he)).w
      simp only [T6.w, ws_app, T6.ws, List.length_nil]
      omega) (by omega) k (by omega)
    rw [any_node] at ea
    rw [← ea] at r
    obtain ⟨hG, rG⟩ := GetPG_run t hw ok L j e h' r1 (fun _ _ _ => r)
    refine ⟨hG, ?_⟩
    have eq : getPS t = getPV t j e := by
      unfold getPS getPV
      rw [if_pos hs, if_pos hs, if_pos he, if_pos he]
      have er := encRefL (primL (pOf t)) k (by omega)
      rw [er, ← ee] at r2
      have ek : (kdT t).toNat = k := by omega
      rw [ek]
      by_cases q : e = 0 ∧ j = kdT t
      · rw [if_pos (r2.1 ⟨q.1, by rw [q.2]; exact hk⟩).symm, if_neg (fun k => k.2 q)]
      · rw [if_neg (fun z => q (by have := r2.2 z.symm; exact ⟨this.1, by rw [this.2]; exact hk.symm⟩)), if_pos ⟨hp, q⟩]
    rw [eq]
    exact rG
  · obtain ⟨hG, rG⟩ := GetPG_run t hw ok [] 0 0 [] rfl (fun h1 h2 h3 => absurd ⟨h1, h2, h3⟩ c)
    refine ⟨hG, ?_⟩
    have eq : getPS t = getPV t 0 0 := by
      unfold getPS getPV
      by_cases hs : shpP t
      · rw [if_pos hs, if_pos hs]
        by_cases he : errT t = 0
        · rw [if_pos he, if_pos he]
          have hp : ¬ 0 < kdT t := fun k => c ⟨hs, he, k⟩
          have k0 : (kdT t).toNat = 0 := by omega
          have ee := (shpP_sim ok hs he).2
          rw [if_neg hp, List.append_nil] at ee
          rw [if_pos (show enc t = enc (refL (primL (pOf t)) (kdT t).toNat) from by rw [k0, ee]; unfold refL; rw [if_pos rfl]), if_neg (fun k : 0 < kdT t ∧ ¬ ((0 : Int) = 0 ∧ (0 : Int) = kdT t) => hp k.1)]
        · rw [if_neg he, if_neg he]
      · rw [if_neg hs, if_neg hs]
    rw [eq]
    exact rG
theorem getPS_shape (t : T6) : ∃ p e, getPS t = .tup [PP.v p, .int .i64 e] := by
  unfold getPS chkPV zP
  (repeat' split) <;> exact ⟨_, _, rfl⟩
theorem awake10 : ∃ h', Run T f_law10_awake [] [] (.bool true) h' := Run.closed (n := 100) (by kernel_rfl)
section
variable {ks : List Kt} {ops : List AOpr} {K : Kp} {e : Env} {h : Heap} {Q : Ex → Env → Heap → Prop} {d : Nat} {lent : Bool}
theorem awake10_p : Xp T f_law10_awake (some ([], lent)) h (some d) ops K ks e Q = Xo T ops K ks ((d, .bool true) :: e) h Q := by
  obtain ⟨h', r⟩ := awake10
  exact Xp_run r (by simp) rfl (by simp [scalar])
end
theorem ofE_eid {e : E4} (h : e.B) : ofE (eidT e.sc e.nm e.nd e.sv) = (e, 0) := by
  obtain ⟨sc, nm, nd, sv⟩ := e
  rcases rightE_cases h.r with ⟨e1, e2⟩ | ⟨e1, e2, e3, e4⟩
  · have e1 : sc = 2 := e1
    have e2 : nm = [] := e2
    subst e1 e2
    rfl
  · have e1 : sc = 1 := e1
    have e2 : nd = 0 := e2
    have e3 : sv = 0 := e3
    have e4 : nm = [] ∨ namedS nm = true := e4
    subst e1 e2 e3
    by_cases hz : nm = []
    · subst hz; rfl
    · have hr : rightE 1 nm 0 0 = true := h.r
      have e5 : eidT 1 nm 0 0 = node [num6 1, txt6 nm] := by unfold eidT; rw [if_neg (by omega), if_neg hz]
      show ofE (eidT 1 nm 0 0) = _
      rw [e5]
      have c1 : (node [num6 1, txt6 nm]).k = 4 ∧ (node [num6 1, txt6 nm]).l.length = 2 ∧ (el (node [num6 1, txt6 nm]) 0).k = 0 := ⟨rfl, rfl, rfl⟩
      have c2 : el (node [num6 1, txt6 nm]) 0 = num6 1 := rfl
      have c3 : el (node [num6 1, txt6 nm]) 1 = txt6 nm := rfl
      unfold ofE
      rw [if_pos c1, c2, c3, if_neg (fun k => absurd (show (3 : Int) = 0 from k.2) (by decide)), if_pos ⟨rfl, rfl⟩, if_pos ⟨hz, hr⟩]
      rfl
theorem refL_l (l : List T6) (k : Nat) : ∃ S, refL l k = node (l ++ (if k = 0 then [] else [byt6 S])) := by
  unfold refL
  by_cases c : k = 0
  · exact ⟨[], by rw [if_pos c, if_pos c, List.append_nil]⟩
  · exact ⟨_, by rw [if_neg c, if_neg c]⟩
theorem st_stT (a b : Int) : stOk (stT a b) ∧ st1 (stT a b) = a ∧ st2 (stT a b) = b := ⟨⟨rfl, rfl, rfl, rfl⟩, rfl, rfl⟩
theorem chk_frag {p : PP} (h : chkP p = 0) (hF : fragB p.fl = false) : p.off = 0 ∧ p.tot = 0 := by
  unfold chkP at h
  split at h
  · cases h
  · split at h
    · cases h
    · rename_i c
      exact ⟨Decidable.not_not.1 (fun k => c (.inr ⟨hF, .inl k⟩)), Decidable.not_not.1 (fun k => c (.inr ⟨hF, .inr k⟩))⟩
theorem get_ref (p : PP) (b : PPB p) (hc : chkP p = 0) : getPS (refL (primL p) p.crc.toNat) = .tup [p.v, .int .i64 0] := by
  obtain ⟨k, hk⟩ := Int.eq_ofNat_of_zero_le b.c0
  have c2 := b.c2
  have ek : p.crc.toNat = k := by omega
  rw [ek]
  obtain ⟨S, hS⟩ := refL_l (primL p) k
  have o1 := ofE_eid b.d
  have o2 := ofE_eid b.s
  have o3 := ofE_eid b.r
  obtain ⟨t1, t2, t3⟩ := st_stT p.st p.sq
  have main : ∀ t : T6, t = node (primL p ++ (if k = 0 then [] else [byt6 S])) → shpP t ∧ errT t = 0 ∧ pOf t = p ∧ kdT t = k := by
    intro t ht
    have e0 : el t 0 = num6 7 := by rw [ht]; rfl
    have e1 : el t 1 = num6 p.fl := by rw [ht]; rfl
    have e2 : el t 2 = num6 p.crc := by rw [ht]; rfl
    have e3 : el t 3 = eidT p.d.sc p.d.nm p.d.nd p.d.sv := by rw [ht]; rfl
    have e4 : el t 4 = eidT p.s.sc p.s.nm p.s.nd p.s.sv := by rw [ht]; rfl
    have e5 : el t 5 = eidT p.r.sc p.r.nm p.r.nd p.r.sv := by rw [ht]; rfl
    have e6 : el t 6 = stT p.st p.sq := by rw [ht]; rfl
    have e7 : el t 7 = num6 p.life := by rw [ht]; rfl
    have ekd : kdT t = k := by unfold kdT; rw [e2]; exact hk
    have efr : fragT t = fragB p.fl := by unfold fragT; rw [e1]; rfl
    have k4 : t.k = 4 := by rw [ht]; rfl
    have al : (asL t).length = (primL p).length + (if k = 0 then 0 else 1) := by
      rw [show asL t = t.l from by simp [asL, k4], ht]
      show (primL p ++ _).length = _
      rw [List.length_append]
      split <;> rfl
    have ee : errT t = 0 := by unfold errT; rw [e3, e4, e5, o1, o2, o3]; rfl
    cases hF : fragB p.fl with
    | false =>
      rw [hF] at efr
      have m8 : mny8 t = 8 := by unfold mny8; rw [efr]; rfl
      have pl : primL p = primL8 p := by unfold primL; rw [hF]; simp
      obtain ⟨z1, z2⟩ := chk_frag hc hF
      refine ⟨⟨⟨by rw [e0]; rfl, by rw [e1]; rfl, by rw [e2]; rfl, by rw [e7]; rfl, fun q => (by rw [efr] at q; cases q), fun q => ?_⟩, by rw [e6]; exact t1, by rw [e0]; rfl, by omega, ?_⟩, ee, ?_, ekd⟩
      · rw [m8, ht, pl, if_neg (by omega)]; rfl
      · rw [al, pl, m8, ekd]
        have : (primL8 p).length = 8 := rfl
        by_cases q : k = 0
        · rw [if_pos q, if_neg (by omega)]; omega
        · rw [if_neg q, if_pos (by omega)]; omega
      · unfold pOf
        rw [efr, ekd, e1, e3, e4, e5, e6, e7, o1, o2, o3, t2, t3, ← hk]
        obtain ⟨fl, crc, d, s, r, st, sq, life, off, tot⟩ := p
        have z1 : off = 0 := z1
        have z2 : tot = 0 := z2
        subst z1 z2
        rfl
    | true =>
      rw [hF] at efr
      have m8 : mny8 t = 10 := by unfold mny8; rw [efr]; rfl
      have pl : primL p = primL8 p ++ [num6 p.off, num6 p.tot] := by unfold primL; rw [hF]; simp
      have e8 : el t 8 = num6 p.off := by rw [ht, pl]; rfl
      have e9 : el t 9 = num6 p.tot := by rw [ht, pl]; rfl
      refine ⟨⟨⟨by rw [e0]; rfl, by rw [e1]; rfl, by rw [e2]; rfl, by rw [e7]; rfl, fun _ => ⟨by rw [e8]; rfl, by rw [e9]; rfl⟩, fun q => ?_⟩, by rw [e6]; exact t1, by rw [e0]; rfl, by omega, ?_⟩, ee, ?_, ekd⟩
      · rw [m8, ht, pl, if_neg (by omega)]; rfl
      · rw [al, pl, m8, ekd]
        have : (primL8 p ++ [num6 p.off, num6 p.tot]).length = 10 := rfl
        by_cases q : k = 0
        · rw [if_pos q, if_neg (by omega)]; omega
        · rw [if_neg q, if_pos (by omega)]; omega
      · unfold pOf
        rw [efr, ekd, e1, e3, e4, e5, e6, e7, e8, e9, o1, o2, o3, t2, t3, ← hk]
        rfl
  obtain ⟨m1, m2, m3, m4⟩ := main _ hS
  unfold getPS
  rw [if_pos m1, if_pos m2, m3, m4]
  rw [if_pos (show enc (refL (primL p) k) = enc (refL (primL p) ((k : Int)).toNat) from by rw [Int.toNat_natCast])]
  unfold chkPV
  rw [m3, if_pos hc]
/-- What a parameter's numbers are. -/
structure PPin (p : PP) : Prop where
  fl : u64B p.fl
  d1 : u64B p.d.nd
  d2 : u64B p.d.sv
  s1 : u64B p.s.nd
  s2 : u64B p.s.sv
  r1 : u64B p.r.nd
  r2 : u64B p.r.sv
  st : u64B p.st
  sq : u64B p.sq
  life : u64B p.life
  off : u64B p.off
  tot : u64B p.tot
  n1 : p.d.nm.length ≤ 140737488351232
  n2 : p.s.nm.length ≤ 140737488351232
  n3 : p.r.nm.length ≤ 140737488351232
theorem PPin.ok {p : PP} (h : PPin p) : PPok p := ⟨h.fl.1, h.fl.2, h.off.1, h.tot.1, h.n1, h.n2, h.n3⟩
theorem PPin.B {p : PP} (h : PPin p) (hc : chkP p = 0) : PPB p := by
  obtain ⟨c0, c2, h1, h2, h3⟩ := chk0_spec hc
  exact ⟨h.fl, c0, c2, ⟨h.d1, h.d2, h1⟩, ⟨h.s1, h.s2, h2⟩, ⟨h.r1, h.r2, h3⟩, h.st, h.sq, h.life, h.off, h.tot⟩
theorem PutsP_run (p : PP) (hi : PPin p) : ∃ h', Run T f_law10_PrimaryPuts [p.v] [] (.bool true) h' := by
  have n1 := hi.n1
  have n2 := hi.n2
  have n3 := hi.n3
  refine Run.startE t_law10_PrimaryPuts ?_
  unfold k_law10_PrimaryPuts PP.v
  by_cases g1 : 100 < p.d.nm.length
  · have g1' : (100 : Int) < p.d.nm.length := by omega
    simp (disch := omega) [g1, g1', awake10_p]
  have g1' : ¬ (100 : Int) < p.d.nm.length := by omega
  by_cases g2 : 100 < p.s.nm.length
  · have g2' : (100 : Int) < p.s.nm.length := by omega
    simp (disch := omega) [g1, g1', g2, g2', awake10_p]
  have g2' : ¬ (100 : Int) < p.s.nm.length := by omega
  by_cases g3 : 100 < p.r.nm.length
  · have g3' : (100 : Int) < p.r.nm.length := by omega
    simp (disch := omega) [g1, g1', g2, g2', g3, g3', awake10_p]
  have g3' : ¬ (100 : Int) < p.r.nm.length := by omega
  simp (disch := omega) [g1, g1', g2, g2', g3, g3']
  simp only [pp_fold, pp_eta]
  obtain ⟨_, rC⟩ := CheckP_run p hi.ok []
  obtain ⟨_, rR⟩ := CheckR_run p hi.ok []
  by_cases hc : chkP p = 0
  · have hB := hi.B hc
    have gl := prim_good hB
    have c0 := hB.c0
    have c2 := hB.c2
    obtain ⟨k, hk⟩ := Int.eq_ofNat_of_zero_le c0
    have ek : p.crc.toNat = k := by omega
    obtain ⟨_, rP⟩ := PutP_run p hi.ok hc gl
    have gt := refL_good gl (show p.crc.toNat ≤ 2 by omega)
    obtain ⟨_, rW⟩ := Whole_run _ gt.w gt.ok gt.r gt.d gt.c
    obtain ⟨_, h1, h2, h3⟩ := (chk0_spec hc).2
    obtain ⟨_, rV⟩ := R10Value_run p hi.ok k hk (by omega) h1 h2 h3 gl
    rw [← ek] at rV
    obtain ⟨_, r6⟩ := R6Put_run _ _ (Nat.le_refl _) gt.w gt.ok gt.r
    have tw : (refL (primL p) p.crc.toNat).w ≤ 1048576 := by
      have := (prim_small hB).w
      obtain ⟨S, hS⟩ := refL_l (primL p) p.crc.toNat
      have sl := sumB_len p.crc.toNat (enc (node (primL p ++ [byt6 (List.replicate (widthN p.crc.toNat) 0)])))
      have wl := widthN_le p.crc.toNat
      unfold refL
      split
      · simp only [T6.w, List.length_nil]; omega
      · simp only [T6.w, ws_app, T6.ws, List.length_nil]; omega
    obtain ⟨_, rG⟩ := GetPS_run _ tw gt.ok
    rw [get_ref p hB hc] at rG
    rw [hc] at rC rR
    have ah := anyV_hf (refL (primL p) p.crc.toNat)
    have vh := T6.v_hf (refL (primL p) p.crc.toNat)
    have gw := gt.w
    have el := enc_len (refL (primL p) p.crc.toNat)
    generalize refL (primL p) p.crc.toNat = t at *
    generalize enc t = E at *
    rw [Xp_run rP (by simp [PP.hf]) (by simp [bys_hfs]) (by simp)]
    simp (disch := omega)
    simp only [pp_fold, pp_eta]
    rw [Xp_run rR (by simp [PP.hf]) rfl (by simp)]
    simp (disch := omega)
    simp only [pp_fold, pp_eta]
    rw [Xp_run rC (by simp [PP.hf]) rfl (by simp)]
    simp (disch := omega)
    rw [Xp_run rW (by simp [bys_hfs]) (by simp [ah]) (by simp)]
    simp (disch := omega)
    rw [Xp_run rG (by simp [ah]) (by simp [PP.hf]) (by simp)]
    simp (disch := omega) [awake10_p, PP.v, bys_back]
    simp only [pp_fold, pp_eta]
    rw [Xp_run rV (by simp [PP.hf]) vh (by simp)]
    simp (disch := omega)
    rw [Xp_run r6 (by simp [vh]) (by simp [bys_hfs]) (by simp)]
    simp (disch := omega) [bys_back]
  · obtain ⟨_, rP⟩ := PutE_run p hi.ok hc []
    generalize chkP p = z at *
    rw [Xp_run rP (by simp [PP.hf]) (by simp) (by simp)]
    simp (disch := omega)
    simp only [pp_fold, pp_eta]
    rw [Xp_run rR (by simp [PP.hf]) rfl (by simp)]
    simp (disch := omega)
    simp only [pp_fold, pp_eta]
    rw [Xp_run rC (by simp [PP.hf]) rfl (by simp)]
    simp (disch := omega) [hc, awake10_p]
abbrev sh10 : List CS := [.i .u64, .i .i64, .i .i64, .s, .i .u64, .i .u64, .i .i64, .s, .i .u64, .i .u64, .i .i64, .s, .i .u64, .i .u64, .i .u64, .i .u64, .i .u64, .i .u64, .i .u64]
theorem readPP (vs : List V) (hr : Row sh10 vs) : ∃ p : PP, V.agg vs = p.v ∧ PPin p := by
  obtain ⟨v0, r0, rfl, t0, hr⟩ := hr.cons
  obtain ⟨v1, r1, rfl, t1, hr⟩ := hr.cons
  obtain ⟨v2, r2, rfl, t2, hr⟩ := hr.cons
  obtain ⟨v3, r3, rfl, t3, hr⟩ := hr.cons
  obtain ⟨v4, r4, rfl, t4, hr⟩ := hr.cons
  obtain ⟨v5, r5, rfl, t5, hr⟩ := hr.cons
  obtain ⟨v6, r6, rfl, t6, hr⟩ := hr.cons
  obtain ⟨v7, r7, rfl, t7, hr⟩ := hr.cons
  obtain ⟨v8, r8, rfl, t8, hr⟩ := hr.cons
  obtain ⟨v9, r9, rfl, t9, hr⟩ := hr.cons
  obtain ⟨v10, r10, rfl, t10, hr⟩ := hr.cons
  obtain ⟨v11, r11, rfl, t11, hr⟩ := hr.cons
  obtain ⟨v12, r12, rfl, t12, hr⟩ := hr.cons
  obtain ⟨v13, r13, rfl, t13, hr⟩ := hr.cons
  obtain ⟨v14, r14, rfl, t14, hr⟩ := hr.cons
  obtain ⟨v15, r15, rfl, t15, hr⟩ := hr.cons
  obtain ⟨v16, r16, rfl, t16, hr⟩ := hr.cons
  obtain ⟨v17, r17, rfl, t17, hr⟩ := hr.cons
  obtain ⟨v18, r18, rfl, t18, hr⟩ := hr.cons
  obtain rfl := hr.none
  obtain ⟨x0, rfl, a0, b0⟩ := t0.int
  obtain ⟨x1, rfl, a1, b1⟩ := t1.int
  obtain ⟨x2, rfl, a2, b2⟩ := t2.int
  obtain ⟨x3, rfl, a3⟩ := t3.str
  obtain ⟨x4, rfl, a4, b4⟩ := t4.int
  obtain ⟨x5, rfl, a5, b5⟩ := t5.int
  obtain ⟨x6, rfl, a6, b6⟩ := t6.int
  obtain ⟨x7, rfl, a7⟩ := t7.str
  obtain ⟨x8, rfl, a8, b8⟩ := t8.int
  obtain ⟨x9, rfl, a9, b9⟩ := t9.int
  obtain ⟨x10, rfl, a10, b10⟩ := t10.int
  obtain ⟨x11, rfl, a11⟩ := t11.str
  obtain ⟨x12, rfl, a12, b12⟩ := t12.int
  obtain ⟨x13, rfl, a13, b13⟩ := t13.int
  obtain ⟨x14, rfl, a14, b14⟩ := t14.int
  obtain ⟨x15, rfl, a15, b15⟩ := t15.int
  obtain ⟨x16, rfl, a16, b16⟩ := t16.int
  obtain ⟨x17, rfl, a17, b17⟩ := t17.int
  obtain ⟨x18, rfl, a18, b18⟩ := t18.int
  exact ⟨⟨x0, x1, ⟨x2, x3, x4, x5⟩, ⟨x6, x7, x8, x9⟩, ⟨x10, x11, x12, x13⟩, x14, x15, x16, x17, x18⟩, rfl, ⟨⟨a0, b0⟩, ⟨a4, b4⟩, ⟨a5, b5⟩, ⟨a8, b8⟩, ⟨a9, b9⟩, ⟨a12, b12⟩, ⟨a13, b13⟩, ⟨a14, b14⟩, ⟨a15, b15⟩, ⟨a16, b16⟩, ⟨a17, b17⟩, ⟨a18, b18⟩, a3, a7, a11⟩⟩
theorem law_PrimaryPuts (x : V) (hx : ∃ vs, x = .agg vs ∧ Row sh10 vs) : ∃ h', Run T f_law10_PrimaryPuts [x] [] (.bool true) h' := by
  obtain ⟨vs, rfl, hr⟩ := hx
  obtain ⟨p, e, hi⟩ := readPP vs hr
  rw [e]
  exact PutsP_run p hi
end Ev
