/- Values as the reference has them: trees of kinds, numbers, letters and parts. Values as the document's types, and taken as types. The bytes of a value. The bytes of a value that may be too deep; values taken as types. Lists with their sums. Blocks laid, opened and read. The reference's blocks: what is wrong, and lists with their sums. Blocks of any value. Endpoint names: which are right. First blocks: what is wrong with them. First blocks: the reference's check. First blocks laid. First blocks: values that can be laid; those that have a first block's shape. First blocks read. First blocks read: what the sum says. The law PrimaryPuts: the bytes of any first block, or what is wrong; read it is that block. Bundles: their cells; whether they are light. Bundles: numbers that are unlike; what is wrong with a bundle. Bundles: what is wrong with one, told by the program. Bundles: what is wrong with one, as the document says. Bundles: the program and the document tell the same. Bundles: the same ones are told to be the same; a block added. Bundles: the least number that no block has; a block added. A block added to a bundle. The law BundleAdds: a bundle and a block, read out of what is handed over. Each theorem states its own conditions. -/
import Derived.Test.YtienkohkbihdoaaHCode
import Derived.Test.YtienkohkbihdoaaHUt2
import Derived.Test.YtienkohkbihdoaaHBy
import Derived.KernelRfl
set_option linter.all false
namespace Ev
open Go
set_option maxRecDepth 10000
attribute [-simp] getElem?_pos getElem?_neg List.drop_one
inductive T6 where
  | mk (k n : Int) (s : List UInt8) (l : List T6)
namespace T6
def k : T6 → Int | .mk k _ _ _ => k
def n : T6 → Int | .mk _ n _ _ => n
def s : T6 → List UInt8 | .mk _ _ s _ => s
def l : T6 → List T6 | .mk _ _ _ l => l
mutual
def v : T6 → V
  | .mk k n s l => .agg [.int .i64 k, .int .u64 n, .str s, .ps 4 (vs l)]
def vs : List T6 → List V
  | [] => []
  | x :: r => v x :: vs r
end
mutual
/-- How many values there are, and letters. -/
def w : T6 → Nat
  | .mk _ _ s l => 1 + s.length + ws l
def ws : List T6 → Nat
  | [] => 0
  | x :: r => w x + ws r
end
mutual
def ok : T6 → Prop
  | .mk k n s l => (-9223372036854775808 ≤ k ∧ k ≤ 9223372036854775807) ∧ (0 ≤ n ∧ n ≤ 18446744073709551615) ∧ s.length ≤ 140737488351232 ∧ oks l
def oks : List T6 → Prop
  | [] => True
  | x :: r => ok x ∧ oks r
end
end T6
mutual
def dp : T6 → Int
  | .mk k _ _ l => if k = 4 then dps l else 0
def dps : List T6 → Int
  | [] => 0
  | x :: r => max (dp x + 1) (dps r)
end
mutual
def cnt : T6 → Nat
  | .mk k _ _ l => if k = 4 then 1 + cnts l else 1
def cnts : List T6 → Nat
  | [] => 0
  | x :: r => cnt x + cnts r
end
mutual
theorem dp_le : ∀ t : T6, 0 ≤ dp t ∧ dp t + 1 ≤ t.w
  | .mk k n s l => by
    have := dps_le l
    unfold dp T6.w
    split <;> omega
theorem dps_le : ∀ l : List T6, 0 ≤ dps l ∧ dps l ≤ T6.ws l
  | [] => by simp [dps, T6.ws]
  | x :: r => by
    have := dp_le x
    have := dps_le r
    simp only [dps, T6.ws]
    omega
end
mutual
/-- Are its texts right, and its kinds ones that there are? -/
def rgt : T6 → Bool
  | .mk k _ s l => decide (0 ≤ k) && decide (k ≤ 7) && (decide (k ≠ 3) || valid s) && (decide (k ≠ 4) || rgts l)
def rgts : List T6 → Bool
  | [] => true
  | x :: r => rgt x && rgts r
end
@[simp] theorem ta_eq (t : Nat) (z v : V) : taV t z true (.iface t v) = some (.tup [v, .bool true]) := by simp [taV]
@[simp] theorem ta_ne (t t' : Nat) (z v : V) (h : t' ≠ t) : taV t z true (.iface t' v) = some (.tup [z, .bool false]) := by simp [taV, h]
@[simp] theorem ta_nil (t : Nat) (z : V) : taV t z true .nili = some (.tup [z, .bool false]) := by simp [taV]
@[simp] theorem ta_f (t : Nat) (z v : V) : taV t z false (.iface t v) = some v := by simp [taV]
mutual
def anyV : T6 → V
  | .mk k n s l => if k = 0 then .iface 22 (.int .u64 n) else if k = 1 then .iface 90 (.int .u64 n) else if k = 2 then .iface 31 (.ps 1 (bys s)) else if k = 3 then .iface 9 (.str s) else
    if k = 4 then .iface 36 (.ps 1 (anys l)) else if k = 5 then .iface 4 (.bool false) else if k = 6 then .iface 4 (.bool true) else .nili
def anys : List T6 → List V
  | [] => []
  | x :: r => anyV x :: anys r
end
mutual
/-- The bytes of a value. -/
def enc : T6 → List UInt8
  | .mk k n s l => if k = 0 then hdB 0 n.toNat else if k = 1 then hdB 1 n.toNat else if k = 2 then hdB 2 s.length ++ s else if k = 3 then hdB 3 s.length ++ s else
    if k = 4 then hdB 4 l.length ++ encs l else if k = 5 then hdB 7 20 else if k = 6 then hdB 7 21 else hdB 7 22
def encs : List T6 → List UInt8
  | [] => []
  | x :: r => enc x ++ encs r
end
/-- What laying a value comes to: bytes, an error, a count. -/
def LayP (h : Heap) (lo hi len : Nat) (v : V) (h' : Heap) : Prop := ∃ (b : List UInt8) (er : Int) (c : Nat), v = .tup [.ps 1 (bys b), .int .i64 er] ∧ h' = h ++ [some [.int .i64 (c : Int)]] ∧ lo ≤ c ∧ c ≤ hi ∧ b.length ≤ len
theorem LayP.of {h : Heap} {lo hi len : Nat} (b : List UInt8) (er : Int) (c : Nat) (h1 : lo ≤ c) (h2 : c ≤ hi) (h3 : b.length ≤ len) : LayP h lo hi len (.tup [.ps 1 (bys b), .int .i64 er]) (h ++ [some [.int .i64 (c : Int)]]) := ⟨b, er, c, rfl, rfl, h1, h2, h3⟩
theorem LayP.nil {h : Heap} {lo hi len : Nat} (er : Int) (c : Nat) (h1 : lo ≤ c) (h2 : c ≤ hi) : LayP h lo hi len (.tup [.ps 1 [], .int .i64 er]) (h ++ [some [.int .i64 (c : Int)]]) := ⟨[], er, c, rfl, rfl, h1, h2, by simp⟩
theorem ws_app : ∀ (a b : List T6), T6.ws (a ++ b) = T6.ws a + T6.ws b
  | [], b => by simp [T6.ws]
  | x :: r, b => by simp only [List.cons_append, T6.ws, ws_app r b]; omega
theorem cnts_app : ∀ (a b : List T6), cnts (a ++ b) = cnts a + cnts b
  | [], b => by simp [cnts]
  | x :: r, b => by simp only [List.cons_append, cnts, cnts_app r b]; omega
theorem dps_app : ∀ (a b : List T6), dps (a ++ b) = max (dps a) (dps b)
  | [], b => by have := (dps_le b).1; simp [dps]; omega
  | x :: r, b => by simp only [List.cons_append, dps, dps_app r b]; omega
theorem oks_app : ∀ (a b : List T6), T6.oks (a ++ b) ↔ T6.oks a ∧ T6.oks b
  | [], b => by simp [T6.oks]
  | x :: r, b => by simp only [List.cons_append, T6.oks, oks_app r b, and_assoc]
theorem rgts_app : ∀ (a b : List T6), rgts (a ++ b) = (rgts a && rgts b)
  | [], b => by simp [rgts]
  | x :: r, b => by simp only [List.cons_append, rgts, rgts_app r b, Bool.and_assoc]
section
variable {ks : List Kt} {ops : List AOpr} {K : Kp} {e : Env} {h : Heap} {Q : Ex → Env → Heap → Prop} {d : Nat}
end
def blkV (ty nu fl k : Int) (s : List UInt8) : V := .agg [.int .u64 ty, .int .u64 nu, .int .u64 fl, .int .i64 k, .str s]
def chkS (nu k : Int) (s : List UInt8) : Int := if nu = 0 ∨ k < 0 ∨ 2 < k then 2 else if 65536 < s.length then 4 else 0
theorem Check_run (ty nu fl k : Int) (s : List UInt8) (h : Heap) : ∃ h', Run T f_block_Check [blkV ty nu fl k s] h (.int .i64 (chkS nu k s)) h' := by
  refine Run.startE t_block_Check ?_
  unfold k_block_Check blkV chkS
  by_cases c1 : nu = 0
  · simp (disch := omega) [c1]
  · by_cases c2 : k < 0
    · simp (disch := omega) [c1, c2]
    · by_cases c3 : 2 < k
      · simp (disch := omega) [c1, c2, c3]
      · by_cases c4 : 65536 < s.length
        · have c5 : (65536 : Int) < s.length := by omega
          simp (disch := omega) [c1, c2, c3, c4, c5]
        · have c5 : ¬ ((65536 : Int) < s.length) := by omega
          simp (disch := omega) [c1, c2, c3, c4, c5]
section
variable {ks : List Kt} {ops : List AOpr} {K : Kp} {e : Env} {h : Heap} {Q : Ex → Env → Heap → Prop} {d : Nat}
end
theorem R9Check_run (ty nu fl k : Int) (s : List UInt8) (h : Heap) : ∃ h', Run T f_ref09_Check [blkV ty nu fl k s] h (.int .i64 (chkS nu k s)) h' := by
  refine Run.startE t_ref09_Check ?_
  unfold k_ref09_Check blkV chkS
  by_cases c1 : nu = 0
  · simp (disch := omega) [c1]
  · by_cases c2 : k < 0
    · simp (disch := omega) [c1, c2]
    · by_cases c3 : 2 < k
      · simp (disch := omega) [c1, c2, c3]
      · by_cases c4 : 65536 < s.length
        · have c5 : (65536 : Int) < s.length := by omega
          simp (disch := omega) [c1, c2, c3, c4, c5]
        · have c5 : ¬ ((65536 : Int) < s.length) := by omega
          simp (disch := omega) [c1, c2, c3, c4, c5]
abbrev nil6 : T6 := .mk 7 0 [] []
/-- The value at a place, nil where there is none. -/
def el (t : T6) (i : Nat) : T6 := if t.k = 4 then (t.l[i]?).getD nil6 else nil6
theorem nxt_at (h : Heap) (b : Nat) (s : List UInt8) (p : Nat) (hr : h.row b = some [.str s, .int .i64 p]) :
    nxtV h (.itr b) = if p < s.length then some (.tup [.bool true, .int .i64 p, .int .i32 (Utf8.decode ⟨s.toArray⟩ p).1], h.set b (some [.str s, .int .i64 ((p + (Utf8.decode ⟨s.toArray⟩ p).2 : Nat) : Int)])) else some (.tup [.bool false], h) := by
  have e0 : ((p : Int)).toNat = p := by omega
  have e1 : ¬ ((p : Int) < 0) := by omega
  unfold nxtV
  simp only [hr, Option.bind_some, if_neg e1, e0]
theorem get_b (s : List UInt8) (p : Nat) (h : p < s.length) : ((⟨s.toArray⟩ : ByteArray).get! p) = s[p] := by
  simp [ByteArray.get!, h]
theorem dec_ascii (s : List UInt8) (p : Nat) (h : p < s.length) (hb : s[p].toNat < 128) : Utf8.decode ⟨s.toArray⟩ p = (s[p].toNat, 1) := by
  unfold Utf8.decode
  simp only [Nat.add_zero, get_b s p h]
  rw [if_pos hb]
theorem dec_big (s : List UInt8) (p : Nat) (h : p < s.length) (hb : 128 ≤ s[p].toNat) : 128 ≤ (Utf8.decode ⟨s.toArray⟩ p).1 := by
  unfold Utf8.decode
  simp only [Nat.add_zero, get_b s p h, Utf8.runeError]
  rw [if_neg (by omega)]
  (repeat' split) <;> simp_all <;> omega
def plainB (b : UInt8) : Bool := decide (33 ≤ b.toNat) && decide (b.toNat ≤ 126)
def plainS (s : List UInt8) : Bool := s.all plainB
theorem runesplain_run (c : Int) (h : Heap) : Run T f_runes_plain [.int .i32 c] h (.bool (decide (32 < c) && decide (c ≤ 126))) h := by
  refine Run.start t_runes_plain ?_
  unfold k_runes_plain
  by_cases c1 : 32 < c
  · by_cases c2 : c ≤ 126
    · simp (disch := omega) [c1, c2]
    · simp (disch := omega) [c1, c2]
  · simp (disch := omega) [c1]
section
variable {ks : List Kt} {ops : List AOpr} {K : Kp} {e : Env} {h : Heap} {Q : Ex → Env → Heap → Prop} {d : Nat}
theorem runesplain_p (c : Int) : Xp T f_runes_plain (some ([.int .i32 c], false)) h (some d) ops K ks e Q = Xo T ops K ks ((d, .bool (decide (32 < c) && decide (c ≤ 126))) :: e) h Q :=
  Xp_run (runesplain_run c []) (by simp) rfl (by simp)
end
theorem row_last (h : Heap) (x : List V) : Heap.row (h ++ [some x]) h.length = some x := by
  simp [Heap.row, List.getElem?_append_right]
theorem set_last (h : Heap) (x y : Option (List V)) : (h ++ [x]).set h.length y = h ++ [y] := by simp
theorem Plain_loop (s : List UInt8) (hs : s.length ≤ 140737488351232) (h0 : Heap) : ∀ (m p : Nat), p + m = s.length → ∀ ks Q (e : Env),
    ((s.drop p).all plainB = true → ∀ e h, Xk T ks (.x 0) ([(0, .str s)] ++ e) h Q) →
    ((s.drop p).all plainB = false → ∀ e h, Xk T ks .r ([(2, .bool false)] ++ e) h Q) →
    Xc T l_runes_Plain_0 ks ([(0, .str s), (6, .itr h0.length)] ++ e) (h0 ++ [some [.str s, .int .i64 p]]) Q := by
  intro m
  induction m with
  | zero =>
    intro p hp ks Q e hQ hR
    rw [L_runes_Plain_0]; unfold bl_runes_Plain_0
    have n1 := nxt_at (h0 ++ [some [.str s, .int .i64 p]]) h0.length s p (row_last _ _)
    rw [if_neg (by omega)] at n1
    simp (disch := omega) [n1]
    exact hQ (by rw [List.drop_eq_nil_of_le (by omega)]; rfl) _ _
  | succ m ih =>
    intro p hp ks Q e hQ hR
    rw [L_runes_Plain_0]; unfold bl_runes_Plain_0
    have n1 := nxt_at (h0 ++ [some [.str s, .int .i64 p]]) h0.length s p (row_last _ _)
    have hlt : p < s.length := by omega
    rw [if_pos hlt, set_last] at n1
    have hd : s.drop p = s[p] :: s.drop (p + 1) := List.drop_eq_getElem_cons hlt
    rw [hd] at hQ hR
    simp only [List.all_cons, Bool.and_eq_true, Bool.and_eq_false_iff] at hQ hR
    by_cases hb : plainB s[p] = true
    · have hb2 := hb
      simp only [plainB, Bool.and_eq_true, decide_eq_true_eq] at hb2
      have da := dec_ascii s p hlt (by omega)
      rw [da] at n1
      have c1 : (32 : Int) < (s[p].toNat : Int) := by omega
      have c2 : (s[p].toNat : Int) ≤ 126 := by omega
      have := ih (p + 1) (by omega) ks Q [(12, .bool false)] (fun h => hQ ⟨hb, h⟩) (fun h => hR (.inr h))
      simp only at n1
      generalize s[p].toNat = B at *
      simp (disch := omega) [n1, runesplain_p, c1, c2]
      simpa using this
    · have hb1 : plainB s[p] = false := by simpa using hb
      have hr := hR (.inl hb1)
      have hc : ¬ (32 < ((Utf8.decode ⟨s.toArray⟩ p).1 : Int) ∧ ((Utf8.decode ⟨s.toArray⟩ p).1 : Int) ≤ 126) := by
        rcases Nat.lt_or_ge s[p].toNat 128 with k | k
        · have da := dec_ascii s p hlt k
          rw [da]
          simp only [plainB, Bool.and_eq_false_iff, decide_eq_false_iff_not] at hb1
          simp only
          omega
        · have := dec_big s p hlt k
          omega
      generalize Utf8.decode ⟨s.toArray⟩ p = D at *
      by_cases c1 : (32 : Int) < (D.1 : Int)
      · have c2 : ¬ ((D.1 : Int) ≤ 126) := fun k => hc ⟨c1, k⟩
        have c1' : 32 < D.1 := by omega
        have c2' : ¬ (D.1 ≤ 126) := by omega
        simp (disch := omega) [n1, runesplain_p, c1, c2, c1', c2']
        simpa using hr _ _
      · have c1' : ¬ 32 < D.1 := by omega
        simp (disch := omega) [n1, runesplain_p, c1, c1']
        simpa using hr _ _
theorem Plain_run (s : List UInt8) (hs : s.length ≤ 140737488351232) (h : Heap) : ∃ h', Run T f_runes_Plain [.str s] h (.bool (plainS s && !decide (s = []))) h' := by
  refine Run.startE t_runes_Plain ?_
  unfold k_runes_Plain
  have := Plain_loop s hs h s.length 0 (by omega)
  simp (disch := omega)
  refine this _ _ [] (fun hp e h => ?_) (fun hp e h => ?_)
  · rw [List.drop_zero] at hp
    have hp2 : plainS s = true := hp
    by_cases hz : s = []
    · simp (disch := omega) [hp2, hz]
    · simp (disch := omega) [hp2, hz]
  · rw [List.drop_zero] at hp
    have hp2 : plainS s = false := hp
    simp (disch := omega) [hp2]
theorem HasPrefix2_run (s : List UInt8) (hs : s.length ≤ 140737488351232) (h : Heap) : ∃ h', Run T f_strings_HasPrefix [.str s, .str [47, 47]] h (.bool (decide (2 ≤ s.length) && decide (s.take 2 = [47, 47]))) h' := by
  have r1 : ∃ h', Run T f_internal_stringslite_HasPrefix [.str s, .str [47, 47]] [] (.bool (decide (2 ≤ s.length) && decide (s.take 2 = [47, 47]))) h' := by
    refine Run.startE t_internal_stringslite_HasPrefix ?_
    unfold k_internal_stringslite_HasPrefix
    by_cases c : 2 ≤ s.length
    · have c' : (2 : Int) ≤ s.length := by omega
      simp (disch := omega) [c, c']
    · have c' : ¬ (2 : Int) ≤ s.length := by omega
      simp (disch := omega) [c, c']
  obtain ⟨_, r1⟩ := r1
  refine Run.startE t_strings_HasPrefix ?_
  unfold k_strings_HasPrefix
  simp (disch := omega)
  rw [Xp_run r1 (by simp) rfl (by simp)]
  simp (disch := omega)
/-- A name that stands for one. -/
def namedS (s : List UInt8) : Bool := decide (3 ≤ s.length) && decide (s.length ≤ 64) && decide (s.take 2 = [47, 47]) && plainS s
theorem named_run (s : List UInt8) (hs : s.length ≤ 140737488351232) (h : Heap) : ∃ h', Run T f_eid_named [.str s] h (.bool (namedS s)) h' := by
  obtain ⟨_, r1⟩ := HasPrefix2_run s hs []
  obtain ⟨_, r2⟩ := Plain_run s hs []
  refine Run.startE t_eid_named ?_
  unfold k_eid_named namedS
  by_cases c : 3 ≤ s.length
  · have c' : (3 : Int) ≤ s.length := by omega
    by_cases c2 : s.length ≤ 64
    · have c2' : (s.length : Int) ≤ 64 := by omega
      have c3 : 2 ≤ s.length := by omega
      have hz : ¬ (s = []) := by intro e; subst e; simp at c
      rw [decide_eq_true c3] at r1
      rw [decide_eq_false hz] at r2
      simp (disch := omega) [c, c', c2, c2']
      rw [Xp_run r1 (by simp) rfl (by simp)]
      by_cases c4 : s.take 2 = [47, 47]
      · simp (disch := omega) [c4]
        rw [Xp_run r2 (by simp) rfl (by simp)]
        simp (disch := omega)
      · simp (disch := omega) [c4]
    · have c2' : ¬ (s.length : Int) ≤ 64 := by omega
      simp (disch := omega) [c, c', c2, c2']
  · have c' : ¬ (3 : Int) ≤ s.length := by omega
    simp (disch := omega) [c, c']
def eidV (sc : Int) (nm : List UInt8) (nd sv : Int) : V := .agg [.int .i64 sc, .str nm, .int .u64 nd, .int .u64 sv]
theorem eid_fold (sc : Int) (nm : List UInt8) (nd sv : Int) : V.agg [.int .i64 sc, .str nm, .int .u64 nd, .int .u64 sv] = eidV sc nm nd sv := rfl
theorem eid_hf (sc : Int) (nm : List UInt8) (nd sv : Int) : V.hf (eidV sc nm nd sv) = true := by simp [eidV]
theorem None_run (h : Heap) : ∃ h', Run T f_eid_None [] h (eidV 1 [] 0 0) h' := by
  refine Run.startE t_eid_None ?_
  unfold k_eid_None eidV
  simp (disch := omega)
/-- Is an endpoint right? -/
def rightE (sc : Int) (nm : List UInt8) (nd sv : Int) : Bool := if sc = 2 then decide (nm = []) else decide (sc = 1) && decide (nd = 0) && decide (sv = 0) && (decide (nm = []) || namedS nm)
theorem eidRight_run (sc : Int) (nm : List UInt8) (nd sv : Int) (hs : nm.length ≤ 140737488351232) (h : Heap) : ∃ h', Run T f_eid_Right [eidV sc nm nd sv] h (.bool (rightE sc nm nd sv)) h' := by
  obtain ⟨_, r1⟩ := None_run []
  obtain ⟨_, r2⟩ := named_run nm hs []
  refine Run.startE t_eid_Right ?_
  unfold k_eid_Right eidV rightE
  by_cases c1 : sc = 1
  · subst c1
    simp (disch := omega)
    rw [Xp_run r1 (by simp) (by simp [eidV]) (by simp)]
    by_cases c2 : nm = []
    · subst c2
      by_cases c3 : nd = 0
      · by_cases c4 : sv = 0
        · simp (disch := omega) [eidV, c3, c4]
        · simp (disch := omega) [eidV, c3, c4]
      · simp (disch := omega) [eidV, c3]
    · by_cases c3 : nd = 0
      · by_cases c4 : sv = 0
        · simp (disch := omega) [eidV, c2, c3, c4]
          rw [Xp_run r2 (by simp) rfl (by simp)]
          simp (disch := omega) [c2, c3, c4]
        · simp (disch := omega) [eidV, c2, c3, c4]
      · simp (disch := omega) [eidV, c2, c3]
  · by_cases c2 : sc = 2
    · subst c2
      simp (disch := omega)
    · simp (disch := omega) [c1, c2]
theorem Right7_loop (s : List UInt8) (hs : s.length ≤ 140737488351232) : ∀ (m p : Nat), p + m = s.length → ∀ ks Q (e : Env) (h : Heap),
    ((s.drop p).all plainB = true → ∀ e, Xk T ks (.x 0) ([(3, .str s)] ++ e) h Q) →
    ((s.drop p).all plainB = false → ∀ e, Xk T ks .r ([(2, .bool false)] ++ e) h Q) →
    Xc T l_ref07_Right_0 ks ([(3, .str s), (4, .int .i64 p)] ++ e) h Q := by
  intro m
  induction m with
  | zero =>
    intro p hp ks Q e h hQ hR
    rw [L_ref07_Right_0]; unfold bl_ref07_Right_0
    have e1 : p = s.length := by omega
    subst e1
    simp (disch := omega)
    exact hQ (by rw [List.drop_eq_nil_of_le (by omega)]; rfl) _
  | succ m ih =>
    intro p hp ks Q e h hQ hR
    rw [L_ref07_Right_0]; unfold bl_ref07_Right_0
    have hlt : p < s.length := by omega
    have hlt' : (p : Int) < s.length := by omega
    have g := List.getElem?_eq_getElem hlt
    have hd : s.drop p = s[p] :: s.drop (p + 1) := List.drop_eq_getElem_cons hlt
    rw [hd] at hQ hR
    simp only [List.all_cons, Bool.and_eq_true, Bool.and_eq_false_iff] at hQ hR
    by_cases hb : plainB s[p] = true
    · have hb2 := hb
      simp only [plainB, Bool.and_eq_true, decide_eq_true_eq] at hb2
      have := ih (p + 1) (by omega) ks Q [] h (fun h => hQ ⟨hb, h⟩) (fun h => hR (.inr h))
      have c1 : ¬ ((s[p].toNat : Int) ≤ 32) := by omega
      have c2 : ¬ ((127 : Int) ≤ (s[p].toNat : Int)) := by omega
      have c1' : ¬ (s[p].toNat ≤ 32) := by omega
      have c2' : ¬ (127 ≤ s[p].toNat) := by omega
      simp (disch := omega) [hlt', g, byteV, c1, c2, c1', c2']
      simpa using this
    · have hb1 : plainB s[p] = false := by simpa using hb
      have hr := hR (.inl hb1)
      simp only [plainB, Bool.and_eq_false_iff, decide_eq_false_iff_not] at hb1
      by_cases c1 : ((s[p].toNat : Int) ≤ 32)
      · have c1' : s[p].toNat ≤ 32 := by omega
        simp (disch := omega) [hlt', g, byteV, c1, c1']
        simpa using hr _
      · have c1' : ¬ (s[p].toNat ≤ 32) := by omega
        have c2 : ((127 : Int) ≤ (s[p].toNat : Int)) := by omega
        have c2' : (127 ≤ s[p].toNat) := by omega
        simp (disch := omega) [hlt', g, byteV, c1, c1', c2, c2']
        simpa using hr _
theorem R7Right_run (sc : Int) (nm : List UInt8) (nd sv : Int) (hs : nm.length ≤ 140737488351232) (h : Heap) : ∃ h', Run T f_ref07_Right [eidV sc nm nd sv] h (.bool (rightE sc nm nd sv)) h' := by
  refine Run.startE t_ref07_Right ?_
  unfold k_ref07_Right eidV rightE
  by_cases c2 : sc = 2
  · subst c2
    simp (disch := omega)
  by_cases c1 : sc = 1
  · subst c1
    by_cases c3 : nd = 0
    · by_cases c4 : sv = 0
      · by_cases c5 : nm = []
        · simp (disch := omega) [c3, c4, c5]
        · unfold namedS
          by_cases l1 : nm.length < 3
          · have l1' : (nm.length : Int) < 3 := by omega
            have l1n : ¬ (3 ≤ nm.length) := by omega
            simp (disch := omega) [c3, c4, c5, l1, l1', l1n]
          · have l1' : ¬ (nm.length : Int) < 3 := by omega
            have l1n : 3 ≤ nm.length := by omega
            by_cases l2 : 64 < nm.length
            · have l2' : (64 : Int) < nm.length := by omega
              have l2n : ¬ (nm.length ≤ 64) := by omega
              simp (disch := omega) [c3, c4, c5, l1, l1', l1n, l2, l2', l2n]
            · have l2' : ¬ (64 : Int) < nm.length := by omega
              have l2n : (nm.length ≤ 64) := by omega
              by_cases l3 : nm.take 2 = [47, 47]
              · have := Right7_loop nm hs nm.length 0 (by omega)
                simp (disch := omega) [c3, c4, c5, l1, l1', l1n, l2, l2', l2n, l3]
                refine this _ _ [] _ (fun hp e => ?_) (fun hp e => ?_)
                · rw [List.drop_zero] at hp
                  have hp2 : plainS nm = true := hp
                  simp (disch := omega) [hp2]
                · rw [List.drop_zero] at hp
                  have hp2 : plainS nm = false := hp
                  simp (disch := omega) [hp2]
              · simp (disch := omega) [c3, c4, c5, l1, l1', l1n, l2, l2', l2n, l3]
      · simp (disch := omega) [c3, c4]
    · simp (disch := omega) [c3]
  · simp (disch := omega) [c1, c2]
theorem rightE_cases {sc : Int} {nm : List UInt8} {nd sv : Int} (h : rightE sc nm nd sv = true) : (sc = 2 ∧ nm = []) ∨ (sc = 1 ∧ nd = 0 ∧ sv = 0 ∧ (nm = [] ∨ namedS nm = true)) := by
  unfold rightE at h
  split at h
  · rename_i c
    exact .inl ⟨c, by simpa using h⟩
  · simp only [Bool.and_eq_true, decide_eq_true_eq, Bool.or_eq_true] at h
    exact .inr ⟨h.1.1.1, h.1.1.2, h.1.2, h.2⟩
structure E4 where
  sc : Int
  nm : List UInt8
  nd : Int
  sv : Int
/-- A first block. -/
structure PP where
  fl : Int
  crc : Int
  d : E4
  s : E4
  r : E4
  st : Int
  sq : Int
  life : Int
  off : Int
  tot : Int
def PP.v (p : PP) : V := .agg [.int .u64 p.fl, .int .i64 p.crc, .int .i64 p.d.sc, .str p.d.nm, .int .u64 p.d.nd, .int .u64 p.d.sv, .int .i64 p.s.sc, .str p.s.nm, .int .u64 p.s.nd, .int .u64 p.s.sv, .int .i64 p.r.sc, .str p.r.nm, .int .u64 p.r.nd, .int .u64 p.r.sv, .int .u64 p.st, .int .u64 p.sq, .int .u64 p.life, .int .u64 p.off, .int .u64 p.tot]
theorem PP.hf (p : PP) : V.hf p.v = true := by simp [PP.v]
theorem pp_fold (a b c e g i k m q s t u w : Int) (d h l : List UInt8) (x y z : Int) : V.agg [.int .u64 a, .int .i64 b, .int .i64 c, .str d, .int .u64 e, .int .u64 g, .int .i64 i, .str h, .int .u64 k, .int .u64 m, .int .i64 q, .str l, .int .u64 s, .int .u64 t, .int .u64 u, .int .u64 w, .int .u64 x, .int .u64 y, .int .u64 z] = PP.v ⟨a, b, ⟨c, d, e, g⟩, ⟨i, h, k, m⟩, ⟨q, l, s, t⟩, u, w, x, y, z⟩ := rfl
theorem wrap_nat (n : Nat) (h : n < 18446744073709551616) : IntKind.u64.wrap (n : Int) = n := by
  simp [IntKind.wrap, IntKind.bits, IntKind.signed]; omega
theorem ofInt_nat (n : Nat) (h : n < 18446744073709551616) : (BitVec.ofInt 64 (n : Int)).toNat = n := by
  rw [BitVec.toNat_ofInt]
  simp
  omega
theorem and_nat (n m : Nat) (hn : n < 18446744073709551616) (hm : m < 18446744073709551616) : IntKind.u64.wrap ↑(BitVec.ofInt IntKind.u64.bits (n : Int) &&& BitVec.ofInt IntKind.u64.bits (m : Int)).toNat = ((n &&& m : Nat) : Int) := by
  show IntKind.u64.wrap ↑(BitVec.ofInt 64 (n : Int) &&& BitVec.ofInt 64 (m : Int)).toNat = _
  rw [BitVec.toNat_and, ofInt_nat n hn, ofInt_nat m hm]
  exact wrap_nat _ (Nat.lt_of_le_of_lt Nat.and_le_left hn)
theorem and1 (n : Nat) : n &&& 1 = n % 2 := Nat.and_one_is_mod n
theorem and4 (n : Nat) : n &&& 4 = n / 4 % 2 * 4 := by
  apply Nat.eq_of_testBit_eq
  intro i
  have e4 : (4 : Nat) = 1 * 2 ^ 2 := rfl
  rw [Nat.testBit_and]
  rw [show n / 4 % 2 * 4 = (n / 2 ^ 2 % 2 ^ 1) * 2 ^ 2 from rfl, Nat.testBit_mul_two_pow, Nat.testBit_mod_two_pow, Nat.testBit_div_two_pow]
  rw [show (4 : Nat).testBit i = (decide (2 ≤ i) && (1 : Nat).testBit (i - 2)) from by rw [show (4 : Nat) = 1 * 2 ^ 2 from rfl, Nat.testBit_mul_two_pow]]
  by_cases h : 2 ≤ i
  · have e : i - 2 + 2 = i := by omega
    rw [show (1 : Nat) = 2 ^ 1 - 1 from rfl, Nat.testBit_two_pow_sub_one]
    simp [h]
    exact Bool.and_comm _ _
  · simp [h]
theorem and31 (n : Nat) : n &&& 507904 = n / 16384 % 32 * 16384 := by
  apply Nat.eq_of_testBit_eq
  intro i
  rw [Nat.testBit_and]
  rw [show n / 16384 % 32 * 16384 = (n / 2 ^ 14 % 2 ^ 5) * 2 ^ 14 from rfl, Nat.testBit_mul_two_pow, Nat.testBit_mod_two_pow, Nat.testBit_div_two_pow]
  rw [show (507904 : Nat).testBit i = (decide (14 ≤ i) && (31 : Nat).testBit (i - 14)) from by rw [show (507904 : Nat) = 31 * 2 ^ 14 from rfl, Nat.testBit_mul_two_pow]]
  by_cases h : 14 ≤ i
  · have e : i - 14 + 14 = i := by omega
    rw [show (31 : Nat) = 2 ^ 5 - 1 from rfl, Nat.testBit_two_pow_sub_one]
    simp [h]
    exact Bool.and_comm _ _
  · simp [h]
def fragB (fl : Int) : Bool := decide (fl % 2 = 1)
def wholeB (fl : Int) : Bool := decide (fl / 4 % 2 = 1)
def repB (fl : Int) : Bool := decide (fl / 16384 % 32 ≠ 0)
theorem op_and1 (q : EqK) (fl : Int) (h0 : 0 ≤ fl) (h1 : fl ≤ 18446744073709551615) : binV .and q (.int .u64 fl) (.int .u64 1) = some (.int .u64 (if fragB fl then 1 else 0)) := by
  obtain ⟨n, rfl⟩ := Int.eq_ofNat_of_zero_le h0
  have := and_nat n 1 (by omega) (by omega)
  rw [bin_and]
  rw [show ((1 : Int)) = ((1 : Nat) : Int) from rfl, this, and1]
  congr 2
  unfold fragB
  by_cases c : n % 2 = 1
  · rw [if_pos (by simp; omega)]; omega
  · rw [if_neg (by simp; omega)]; omega
theorem op_and4 (q : EqK) (fl : Int) (h0 : 0 ≤ fl) (h1 : fl ≤ 18446744073709551615) : binV .and q (.int .u64 fl) (.int .u64 4) = some (.int .u64 (if wholeB fl then 4 else 0)) := by
  obtain ⟨n, rfl⟩ := Int.eq_ofNat_of_zero_le h0
  have := and_nat n 4 (by omega) (by omega)
  rw [bin_and]
  rw [show ((4 : Int)) = ((4 : Nat) : Int) from rfl, this, and4]
  congr 2
  unfold wholeB
  by_cases c : n / 4 % 2 = 1
  · rw [if_pos (by simp; omega)]; omega
  · rw [if_neg (by simp; omega)]; omega
theorem op_and31 (q : EqK) (fl : Int) (h0 : 0 ≤ fl) (h1 : fl ≤ 18446744073709551615) : ∃ z : Int, binV .and q (.int .u64 fl) (.int .u64 507904) = some (.int .u64 z) ∧ (z = 0 ↔ repB fl = false) := by
  obtain ⟨n, rfl⟩ := Int.eq_ofNat_of_zero_le h0
  have := and_nat n 507904 (by omega) (by omega)
  refine ⟨_, by rw [bin_and, show ((507904 : Int)) = ((507904 : Nat) : Int) from rfl, this, and31], ?_⟩
  unfold repB
  simp
  omega
theorem Fragment_run (p : PP) (h0 : 0 ≤ p.fl) (h1 : p.fl ≤ 18446744073709551615) (h : Heap) : ∃ h', Run T f_primary_Fragment [p.v] h (.bool (fragB p.fl)) h' := by
  refine Run.startE t_primary_Fragment ?_
  unfold k_primary_Fragment PP.v
  have o1 := op_and1 .int p.fl h0 h1
  cases hF : fragB p.fl <;> rw [hF] at o1 <;> simp (disch := omega) [o1]
theorem Bit_run (fl w : Int) (h0 : 0 ≤ fl) (hw : 0 < w) (hw2 : w ≤ 100000) (h1 : fl ≤ 18446744073709551615) (h : Heap) : ∃ h', Run T f_ref10_Bit [.int .u64 fl, .int .u64 w] h (.bool (decide (fl / w % 2 = 1))) h' := by
  refine Run.startE t_ref10_Bit ?_
  unfold k_ref10_Bit
  have e1 : fl.tdiv w = fl / w := Int.tdiv_eq_ediv_of_nonneg h0
  have e3 : 0 ≤ fl / w := Int.ediv_nonneg h0 (by omega)
  have e4 : fl / w ≤ fl := Int.ediv_le_self _ h0
  have e5 : (fl / w).tmod 2 = fl / w % 2 := Int.tmod_eq_emod_of_nonneg e3
  have e6 : IntKind.u64.wrap (fl / w) = fl / w := by
    obtain ⟨n, hn⟩ := Int.eq_ofNat_of_zero_le e3
    rw [hn]; exact wrap_nat n (by omega)
  have hz : ¬ w = 0 := by omega
  simp (disch := omega) [e1, e5, e6, hz]
/-- What is wrong with a first block. -/
def chkP (p : PP) : Int :=
  if p.crc < 0 ∨ 2 < p.crc ∨ ¬ (rightE p.d.sc p.d.nm p.d.nd p.d.sv = true ∧ rightE p.s.sc p.s.nm p.s.nd p.s.sv = true ∧ rightE p.r.sc p.r.nm p.r.nd p.r.sv = true) ∨ 2097152 ≤ p.fl then 2
  else if (fragB p.fl = true ∧ (wholeB p.fl = true ∨ p.tot ≤ p.off)) ∨ (fragB p.fl = false ∧ (p.off ≠ 0 ∨ p.tot ≠ 0)) then 6
  else if p.s.sc = 1 ∧ p.s.nm = [] ∧ (wholeB p.fl = false ∨ fragB p.fl = true ∨ repB p.fl = true) then 6 else 0
structure PPok (p : PP) : Prop where
  f0 : 0 ≤ p.fl
  f1 : p.fl ≤ 18446744073709551615
  o0 : 0 ≤ p.off
  t0 : 0 ≤ p.tot
  n1 : p.d.nm.length ≤ 140737488351232
  n2 : p.s.nm.length ≤ 140737488351232
  n3 : p.r.nm.length ≤ 140737488351232
theorem pp_eta (p : PP) : PP.v ⟨p.fl, p.crc, ⟨p.d.sc, p.d.nm, p.d.nd, p.d.sv⟩, ⟨p.s.sc, p.s.nm, p.s.nd, p.s.sv⟩, ⟨p.r.sc, p.r.nm, p.r.nd, p.r.sv⟩, p.st, p.sq, p.life, p.off, p.tot⟩ = p.v := rfl
def badA (p : PP) : Prop := p.crc < 0 ∨ 2 < p.crc ∨ ¬ (rightE p.d.sc p.d.nm p.d.nd p.d.sv = true ∧ rightE p.s.sc p.s.nm p.s.nd p.s.sv = true ∧ rightE p.r.sc p.r.nm p.r.nd p.r.sv = true) ∨ 2097152 ≤ p.fl
def badB (p : PP) : Prop := (fragB p.fl = true ∧ (wholeB p.fl = true ∨ p.tot ≤ p.off)) ∨ (fragB p.fl = false ∧ (p.off ≠ 0 ∨ p.tot ≠ 0))
def badC (p : PP) : Prop := p.s.sc = 1 ∧ p.s.nm = [] ∧ (wholeB p.fl = false ∨ fragB p.fl = true ∨ repB p.fl = true)
theorem chk_a {p : PP} (h : badA p) : chkP p = 2 := by unfold badA at h; unfold chkP; rw [if_pos h]
theorem chk_b {p : PP} (h : ¬ badA p) (h2 : badB p) : chkP p = 6 := by unfold badA at h; unfold badB at h2; unfold chkP; rw [if_neg h, if_pos h2]
theorem chk_c {p : PP} (h : ¬ badA p) (h2 : ¬ badB p) (h3 : badC p) : chkP p = 6 := by unfold badA at h; unfold badB at h2; unfold badC at h3; unfold chkP; rw [if_neg h, if_neg h2, if_pos h3]
theorem chk_0 {p : PP} (h : ¬ badA p) (h2 : ¬ badB p) (h3 : ¬ badC p) : chkP p = 0 := by unfold badA at h; unfold badB at h2; unfold badC at h3; unfold chkP; rw [if_neg h, if_neg h2, if_neg h3]
theorem CheckP_run (p : PP) (ok : PPok p) (h : Heap) : ∃ h', Run T f_primary_Check [p.v] h (.int .i64 (chkP p)) h' := by
  obtain ⟨_, rF⟩ := Fragment_run p ok.f0 ok.f1 []
  obtain ⟨_, r1⟩ := eidRight_run p.d.sc p.d.nm p.d.nd p.d.sv ok.n1 []
  obtain ⟨_, r2⟩ := eidRight_run p.s.sc p.s.nm p.s.nd p.s.sv ok.n2 []
  obtain ⟨_, r3⟩ := eidRight_run p.r.sc p.r.nm p.r.nd p.r.sv ok.n3 []
  obtain ⟨_, rN⟩ := None_run []
  have o4 := op_and4 .int p.fl ok.f0 ok.f1
  obtain ⟨z, o31, oz⟩ := op_and31 .int p.fl ok.f0 ok.f1
  have o0 := ok.o0
  have t0 := ok.t0
  have q2 := @rightE_cases p.s.sc p.s.nm p.s.nd p.s.sv
  refine Run.startE t_primary_Check ?_
  unfold k_primary_Check PP.v
  simp (disch := omega)
  simp only [pp_fold, pp_eta]
  rw [Xp_run rF (by simp [PP.hf]) rfl (by simp)]
  simp (disch := omega)
  simp only [eid_fold]
  rw [Xp_run r1 (by simp [eid_hf]) rfl (by simp)]
  cases h1 : rightE p.d.sc p.d.nm p.d.nd p.d.sv with
  | false =>
    have e2 := chk_a (p := p) (.inr (.inr (.inl (fun k => by rw [h1] at k; cases k.1))))
    by_cases c1 : p.crc < 0
    · simp (disch := first | omega | assumption) [c1, h1, e2]
    · by_cases c2 : 2 < p.crc
      · simp (disch := first | omega | assumption) [c1, c2, h1, e2]
      · simp (disch := first | omega | assumption) [c1, c2, h1, e2]
  | true =>
    simp (disch := omega)
    simp only [eid_fold]
    rw [Xp_run r2 (by simp [eid_hf]) rfl (by simp)]
    cases h2 : rightE p.s.sc p.s.nm p.s.nd p.s.sv with
    | false =>
      have e2 := chk_a (p := p) (.inr (.inr (.inl (fun k => by rw [h2] at k; cases k.2.1))))
      by_cases c1 : p.crc < 0
      · simp (disch := first | omega | assumption) [c1, h1, e2]
      · by_cases c2 : 2 < p.crc
        · simp (disch := first | omega | assumption) [c1, c2, h1, e2]
        · simp (disch := first | omega | assumption) [c1, c2, h1, e2]
    | true =>
      simp (disch := omega)
      simp only [eid_fold]
      rw [Xp_run r3 (by simp [eid_hf]) rfl (by simp)]
      cases h3 : rightE p.r.sc p.r.nm p.r.nd p.r.sv with
      | false =>
        have e2 := chk_a (p := p) (.inr (.inr (.inl (fun k => by rw [h3] at k; cases k.2.2))))
        by_cases c1 : p.crc < 0
        · simp (disch := first | omega | assumption) [c1, h1, e2]
        · by_cases c2 : 2 < p.crc
          · simp (disch := first | omega | assumption) [c1, c2, h1, e2]
          · simp (disch := first | omega | assumption) [c1, c2, h1, e2]
      | true =>
        by_cases c1 : p.crc < 0
        · have e2 := chk_a (p := p) (.inl c1)
          simp (disch := first | omega | assumption) [c1, e2]
        by_cases c2 : 2 < p.crc
        · have e2 := chk_a (p := p) (.inr (.inl c2))
          simp (disch := first | omega | assumption) [c1, c2, e2]
        by_cases c3 : 2097152 ≤ p.fl
        · have e2 := chk_a (p := p) (.inr (.inr (.inr c3)))
          simp (disch := first | omega | assumption) [c1, c2, c3, e2]
        have nA : ¬ badA p := fun k => by rcases k with k | k | k | k; exact c1 k; exact c2 k; exact k ⟨h1, h2, h3⟩; exact c3 k
        simp (disch := first | omega | assumption) [c1, c2, c3]
        have q2 := q2 h2
        cases hF : fragB p.fl with
        | true =>
          cases hW : wholeB p.fl with
          | true =>
            have e2 := chk_b nA (.inl ⟨hF, .inl hW⟩)
            rw [hW] at o4
            simp (disch := first | omega | assumption) [o4, e2]
          | false =>
            rw [hW] at o4
            by_cases c4 : p.tot ≤ p.off
            · have e2 := chk_b nA (.inl ⟨hF, .inr c4⟩)
              simp (disch := first | omega | assumption) [o4, c4, e2]
            · have nB : ¬ badB p := fun k => by rcases k with k | k; rcases k.2 with k | k; rw [hW] at k; cases k; exact c4 k; rw [hF] at k; cases k.1
              simp (disch := first | omega | assumption) [o4, c4]
              rw [Xp_run rN (by simp) (by simp [eidV]) (by simp)]
              by_cases c5 : p.s.sc = 1 ∧ p.s.nm = []
              · have e2 := chk_c nA nB ⟨c5.1, c5.2, .inl hW⟩
                rcases q2 with q | q
                · omega
                · simp (disch := first | omega | assumption) [eidV, c5.1, c5.2, q.2.1, q.2.2.1, o4, e2]
              · have e2 := chk_0 nA nB (fun k => c5 ⟨k.1, k.2.1⟩)
                by_cases c6 : p.s.sc = 1
                · have c7 : ¬ p.s.nm = [] := fun k => c5 ⟨c6, k⟩
                  simp (disch := first | omega | assumption) [eidV, c6, c7, e2]
                · simp (disch := first | omega | assumption) [eidV, c6, e2]
        | false =>
          by_cases c4 : p.off = 0
          · by_cases c5 : p.tot = 0
            · have nB : ¬ badB p := fun k => by rcases k with k | k; rw [hF] at k; cases k.1; rcases k.2 with k | k; exact k c4; exact k c5
              simp (disch := first | omega | assumption) [c4, c5]
              rw [Xp_run rN (by simp) (by simp [eidV]) (by simp)]
              by_cases c6 : p.s.sc = 1 ∧ p.s.nm = []
              · rcases q2 with q | q
                · omega
                · cases hW : wholeB p.fl with
                  | false =>
                    have e2 := chk_c nA nB ⟨c6.1, c6.2, .inl hW⟩
                    rw [hW] at o4
                    simp (disch := first | omega | assumption) [eidV, c6.1, c6.2, q.2.1, q.2.2.1, o4, e2]
                  | true =>
                    rw [hW] at o4
                    cases hR : repB p.fl with
                    | true =>
                      have zz : ¬ z = 0 := fun k => by have := oz.1 k; rw [hR] at this; cases this
                      have e2 := chk_c nA nB ⟨c6.1, c6.2, .inr (.inr hR)⟩
                      simp (disch := first | omega | assumption) [eidV, c6.1, c6.2, q.2.1, q.2.2.1, o4, o31, zz, e2]
                    | false =>
                      have zz : z = 0 := oz.2 hR
                      have e2 := chk_0 nA nB (fun k => by rcases k.2.2 with k | k | k; rw [hW] at k; cases k; rw [hF] at k; cases k; rw [hR] at k; cases k)
                      simp (disch := first | omega | assumption) [eidV, c6.1, c6.2, q.2.1, q.2.2.1, o4, o31, zz, e2]
              · have e2 := chk_0 nA nB (fun k => c6 ⟨k.1, k.2.1⟩)
                by_cases c7 : p.s.sc = 1
                · have c8 : ¬ p.s.nm = [] := fun k => c6 ⟨c7, k⟩
                  simp (disch := first | omega | assumption) [eidV, c7, c8, e2]
                · simp (disch := first | omega | assumption) [eidV, c7, e2]
            · have e2 := chk_b nA (.inr ⟨hF, .inr c5⟩)
              simp (disch := first | omega | assumption) [c4, c5, e2]
          · have e2 := chk_b nA (.inr ⟨hF, .inl c4⟩)
            simp (disch := first | omega | assumption) [c4, e2]
theorem CheckR_run (p : PP) (ok : PPok p) (h : Heap) : ∃ h', Run T f_ref10_Check [p.v] h (.int .i64 (chkP p)) h' := by
  obtain ⟨_, r1⟩ := R7Right_run p.d.sc p.d.nm p.d.nd p.d.sv ok.n1 []
  obtain ⟨_, r2⟩ := R7Right_run p.s.sc p.s.nm p.s.nd p.s.sv ok.n2 []
  obtain ⟨_, r3⟩ := R7Right_run p.r.sc p.r.nm p.r.nd p.r.sv ok.n3 []
  obtain ⟨_, b1⟩ := Bit_run p.fl 1 ok.f0 (by omega) (by omega) ok.f1 []
  obtain ⟨_, b4⟩ := Bit_run p.fl 4 ok.f0 (by omega) (by omega) ok.f1 []
  rw [Int.ediv_one] at b1
  have eF : decide (p.fl % 2 = 1) = fragB p.fl := rfl
  have eW : decide (p.fl / 4 % 2 = 1) = wholeB p.fl := rfl
  rw [eF] at b1
  rw [eW] at b4
  have f0 := ok.f0
  have f1 := ok.f1
  have o0 := ok.o0
  have t0 := ok.t0
  have e1 : p.fl.tdiv 16384 = p.fl / 16384 := Int.tdiv_eq_ediv_of_nonneg ok.f0
  have e5 : (p.fl / 16384).tmod 32 = p.fl / 16384 % 32 := Int.tmod_eq_emod_of_nonneg (by omega)
  have e6 : IntKind.u64.wrap (p.fl / 16384) = p.fl / 16384 := by
    obtain ⟨n, hn⟩ := Int.eq_ofNat_of_zero_le (show 0 ≤ p.fl / 16384 by omega)
    rw [hn]; exact wrap_nat n (by omega)
  refine Run.startE t_ref10_Check ?_
  unfold k_ref10_Check PP.v
  by_cases c1 : p.crc < 0
  · have e2 := chk_a (p := p) (.inl c1)
    simp (disch := first | omega | assumption) [c1, e2]
  by_cases c2 : 2 < p.crc
  · have e2 := chk_a (p := p) (.inr (.inl c2))
    simp (disch := first | omega | assumption) [c1, c2, e2]
  simp (disch := first | omega | assumption) [c1, c2]
  simp only [eid_fold]
  rw [Xp_run r1 (by simp [eid_hf]) rfl (by simp)]
  cases h1 : rightE p.d.sc p.d.nm p.d.nd p.d.sv with
  | false =>
    have e2 := chk_a (p := p) (.inr (.inr (.inl (fun k => by rw [h1] at k; cases k.1))))
    simp (disch := first | omega | assumption) [e2]
  | true =>
    simp (disch := first | omega | assumption)
    simp only [eid_fold]
    rw [Xp_run r2 (by simp [eid_hf]) rfl (by simp)]
    cases h2 : rightE p.s.sc p.s.nm p.s.nd p.s.sv with
    | false =>
      have e2 := chk_a (p := p) (.inr (.inr (.inl (fun k => by rw [h2] at k; cases k.2.1))))
      simp (disch := first | omega | assumption) [e2]
    | true =>
      simp (disch := first | omega | assumption)
      simp only [eid_fold]
      rw [Xp_run r3 (by simp [eid_hf]) rfl (by simp)]
      cases h3 : rightE p.r.sc p.r.nm p.r.nd p.r.sv with
      | false =>
        have e2 := chk_a (p := p) (.inr (.inr (.inl (fun k => by rw [h3] at k; cases k.2.2))))
        simp (disch := first | omega | assumption) [e2]
      | true =>
        by_cases c3 : 2097152 ≤ p.fl
        · have e2 := chk_a (p := p) (.inr (.inr (.inr c3)))
          simp (disch := first | omega | assumption) [c3, e2]
        have nA : ¬ badA p := fun k => by rcases k with k | k | k | k; exact c1 k; exact c2 k; exact k ⟨h1, h2, h3⟩; exact c3 k
        simp (disch := first | omega | assumption) [c3]
        rw [Xp_run b1 (by simp) rfl (by simp)]
        simp (disch := first | omega | assumption)
        rw [Xp_run b4 (by simp) rfl (by simp)]
        simp (disch := first | omega | assumption)
        have last : ¬ badB p → (wholeB p.fl = false ∨ fragB p.fl = true ∨ repB p.fl = true) → p.s.sc = 1 → p.s.nm = [] → chkP p = 6 := fun nB k a b => chk_c nA nB ⟨a, b, k⟩
        have last0 : ¬ badB p → ¬ (wholeB p.fl = false ∨ fragB p.fl = true ∨ repB p.fl = true) → chkP p = 0 := fun nB k => chk_0 nA nB (fun q => k q.2.2)
        have last1 : ¬ badB p → ¬ (p.s.sc = 1 ∧ p.s.nm = []) → chkP p = 0 := fun nB k => chk_0 nA nB (fun q => k ⟨q.1, q.2.1⟩)
        cases hF : fragB p.fl with
        | true =>
          cases hW : wholeB p.fl with
          | true =>
            have e2 := chk_b nA (.inl ⟨hF, .inl hW⟩)
            simp (disch := first | omega | assumption) [e2]
          | false =>
            by_cases c4 : p.tot ≤ p.off
            · have e2 := chk_b nA (.inl ⟨hF, .inr c4⟩)
              simp (disch := first | omega | assumption) [c4, e2]
            · have nB : ¬ badB p := fun k => by rcases k with k | k; rcases k.2 with k | k; rw [hW] at k; cases k; exact c4 k; rw [hF] at k; cases k.1
              by_cases c5 : p.s.sc = 1
              · by_cases c6 : p.s.nm = []
                · have e2 := last nB (.inl hW) c5 c6
                  simp (disch := first | omega | assumption) [c4, c5, c6, e2]
                · have e2 := last1 nB (fun k => c6 k.2)
                  simp (disch := first | omega | assumption) [c4, c5, c6, e2]
              · have e2 := last1 nB (fun k => c5 k.1)
                simp (disch := first | omega | assumption) [c4, c5, e2]
        | false =>
          by_cases c4 : p.off = 0
          · have c4' : ¬ 0 < p.off := by omega
            by_cases c5 : p.tot = 0
            · have c5' : ¬ 0 < p.tot := by omega
              have nB : ¬ badB p := fun k => by rcases k with k | k; rw [hF] at k; cases k.1; rcases k.2 with k | k; exact k c4; exact k c5
              by_cases c6 : p.s.sc = 1
              · by_cases c7 : p.s.nm = []
                · cases hW : wholeB p.fl with
                  | false =>
                    have e2 := last nB (.inl hW) c6 c7
                    simp (disch := first | omega | assumption) [c4, c5, c6, c7, e2]
                  | true =>
                    by_cases hR : p.fl / 16384 % 32 = 0
                    · have hR2 : repB p.fl = false := by simp [repB, hR]
                      have e2 := last0 nB (fun k => by rcases k with k | k | k; rw [hW] at k; cases k; rw [hF] at k; cases k; rw [hR2] at k; cases k)
                      simp (disch := first | omega | assumption) [c4, c5, c6, c7, e1, e5, e6, hR, e2]
                    · have hR2 : repB p.fl = true := by simp [repB, hR]
                      have e2 := last nB (.inr (.inr hR2)) c6 c7
                      simp (disch := first | omega | assumption) [c4, c5, c6, c7, e1, e5, e6, hR, e2]
                · have e2 := last1 nB (fun k => c7 k.2)
                  simp (disch := first | omega | assumption) [c4, c5, c6, c7, e2]
              · have e2 := last1 nB (fun k => c6 k.1)
                simp (disch := first | omega | assumption) [c4, c5, c6, e2]
            · have c5' : 0 < p.tot := by omega
              have e2 := chk_b nA (.inr ⟨hF, .inr c5⟩)
              simp (disch := first | omega | assumption) [c4, c5, c5', e2]
          · have c4' : 0 < p.off := by omega
            have e2 := chk_b nA (.inr ⟨hF, .inl c4⟩)
            simp (disch := first | omega | assumption) [c4, c4', e2]
def E4.cells (e : E4) : List V := [.int .i64 e.sc, .str e.nm, .int .u64 e.nd, .int .u64 e.sv]
theorem chk0_spec {p : PP} (h : chkP p = 0) : 0 ≤ p.crc ∧ p.crc ≤ 2 ∧ rightE p.d.sc p.d.nm p.d.nd p.d.sv = true ∧ rightE p.s.sc p.s.nm p.s.nd p.s.sv = true ∧ rightE p.r.sc p.r.nm p.r.nd p.r.sv = true := by
  unfold chkP at h
  split at h
  · cases h
  · rename_i c
    have c1 : ¬ p.crc < 0 := fun k => c (.inl k)
    have c2 : ¬ 2 < p.crc := fun k => c (.inr (.inl k))
    have c3 := Decidable.not_not.1 (fun k => c (.inr (.inr (.inl k))))
    exact ⟨by omega, by omega, c3.1, c3.2.1, c3.2.2⟩
def u64B (n : Int) : Prop := 0 ≤ n ∧ n ≤ 18446744073709551615
structure E4.B (e : E4) : Prop where
  nd : u64B e.nd
  sv : u64B e.sv
  r : rightE e.sc e.nm e.nd e.sv = true
structure PPB (p : PP) : Prop where
  fl : u64B p.fl
  c0 : 0 ≤ p.crc
  c2 : p.crc ≤ 2
  d : p.d.B
  s : p.s.B
  r : p.r.B
  st : u64B p.st
  sq : u64B p.sq
  life : u64B p.life
  off : u64B p.off
  tot : u64B p.tot
theorem named_len {s : List UInt8} (h : namedS s = true) : s.length ≤ 64 ∧ plainS s = true := by
  simp only [namedS, Bool.and_eq_true, decide_eq_true_eq] at h
  exact ⟨h.1.1.2, h.2⟩
structure Small (l : List T6) (a b c : Nat) : Prop where
  w : T6.ws l ≤ a
  ok : T6.oks l
  r : rgts l = true
  d : dps l ≤ b
  c : cnts l ≤ c
theorem Small.app {l m : List T6} {a b c a' b' c' : Nat} (h : Small l a b c) (k : Small m a' b' c') : Small (l ++ m) (a + a') (max b b') (c + c') where
  w := by have := h.w; have := k.w; rw [ws_app]; omega
  ok := (oks_app _ _).2 ⟨h.ok, k.ok⟩
  r := by rw [rgts_app, h.r, k.r]; rfl
  d := by have := h.d; have := k.d; rw [dps_app]; omega
  c := by have := h.c; have := k.c; rw [cnts_app]; omega
theorem E4.B.len {e : E4} (h : e.B) : e.nm.length ≤ 140737488351232 := by
  rcases rightE_cases h.r with ⟨_, e2⟩ | ⟨_, _, _, e4⟩
  · rw [e2]; simp
  · rcases e4 with k | k
    · rw [k]; simp
    · have := (named_len k).1; omega
def E4.v (e : E4) : V := eidV e.sc e.nm e.nd e.sv
theorem PPB.ok {p : PP} (b : PPB p) : PPok p where
  f0 := b.fl.1
  f1 := b.fl.2
  o0 := b.off.1
  t0 := b.tot.1
  n1 := b.d.len
  n2 := b.s.len
  n3 := b.r.len
/-- Lists whose values are the same, and their bytes. -/
def Sims (l m : List T6) : Prop := anys l = anys m ∧ encs l = encs m ∧ l.length = m.length
theorem Sims.nil : Sims [] [] := ⟨rfl, rfl, rfl⟩
theorem Sims.cons {a b : T6} {l m : List T6} (h : anyV a = anyV b ∧ enc a = enc b) (k : Sims l m) : Sims (a :: l) (b :: m) :=
  ⟨by simp only [anys, h.1, k.1], by simp only [encs, h.2, k.2.1], by simp only [List.length_cons, k.2.2]⟩
/-- What a parameter's numbers are. -/
structure PPin (p : PP) : Prop where
  fl : u64B p.fl
  d1 : u64B p.d.nd
  d2 : u64B p.d.sv
  s1 : u64B p.s.nd
  s2 : u64B p.s.sv
  r1 : u64B p.r.nd
  r2 : u64B p.r.sv
  st : u64B p.st
  sq : u64B p.sq
  life : u64B p.life
  off : u64B p.off
  tot : u64B p.tot
  n1 : p.d.nm.length ≤ 140737488351232
  n2 : p.s.nm.length ≤ 140737488351232
  n3 : p.r.nm.length ≤ 140737488351232
theorem PPin.ok {p : PP} (h : PPin p) : PPok p := ⟨h.fl.1, h.fl.2, h.off.1, h.tot.1, h.n1, h.n2, h.n3⟩
theorem PPin.B {p : PP} (h : PPin p) (hc : chkP p = 0) : PPB p := by
  obtain ⟨c0, c2, h1, h2, h3⟩ := chk0_spec hc
  exact ⟨h.fl, c0, c2, ⟨h.d1, h.d2, h1⟩, ⟨h.s1, h.s2, h2⟩, ⟨h.r1, h.r2, h3⟩, h.st, h.sq, h.life, h.off, h.tot⟩
abbrev sh10 : List CS := [.i .u64, .i .i64, .i .i64, .s, .i .u64, .i .u64, .i .i64, .s, .i .u64, .i .u64, .i .i64, .s, .i .u64, .i .u64, .i .u64, .i .u64, .i .u64, .i .u64, .i .u64]
theorem readPP (vs : List V) (hr : Row sh10 vs) : ∃ p : PP, V.agg vs = p.v ∧ PPin p := by
  obtain ⟨v0, r0, rfl, t0, hr⟩ := hr.cons
  obtain ⟨v1, r1, rfl, t1, hr⟩ := hr.cons
  obtain ⟨v2, r2, rfl, t2, hr⟩ := hr.cons
  obtain ⟨v3, r3, rfl, t3, hr⟩ := hr.cons
  obtain ⟨v4, r4, rfl, t4, hr⟩ := hr.cons
  obtain ⟨v5, r5, rfl, t5, hr⟩ := hr.cons
  obtain ⟨v6, r6, rfl, t6, hr⟩ := hr.cons
  obtain ⟨v7, r7, rfl, t7, hr⟩ := hr.cons
  obtain ⟨v8, r8, rfl, t8, hr⟩ := hr.cons
  obtain ⟨v9, r9, rfl, t9, hr⟩ := hr.cons
  obtain ⟨v10, r10, rfl, t10, hr⟩ := hr.cons
  obtain ⟨v11, r11, rfl, t11, hr⟩ := hr.cons
  obtain ⟨v12, r12, rfl, t12, hr⟩ := hr.cons
  obtain ⟨v13, r13, rfl, t13, hr⟩ := hr.cons
  obtain ⟨v14, r14, rfl, t14, hr⟩ := hr.cons
  obtain ⟨v15, r15, rfl, t15, hr⟩ := hr.cons
  obtain ⟨v16, r16, rfl, t16, hr⟩ := hr.cons
  obtain ⟨v17, r17, rfl, t17, hr⟩ := hr.cons
  obtain ⟨v18, r18, rfl, t18, hr⟩ := hr.cons
  obtain rfl := hr.none
  obtain ⟨x0, rfl, a0, b0⟩ := t0.int
  obtain ⟨x1, rfl, a1, b1⟩ := t1.int
  obtain ⟨x2, rfl, a2, b2⟩ := t2.int
  obtain ⟨x3, rfl, a3⟩ := t3.str
  obtain ⟨x4, rfl, a4, b4⟩ := t4.int
  obtain ⟨x5, rfl, a5, b5⟩ := t5.int
  obtain ⟨x6, rfl, a6, b6⟩ := t6.int
  obtain ⟨x7, rfl, a7⟩ := t7.str
  obtain ⟨x8, rfl, a8, b8⟩ := t8.int
  obtain ⟨x9, rfl, a9, b9⟩ := t9.int
  obtain ⟨x10, rfl, a10, b10⟩ := t10.int
  obtain ⟨x11, rfl, a11⟩ := t11.str
  obtain ⟨x12, rfl, a12, b12⟩ := t12.int
  obtain ⟨x13, rfl, a13, b13⟩ := t13.int
  obtain ⟨x14, rfl, a14, b14⟩ := t14.int
  obtain ⟨x15, rfl, a15, b15⟩ := t15.int
  obtain ⟨x16, rfl, a16, b16⟩ := t16.int
  obtain ⟨x17, rfl, a17, b17⟩ := t17.int
  obtain ⟨x18, rfl, a18, b18⟩ := t18.int
  exact ⟨⟨x0, x1, ⟨x2, x3, x4, x5⟩, ⟨x6, x7, x8, x9⟩, ⟨x10, x11, x12, x13⟩, x14, x15, x16, x17, x18⟩, rfl, ⟨⟨a0, b0⟩, ⟨a4, b4⟩, ⟨a5, b5⟩, ⟨a8, b8⟩, ⟨a9, b9⟩, ⟨a12, b12⟩, ⟨a13, b13⟩, ⟨a14, b14⟩, ⟨a15, b15⟩, ⟨a16, b16⟩, ⟨a17, b17⟩, ⟨a18, b18⟩, a3, a7, a11⟩⟩
structure B5 where
  ty : Int
  nu : Int
  fl : Int
  k : Int
  s : List UInt8
def B5.v (x : B5) : V := blkV x.ty x.nu x.fl x.k x.s
def b5s (l : List B5) : List V := l.map B5.v
theorem b5s_len (l : List B5) : (b5s l).length = l.length := by simp [b5s]
theorem b5s_get (l : List B5) (i : Nat) (h : i < l.length) : (b5s l)[i]? = some (blkV l[i].ty l[i].nu l[i].fl l[i].k l[i].s) := by rw [b5s, List.getElem?_map, List.getElem?_eq_getElem h]; rfl
theorem b5_hf (x : B5) : V.hf x.v = true := by simp [B5.v, blkV]
theorem b5s_hfs (l : List B5) : V.hfs (b5s l) = true := by
  induction l with
  | nil => rfl
  | cons x l ih => show (x.v.hf && V.hfs (b5s l)) = true; rw [b5_hf, ih]; rfl
structure BB where
  p : PP
  bl : List B5
  pay : B5
def PP.cells (p : PP) : List V := [.int .u64 p.fl, .int .i64 p.crc, .int .i64 p.d.sc, .str p.d.nm, .int .u64 p.d.nd, .int .u64 p.d.sv, .int .i64 p.s.sc, .str p.s.nm, .int .u64 p.s.nd, .int .u64 p.s.sv, .int .i64 p.r.sc, .str p.r.nm, .int .u64 p.r.nd, .int .u64 p.r.sv, .int .u64 p.st, .int .u64 p.sq, .int .u64 p.life, .int .u64 p.off, .int .u64 p.tot]
def BB.cells (b : BB) : List V := [.int .u64 b.p.fl, .int .i64 b.p.crc, .int .i64 b.p.d.sc, .str b.p.d.nm, .int .u64 b.p.d.nd, .int .u64 b.p.d.sv, .int .i64 b.p.s.sc, .str b.p.s.nm, .int .u64 b.p.s.nd, .int .u64 b.p.s.sv, .int .i64 b.p.r.sc, .str b.p.r.nm, .int .u64 b.p.r.nd, .int .u64 b.p.r.sv, .int .u64 b.p.st, .int .u64 b.p.sq, .int .u64 b.p.life, .int .u64 b.p.off, .int .u64 b.p.tot, .ps 5 (b5s b.bl), .int .u64 b.pay.ty, .int .u64 b.pay.nu, .int .u64 b.pay.fl, .int .i64 b.pay.k, .str b.pay.s]
def BB.v (b : BB) : V := .agg b.cells
theorem BB.len (b : BB) : b.cells.length = 25 := rfl
theorem BB.c19 (b : BB) : b.cells[19]? = some (.ps 5 (b5s b.bl)) := rfl
theorem BB.c20 (b : BB) : b.cells[20]? = some (.int .u64 b.pay.ty) := rfl
theorem BB.c21 (b : BB) : b.cells[21]? = some (.int .u64 b.pay.nu) := rfl
theorem BB.c24 (b : BB) : b.cells[24]? = some (.str b.pay.s) := rfl
theorem BB.c3 (b : BB) : b.cells[3]? = some (.str b.p.d.nm) := rfl
theorem BB.c7 (b : BB) : b.cells[7]? = some (.str b.p.s.nm) := rfl
theorem BB.c11 (b : BB) : b.cells[11]? = some (.str b.p.r.nm) := rfl
theorem BB.tP (b : BB) : b.cells.take 19 = b.p.cells := rfl
theorem BB.hf (b : BB) : V.hf b.v = true := by simp [BB.v, BB.cells, b5s_hfs]
theorem BB.one (b : BB) : b.cells.all V.one = true := by simp [BB.cells]
def lightL : List B5 → Bool
  | [] => true
  | x :: r => if 200 < x.s.length then false else lightL r
def lightB (b : BB) : Bool := if 20 < b.bl.length ∨ 500 < b.pay.s.length ∨ 100 < b.p.d.nm.length ∨ 100 < b.p.s.nm.length ∨ 100 < b.p.r.nm.length then false else lightL b.bl
theorem light_loop (b : BB) (hb : b.bl.length ≤ 20) (g : Heap) : ∀ (m i : Nat), i + m = b.bl.length → ∀ ks Q,
    (lightL (b.bl.drop i) = true → ∀ e, Xk T ks (.x 0) e (some b.cells :: g) Q) →
    (lightL (b.bl.drop i) = false → Xk T ks .r [(2, .bool false)] (some b.cells :: g) Q) →
    Xc T l_law11_Light_0 ks [(1, .ptr 0 0), (3, .int .i64 i)] (some b.cells :: g) Q := by
  have bl := b5s_len b.bl
  intro m
  induction m with
  | zero =>
    intro i hi ks Q h1 h2
    have e : b.bl.drop i = [] := List.drop_eq_nil_of_le (by omega)
    rw [e] at h1
    have e2 : (i : Int) = b.bl.length := by omega
    rw [L_law11_Light_0]; unfold bl_law11_Light_0
    simp (disch := omega) [bl, BB.c19, BB.c24, BB.c3, BB.c7, BB.c11, BB.len, e2]
    exact h1 rfl _
  | succ m ih =>
    intro i hi ks Q h1 h2
    have hl : i < b.bl.length := by omega
    have e := List.drop_eq_getElem_cons hl
    rw [e] at h1 h2
    have gt := b5s_get b.bl i hl
    have ih := ih (i + 1) (by omega) ks Q
    rw [show ((i + 1 : Nat) : Int) = (i : Int) + 1 from rfl] at ih
    rw [L_law11_Light_0]; unfold bl_law11_Light_0
    simp (disch := omega) [bl, BB.c19, BB.c24, BB.c3, BB.c7, BB.c11, BB.len, gt, blkV, hl]
    generalize b.bl[i] = x at *
    by_cases c : 200 < x.s.length
    · have c' : (200 : Int) < x.s.length := by omega
      simp (disch := omega) [c, c']
      exact h2 (by simp [lightL, c])
    · have c' : ¬ (200 : Int) < x.s.length := by omega
      simp (disch := omega) [c, c']
      exact ih (fun h => h1 (by simp [lightL, c, h])) (fun h => h2 (by simp [lightL, c, h]))
theorem Light_run (b : BB) (hn : b.p.d.nm.length ≤ 140737488351232 ∧ b.p.s.nm.length ≤ 140737488351232 ∧ b.p.r.nm.length ≤ 140737488351232) : ∃ h', Run T f_law11_Light [b.v] [] (.bool (lightB b)) h' := by
  obtain ⟨n1, n2, n3⟩ := hn
  have bl := b5s_len b.bl
  have lp := light_loop b
  refine Run.startE t_law11_Light ?_
  unfold k_law11_Light BB.v lightB
  by_cases g1 : 20 < b.bl.length
  · have g1' : (20 : Int) < b.bl.length := by omega
    simp (disch := omega) [bl, BB.c19, BB.c24, BB.c3, BB.c7, BB.c11, BB.len, BB.one, g1, g1']
  have g1' : ¬ (20 : Int) < b.bl.length := by omega
  by_cases g2 : 500 < b.pay.s.length
  · have g2' : (500 : Int) < b.pay.s.length := by omega
    simp (disch := omega) [bl, BB.c19, BB.c24, BB.c3, BB.c7, BB.c11, BB.len, BB.one, g1, g1', g2, g2']
  have g2' : ¬ (500 : Int) < b.pay.s.length := by omega
  by_cases g3 : 100 < b.p.d.nm.length
  · have g3' : (100 : Int) < b.p.d.nm.length := by omega
    simp (disch := omega) [bl, BB.c19, BB.c24, BB.c3, BB.c7, BB.c11, BB.len, BB.one, g1, g1', g2, g2', g3, g3']
  have g3' : ¬ (100 : Int) < b.p.d.nm.length := by omega
  by_cases g4 : 100 < b.p.s.nm.length
  · have g4' : (100 : Int) < b.p.s.nm.length := by omega
    simp (disch := omega) [bl, BB.c19, BB.c24, BB.c3, BB.c7, BB.c11, BB.len, BB.one, g1, g1', g2, g2', g3, g3', g4, g4']
  have g4' : ¬ (100 : Int) < b.p.s.nm.length := by omega
  by_cases g5 : 100 < b.p.r.nm.length
  · have g5' : (100 : Int) < b.p.r.nm.length := by omega
    simp (disch := omega) [bl, BB.c19, BB.c24, BB.c3, BB.c7, BB.c11, BB.len, BB.one, g1, g1', g2, g2', g3, g3', g4, g4', g5, g5']
  have g5' : ¬ (100 : Int) < b.p.r.nm.length := by omega
  simp (disch := omega) [bl, BB.c19, BB.c24, BB.c3, BB.c7, BB.c11, BB.len, BB.one, g1, g1', g2, g2', g3, g3', g4, g4', g5, g5']
  have := lp (by omega) [] b.bl.length 0 (by omega)
  refine this _ _ (fun h e => ?_) (fun h => ?_)
  · simp [show lightL b.bl = true from h]
  · simp [show lightL b.bl = false from h]
def kvU (l : List Int) : List V := l.map fun n => .tup [.int .u64 n, .bool true]
def insU (l : List Int) (n : Int) : List Int := if n ∈ l then l else l ++ [n]
theorem kvU_no (n : Int) : ∀ (l : List Int) (i : Nat), n ∉ l → kvFind .int (.int .u64 n) (kvU l) i = some none
  | [], i, _ => rfl
  | m :: l, i, h => by
    have h1 : ¬ n = m := fun e => h (e ▸ List.mem_cons_self)
    have h2 : n ∉ l := fun e => h (List.mem_cons_of_mem _ e)
    have := kvU_no n l (i + 1) h2
    simp only [kvU, List.map_cons, kvFind, keyEq] at this ⊢
    simp [h1, this]
theorem kvU_yes (n : Int) : ∀ (l : List Int) (i : Nat), n ∈ l → ∃ j, kvFind .int (.int .u64 n) (kvU l) i = some (some (i + j, .bool true)) ∧ (kvU l)[j]? = some (.tup [.int .u64 n, .bool true])
  | m :: l, i, h => by
    by_cases h1 : n = m
    · subst h1
      exact ⟨0, by simp [kvU, kvFind, keyEq], by simp [kvU]⟩
    · obtain ⟨j, a, b⟩ := kvU_yes n l (i + 1) (by simpa [h1] using h)
      refine ⟨j + 1, ?_, by simpa [kvU] using b⟩
      simp only [kvU, List.map_cons, kvFind, keyEq] at a ⊢
      simp [h1, a]
      omega
theorem look_kvU (h : Heap) (b : Nat) (l : List Int) (n : Int) (hr : h.row b = some (kvU l)) : lookV h .int (.mp b) (.int .u64 n) (.bool false) false = some (.bool (decide (n ∈ l))) := by
  unfold lookV kvsOf
  simp only [hr, Option.bind_some]
  by_cases c : n ∈ l
  · obtain ⟨j, a, _⟩ := kvU_yes n l 0 c
    simp [keyEq, a, c]
  · simp [keyEq, kvU_no n l 0 c, c]
theorem mset_kvU (h : Heap) (b : Nat) (l : List Int) (n : Int) (hr : h.row b = some (kvU l)) : msetV h .int (.mp b) (.int .u64 n) (.bool true) = some (h.set b (some (kvU (insU l n)))) := by
  unfold msetV insU
  simp only [hr, Option.bind_some]
  by_cases c : n ∈ l
  · obtain ⟨j, a, e⟩ := kvU_yes n l 0 c
    rw [Nat.zero_add] at a
    have hj : (kvU l).set j (.tup [.int .u64 n, .bool true]) = kvU l := by
      apply List.ext_getElem?
      intro i
      rw [List.getElem?_set]
      split
      · rename_i hij; subst hij
        rw [e, if_pos (by have := List.getElem?_eq_some_iff.1 e; exact this.1)]
      · rfl
    simp [keyEq, a, c, hj]
  · simp [keyEq, kvU_no n l 0 c, c]
    simp [kvU]
theorem unlike1_run (x : B5) (seen : List Int) (g : Heap) : Run T f_bundle_unlike_1 [x.v, .ptr 1 0] (some (kvU seen) :: some [.mp 0] :: g) (.bool (!decide (x.nu ∈ seen) && decide (x.ty ≠ 1))) (some (kvU (insU seen x.nu)) :: some [.mp 0] :: g ++ [some [.int .u64 x.ty, .int .u64 x.nu, .int .u64 x.fl, .int .i64 x.k, .str x.s]]) := by
  refine Run.start t_bundle_unlike_1 ?_
  unfold k_bundle_unlike_1 B5.v blkV
  have lk := fun (R : Heap) => look_kvU (some (kvU seen) :: R) 0 seen x.nu rfl
  have ms := fun (R : Heap) => mset_kvU (some (kvU seen) :: R) 0 seen x.nu rfl
  simp (disch := first | omega | rfl) [lk, ms]
  by_cases c : x.nu ∈ seen
  · simp (disch := omega) [c, ms]
  · simp (disch := omega) [c, ms]
def unlF (seen : List Int) : List B5 → Bool
  | [] => true
  | x :: r => if x.nu ∈ seen ∨ x.ty = 1 then false else unlF (insU seen x.nu) r
theorem unlike_loop (l : List B5) (hn : l.length ≤ 1000000) : ∀ (m i : Nat), i + m = l.length → ∀ (seen : List Int) (g : Heap) ks Q,
    (unlF seen (l.drop i) = true → ∀ e g', Xk T ks (.x 0) e g' Q) →
    (unlF seen (l.drop i) = false → ∀ g', Xk T ks .r [(2, .bool false)] g' Q) →
    Xc T l_bundle_unlike_0 ks [(4, .fn f_bundle_unlike_1 [.ptr 1 0]), (10, .ps 5 (b5s l)), (11, .int .i64 l.length), (12, .int .i64 i)] (some (kvU seen) :: some [.mp 0] :: g) Q := by
  have bl := b5s_len l
  have hf : T.free f_bundle_unlike_1 = true := rfl
  intro m
  induction m with
  | zero =>
    intro i hi seen g ks Q h1 h2
    have e : l.drop i = [] := List.drop_eq_nil_of_le (by omega)
    rw [e] at h1
    have e2 : (i : Int) = l.length := by omega
    rw [L_bundle_unlike_0]; unfold bl_bundle_unlike_0
    simp (disch := omega) [bl, e2]
    exact h1 rfl _ _
  | succ m ih =>
    intro i hi seen g ks Q h1 h2
    have hl : i < l.length := by omega
    have e := List.drop_eq_getElem_cons hl
    rw [e] at h1 h2
    have gt := b5s_get l i hl
    have ih := ih (i + 1) (by omega)
    rw [show ((i + 1 : Nat) : Int) = (i : Int) + 1 from rfl] at ih
    rw [L_bundle_unlike_0]; unfold bl_bundle_unlike_0
    simp (disch := omega) [bl, gt, blkV, hl, hf]
    generalize l[i] = x at *
    have rx := unlike1_run x seen (g ++ [some [.int .u64 x.ty, .int .u64 x.nu, .int .u64 x.fl, .int .i64 x.k, .str x.s]])
    unfold B5.v blkV at rx
    rw [Xf_run rx]
    simp (disch := omega) [hf]
    by_cases c : x.nu ∈ seen ∨ x.ty = 1
    · have cb : (decide (x.nu ∈ seen) || decide (x.ty = 1)) = true := by rcases c with c | c <;> simp [c]
      simp (disch := omega) [cb]
      exact h2 (by simp [unlF, c]) _
    · have cb : (decide (x.nu ∈ seen) || decide (x.ty = 1)) = false := by simp only [not_or] at c; simp [c.1, c.2]
      simp (disch := omega) [cb]
      exact ih _ _ ks Q (fun h => h1 (by simp only [unlF, if_neg c, h])) (fun h => h2 (by simp only [unlF, if_neg c, h]))
theorem unlike_run (l : List B5) (hn : l.length ≤ 1000000) : ∃ h', Run T f_bundle_unlike [.ps 5 (b5s l)] [] (.bool (unlF [0, 1] l)) h' := by
  have bl := b5s_len l
  have lp := unlike_loop l hn l.length 0 (by omega) [0, 1] []
  refine Run.startE t_bundle_unlike ?_
  unfold k_bundle_unlike
  have m0 : msetV [some []] .int (.mp 0) (.int .u64 0) (.bool true) = some [some (kvU [0])] := rfl
  have m1 : msetV [some (kvU [0])] .int (.mp 0) (.int .u64 1) (.bool true) = some [some (kvU [0, 1])] := rfl
  have cm : (V.mp 0).cells = [V.mp 0] := rfl
  have om : (V.mp 0).one = true := rfl
  simp (disch := omega) [bl, m0, m1, cm, om]
  refine lp _ _ (fun h e g => ?_) (fun h g => ?_)
  · simp [show unlF [0, 1] l = true from h]
  · simp [show unlF [0, 1] l = false from h]
def firstE : List B5 → Int
  | [] => 0
  | x :: r => if chkS x.nu x.k x.s = 0 then firstE r else chkS x.nu x.k x.s
def chkB (b : BB) : Int :=
  if 16 < b.bl.length then 4 else if chkP b.p ≠ 0 then chkP b.p else if chkS b.pay.nu b.pay.k b.pay.s ≠ 0 then chkS b.pay.nu b.pay.k b.pay.s
  else if firstE b.bl ≠ 0 then firstE b.bl else if b.pay.ty = 1 ∧ b.pay.nu = 1 ∧ unlF [0, 1] b.bl = true then 0 else 6
theorem blkV_cells (a b c k : Int) (s : List UInt8) : (blkV a b c k s).cells = [.int .u64 a, .int .u64 b, .int .u64 c, .int .i64 k, .str s] := rfl
theorem chk_loop (b : BB) (hn : b.bl.length ≤ 1000000) : ∀ (m i : Nat), i + m = b.bl.length → ∀ (g : Heap) ks Q,
    (firstE (b.bl.drop i) = 0 → ∀ z g', Xk T ks (.x 0) ((1, .ptr 0 0) :: z) (some b.cells :: g') Q) →
    (firstE (b.bl.drop i) ≠ 0 → ∀ g', Xk T ks .r [(2, .int .i64 (firstE (b.bl.drop i)))] g' Q) →
    Xc T l_bundle_Check_0 ks [(1, .ptr 0 0), (25, .ps 5 (b5s b.bl)), (26, .int .i64 b.bl.length), (27, .int .i64 i)] (some b.cells :: g) Q := by
  have bl := b5s_len b.bl
  intro m
  induction m with
  | zero =>
    intro i hi g ks Q h1 h2
    have e : b.bl.drop i = [] := List.drop_eq_nil_of_le (by omega)
    rw [e] at h1
    have e2 : (i : Int) = b.bl.length := by omega
    rw [L_bundle_Check_0]; unfold bl_bundle_Check_0
    simp (disch := omega) [bl, e2]
    exact h1 rfl _ _
  | succ m ih =>
    intro i hi g ks Q h1 h2
    have hl : i < b.bl.length := by omega
    have e := List.drop_eq_getElem_cons hl
    rw [e] at h1 h2
    have gt := b5s_get b.bl i hl
    have ih := ih (i + 1) (by omega)
    rw [show ((i + 1 : Nat) : Int) = (i : Int) + 1 from rfl] at ih
    rw [L_bundle_Check_0]; unfold bl_bundle_Check_0
    simp (disch := omega) [bl, gt, hl, blkV_cells]
    generalize b.bl[i] = x at *
    obtain ⟨_, r⟩ := Check_run x.ty x.nu x.fl x.k x.s []
    unfold blkV at r
    rw [Xp_run r (by simp) rfl (by simp)]
    have f1 : firstE (x :: b.bl.drop (i + 1)) = if chkS x.nu x.k x.s = 0 then firstE (b.bl.drop (i + 1)) else chkS x.nu x.k x.s := rfl
    rw [f1] at h1 h2
    generalize chkS x.nu x.k x.s = z at *
    by_cases c : z = 0
    · rw [if_pos c] at h1 h2
      simp (disch := omega) [c]
      exact ih _ ks Q h1 h2
    · rw [if_neg c] at h1 h2
      simp (disch := omega) [c]
      exact h2 c _
theorem BCheck_run (b : BB) (ok : PPok b.p) (hn : b.bl.length ≤ 1000000) : ∃ h', Run T f_bundle_Check [b.v] [] (.int .i64 (chkB b)) h' := by
  have bl := b5s_len b.bl
  obtain ⟨_, r1⟩ := CheckP_run b.p ok []
  obtain ⟨_, r2⟩ := Check_run b.pay.ty b.pay.nu b.pay.fl b.pay.k b.pay.s []
  obtain ⟨_, r3⟩ := unlike_run b.bl hn
  have tp : V.agg (b.cells.take 19) = b.p.v := rfl
  have ty : V.agg ((b.cells.drop 20).take 5) = blkV b.pay.ty b.pay.nu b.pay.fl b.pay.k b.pay.s := rfl
  have hp := PP.hf b.p
  have hb : V.hf (blkV b.pay.ty b.pay.nu b.pay.fl b.pay.k b.pay.s) = true := by simp [blkV]
  have lp := chk_loop b hn b.bl.length 0 (by omega)
  refine Run.startE t_bundle_Check ?_
  unfold k_bundle_Check BB.v chkB
  by_cases g1 : 16 < b.bl.length
  · have g1' : (16 : Int) < b.bl.length := by omega
    simp (disch := omega) [bl, BB.c19, BB.len, BB.one, g1, g1']
  have g1' : ¬ (16 : Int) < b.bl.length := by omega
  simp (disch := omega) [bl, BB.c19, BB.len, BB.one, g1, g1', tp]
  rw [Xp_run r1 (by simp [hp]) rfl (by simp)]
  generalize chkP b.p = z1 at *
  by_cases g2 : z1 = 0
  · simp (disch := omega) [g2, BB.len, ty]
    rw [Xp_run r2 (by simp [hb]) rfl (by simp)]
    generalize chkS b.pay.nu b.pay.k b.pay.s = z2 at *
    by_cases g3 : z2 = 0
    · simp (disch := omega) [g3, BB.len, BB.c19, bl]
      refine lp _ _ _ (fun h z g' => ?_) (fun h g' => ?_)
      · have h : firstE b.bl = 0 := h
        simp (disch := omega) [h, BB.c20, BB.c21]
        by_cases g4 : b.pay.ty = 1
        · by_cases g5 : b.pay.nu = 1
          · simp (disch := omega) [g4, g5, BB.c19, BB.c21]
            rw [Xp_run r3 (by simp [b5s_hfs]) rfl (by simp)]
            cases unlF [0, 1] b.bl with
            | true => simp (disch := omega)
            | false => simp (disch := omega)
          · simp (disch := omega) [g4, g5, BB.c21]
        · simp (disch := omega) [g4]
      · have h : ¬ firstE b.bl = 0 := h
        simp (disch := omega) [h]
    · simp (disch := omega) [g3]
  · simp (disch := omega) [g2]
theorem r0_loop (b : BB) (hn : b.bl.length ≤ 1000000) (g : Heap) : ∀ (m i : Nat), i + m = b.bl.length → ∀ ks Q,
    (∀ z, Xk T ks (.x 0) ((1, .ptr 0 0) :: (3, .int .i64 (firstE (b.bl.drop i))) :: z) (some b.cells :: g) Q) →
    Xc T l_ref11_Check_0 ks [(1, .ptr 0 0), (3, .int .i64 0), (4, .int .i64 i)] (some b.cells :: g) Q := by
  have bl := b5s_len b.bl
  intro m
  induction m with
  | zero =>
    intro i hi ks Q h1
    have e : b.bl.drop i = [] := List.drop_eq_nil_of_le (by omega)
    rw [e] at h1
    have e2 : ¬ (i : Int) < b.bl.length := by omega
    have e3 : ¬ i < b.bl.length := by omega
    rw [L_ref11_Check_0]; unfold bl_ref11_Check_0
    simp (disch := omega) [bl, e2, e3, BB.c19]
    exact h1 _
  | succ m ih =>
    intro i hi ks Q h1
    have hl : i < b.bl.length := by omega
    have e := List.drop_eq_getElem_cons hl
    rw [e] at h1
    have gt := b5s_get b.bl i hl
    have ih := ih (i + 1) (by omega)
    rw [show ((i + 1 : Nat) : Int) = (i : Int) + 1 from rfl] at ih
    rw [L_ref11_Check_0]; unfold bl_ref11_Check_0
    simp (disch := omega) [bl, gt, hl, blkV_cells, BB.c19]
    generalize b.bl[i] = x at *
    obtain ⟨_, r⟩ := R9Check_run x.ty x.nu x.fl x.k x.s []
    unfold blkV at r
    rw [Xp_run r (by simp) rfl (by simp)]
    have f1 : firstE (x :: b.bl.drop (i + 1)) = if chkS x.nu x.k x.s = 0 then firstE (b.bl.drop (i + 1)) else chkS x.nu x.k x.s := rfl
    rw [f1] at h1
    generalize chkS x.nu x.k x.s = z at *
    by_cases c : z = 0
    · rw [if_pos c] at h1
      simp (disch := omega) [c]
      exact ih ks Q h1
    · rw [if_neg c] at h1
      simp (disch := omega) [c]
      rw [L_ref11_Check_0]; unfold bl_ref11_Check_0
      by_cases d : i + 1 < b.bl.length
      · have d' : (i : Int) + 1 < b.bl.length := by omega
        simp (disch := omega) [bl, BB.c19, c, d, d']
        exact h1 _
      · have d' : ¬ (i : Int) + 1 < b.bl.length := by omega
        simp (disch := omega) [bl, BB.c19, c, d, d']
        exact h1 _
/-- No number of the first ones is this one. -/
def freshR (l : List B5) (n : Int) : Bool := l.all fun x => !decide (x.nu = n)
theorem r1_loop (b : BB) (hn : b.bl.length ≤ 1000000) (g : Heap) (i : Nat) (hi : i < b.bl.length) : ∀ (m k : Nat), k + m = i → ∀ ks Q,
    (freshR ((b.bl.take i).drop k) b.bl[i].nu = true → ∀ z, Xk T ks (.x 4) ((1, .ptr 0 0) :: (5, .int .i64 i) :: z) (some b.cells :: g) Q) →
    (freshR ((b.bl.take i).drop k) b.bl[i].nu = false → Xk T ks .r [(2, .int .i64 6)] (some b.cells :: g) Q) →
    Xc T l_ref11_Check_1 ks [(1, .ptr 0 0), (5, .int .i64 i), (6, .int .i64 k)] (some b.cells :: g) Q := by
  have bl := b5s_len b.bl
  have gi := b5s_get b.bl i hi
  intro m
  induction m with
  | zero =>
    intro k hk ks Q h1 h2
    have e : (b.bl.take i).drop k = [] := List.drop_eq_nil_of_le (by rw [List.length_take]; omega)
    rw [e] at h1
    have e2 : (k : Int) = i := by omega
    rw [L_ref11_Check_1]; unfold bl_ref11_Check_1
    simp (disch := omega) [e2]
    exact h1 rfl _
  | succ m ih =>
    intro k hk ks Q h1 h2
    have hl : k < b.bl.length := by omega
    have e : (b.bl.take i).drop k = b.bl[k] :: (b.bl.take i).drop (k + 1) := by
      rw [List.drop_eq_getElem_cons (by rw [List.length_take]; omega), List.getElem_take]
    rw [e] at h1 h2
    have gt := b5s_get b.bl k hl
    have ih := ih (k + 1) (by omega)
    rw [show ((k + 1 : Nat) : Int) = (k : Int) + 1 from rfl] at ih
    have hki : k < i := by omega
    rw [L_ref11_Check_1]; unfold bl_ref11_Check_1
    simp (disch := omega) [bl, gt, gi, hi, hl, hki, blkV_cells, BB.c19]
    by_cases c : b.bl[k].nu = b.bl[i].nu
    · simp (disch := omega) [c]
      exact h2 (by simp [freshR, c])
    · simp (disch := omega) [c]
      refine ih ks Q (fun h => h1 ?_) (fun h => h2 ?_)
      · simp only [freshR, List.all_cons] at h ⊢; simp [c, h]
      · simp only [freshR, List.all_cons] at h ⊢; simp only [h, Bool.and_false]
def refF (l : List B5) : Nat → Nat → Bool
  | 0, _ => true
  | m + 1, i => if h : i < l.length then (if l[i].ty = 1 ∨ l[i].nu < 2 ∨ freshR (l.take i) l[i].nu = false then false else refF l m (i + 1)) else true
theorem r2_loop (b : BB) (hn : b.bl.length ≤ 1000000) (g : Heap) : ∀ (m i : Nat), i + m = b.bl.length → ∀ ks Q,
    (refF b.bl m i = true → ∀ z, Xk T ks (.x 2) z (some b.cells :: g) Q) →
    (refF b.bl m i = false → Xk T ks .r [(2, .int .i64 6)] (some b.cells :: g) Q) →
    Xc T l_ref11_Check_2 ks [(1, .ptr 0 0), (5, .int .i64 i)] (some b.cells :: g) Q := by
  have bl := b5s_len b.bl
  intro m
  induction m with
  | zero =>
    intro i hi ks Q h1 h2
    have e2 : ¬ (i : Int) < b.bl.length := by omega
    have e3 : ¬ i < b.bl.length := by omega
    rw [L_ref11_Check_2]; unfold bl_ref11_Check_2
    simp (disch := omega) [bl, e2, e3, BB.c19]
    exact h1 rfl _
  | succ m ih =>
    intro i hi ks Q h1 h2
    have hl : i < b.bl.length := by omega
    have e : refF b.bl (m + 1) i = if b.bl[i].ty = 1 ∨ b.bl[i].nu < 2 ∨ freshR (b.bl.take i) b.bl[i].nu = false then false else refF b.bl m (i + 1) := by
      rw [refF, dif_pos hl]
    rw [e] at h1 h2
    have gt := b5s_get b.bl i hl
    have r1 := r1_loop b hn g i hl i 0 (by omega)
    have ih := ih (i + 1) (by omega)
    rw [show ((i + 1 : Nat) : Int) = (i : Int) + 1 from rfl] at ih
    rw [L_ref11_Check_2]; unfold bl_ref11_Check_2
    simp (disch := omega) [bl, gt, hl, blkV_cells, BB.c19]
    by_cases c1 : b.bl[i].ty = 1
    · simp (disch := omega) [c1]
      exact h2 (by rw [if_pos (.inl c1)])
    by_cases c2 : b.bl[i].nu < 2
    · simp (disch := omega) [bl, gt, hl, blkV_cells, BB.c19, c1, c2]
      exact h2 (by rw [if_pos (.inr (.inl c2))])
    simp (disch := omega) [bl, gt, hl, blkV_cells, BB.c19, c1, c2]
    refine r1 _ _ (fun h z => ?_) (fun h => ?_)
    · have h : freshR (b.bl.take i) b.bl[i].nu = true := h
      simp (disch := omega)
      refine ih ks Q (fun q => h1 ?_) (fun q => h2 ?_)
      · rw [if_neg (by rw [h]; simp [c1, c2]), q]
      · rw [if_neg (by rw [h]; simp [c1, c2]), q]
    · have h : freshR (b.bl.take i) b.bl[i].nu = false := h
      simp (disch := omega)
      exact h2 (by rw [if_pos (.inr (.inr h))])
theorem freshR_false (l : List B5) (n : Int) : freshR l n = false ↔ ∃ x ∈ l, x.nu = n := by
  unfold freshR
  rw [← Bool.not_eq_true, List.all_eq_true]
  constructor
  · intro h
    apply Classical.byContradiction
    intro q
    exact h (fun x hx => by
      have : ¬ x.nu = n := fun e => q ⟨x, hx, e⟩
      simp [this])
  · rintro ⟨x, hx, e⟩ h
    have := h x hx
    simp [e] at this
theorem mem_insU (l : List Int) (a n : Int) : n ∈ insU l a ↔ n ∈ l ∨ n = a := by
  unfold insU
  split
  · rename_i h
    constructor
    · exact .inl
    · rintro (q | rfl)
      · exact q
      · exact h
  · simp
theorem refF_unlF (l : List B5) (hp : ∀ x ∈ l, 0 ≤ x.nu) : ∀ (m i : Nat) (seen : List Int), i + m = l.length → (∀ n, 0 ≤ n → (n ∈ seen ↔ n = 0 ∨ n = 1 ∨ ∃ x ∈ l.take i, x.nu = n)) → refF l m i = unlF seen (l.drop i) := by
  intro m
  induction m with
  | zero =>
    intro i seen hi hs
    have e : l.drop i = [] := List.drop_eq_nil_of_le (by omega)
    rw [e]; rfl
  | succ m ih =>
    intro i seen hi hs
    have hl : i < l.length := by omega
    have e := List.drop_eq_getElem_cons hl
    have h0 := hp l[i] (List.getElem_mem hl)
    rw [e]
    have e1 : refF l (m + 1) i = if l[i].ty = 1 ∨ l[i].nu < 2 ∨ freshR (l.take i) l[i].nu = false then false else refF l m (i + 1) := by rw [refF, dif_pos hl]
    have e2 : unlF seen (l[i] :: l.drop (i + 1)) = if l[i].nu ∈ seen ∨ l[i].ty = 1 then false else unlF (insU seen l[i].nu) (l.drop (i + 1)) := rfl
    rw [e1, e2]
    have q := hs _ h0
    have cc : (l[i].ty = 1 ∨ l[i].nu < 2 ∨ freshR (l.take i) l[i].nu = false) ↔ (l[i].nu ∈ seen ∨ l[i].ty = 1) := by
      rw [q, freshR_false]
      constructor
      · rintro (a | a | a)
        · exact .inr a
        · exact .inl (by omega)
        · exact .inl (.inr (.inr a))
      · rintro ((a | a | a) | a)
        · exact .inr (.inl (by omega))
        · exact .inr (.inl (by omega))
        · exact .inr (.inr a)
        · exact .inl a
    by_cases c : l[i].nu ∈ seen ∨ l[i].ty = 1
    · rw [if_pos c, if_pos (cc.2 c)]
    · rw [if_neg c, if_neg (fun h => c (cc.1 h))]
      refine ih (i + 1) _ (by omega) (fun n hn => ?_)
      rw [mem_insU, hs n hn, List.take_succ, List.getElem?_eq_getElem hl]
      simp only [Option.toList_some, List.mem_append, List.mem_singleton]
      constructor
      · rintro ((a | a | ⟨x, hx, a⟩) | a)
        · exact .inl a
        · exact .inr (.inl a)
        · exact .inr (.inr ⟨x, .inl hx, a⟩)
        · exact .inr (.inr ⟨_, .inr rfl, a.symm⟩)
      · rintro (a | a | ⟨x, hx | hx, a⟩)
        · exact .inl (.inl a)
        · exact .inl (.inr (.inl a))
        · exact .inl (.inr (.inr ⟨x, hx, a⟩))
        · exact .inr (by rw [← a, hx])
theorem ref_unl (l : List B5) (hp : ∀ x ∈ l, 0 ≤ x.nu) : refF l l.length 0 = unlF [0, 1] l := by
  have := refF_unlF l hp l.length 0 [0, 1] (by omega) (fun n _ => by simp)
  simpa using this
theorem r0_stop (b : BB) (hn : b.bl.length ≤ 1000000) (g : Heap) (z : Int) (hz : z ≠ 0) (ks Q) (h1 : ∀ w, Xk T ks (.x 0) ((1, .ptr 0 0) :: (3, .int .i64 z) :: w) (some b.cells :: g) Q) :
    Xc T l_ref11_Check_0 ks [(1, .ptr 0 0), (3, .int .i64 z), (4, .int .i64 0)] (some b.cells :: g) Q := by
  have bl := b5s_len b.bl
  rw [L_ref11_Check_0]; unfold bl_ref11_Check_0
  by_cases d : 0 < b.bl.length
  · have d' : (0 : Int) < b.bl.length := by omega
    simp (disch := omega) [bl, BB.c19, hz, d, d']
    exact h1 _
  · have d' : ¬ (0 : Int) < b.bl.length := by omega
    simp (disch := omega) [bl, BB.c19, hz, d, d']
    exact h1 _
theorem R11Check_run (b : BB) (ok : PPok b.p) (hn : b.bl.length ≤ 1000000) (hp : ∀ x ∈ b.bl, 0 ≤ x.nu) : ∃ h', Run T f_ref11_Check [b.v] [] (.int .i64 (chkB b)) h' := by
  have bl := b5s_len b.bl
  obtain ⟨_, r1⟩ := CheckR_run b.p ok []
  obtain ⟨_, r2⟩ := R9Check_run b.pay.ty b.pay.nu b.pay.fl b.pay.k b.pay.s []
  have tp : V.agg (b.cells.take 19) = b.p.v := rfl
  have ty : V.agg ((b.cells.drop 20).take 5) = blkV b.pay.ty b.pay.nu b.pay.fl b.pay.k b.pay.s := rfl
  have hpp := PP.hf b.p
  have hb : V.hf (blkV b.pay.ty b.pay.nu b.pay.fl b.pay.k b.pay.s) = true := by simp [blkV]
  have lp := r0_loop b hn [] b.bl.length 0 (by omega)
  have l0 := r0_stop b hn []
  have l2 := r2_loop b hn [] b.bl.length 0 (by omega)
  rw [ref_unl b.bl hp] at l2
  refine Run.startE t_ref11_Check ?_
  unfold k_ref11_Check BB.v chkB
  by_cases g1 : 16 < b.bl.length
  · have g1' : (16 : Int) < b.bl.length := by omega
    simp (disch := omega) [bl, BB.c19, BB.len, BB.one, g1, g1']
  have g1' : ¬ (16 : Int) < b.bl.length := by omega
  simp (disch := omega) [bl, BB.c19, BB.len, BB.one, g1, g1', tp]
  rw [Xp_run r1 (by simp [hpp]) rfl (by simp)]
  generalize chkP b.p = z1 at *
  by_cases g2 : z1 = 0
  · simp (disch := omega) [g2, BB.len, ty]
    rw [Xp_run r2 (by simp [hb]) rfl (by simp)]
    generalize chkS b.pay.nu b.pay.k b.pay.s = z2 at *
    by_cases g3 : z2 = 0
    · simp (disch := omega) [g3, BB.len, BB.c19, bl]
      refine lp _ _ (fun z => ?_)
      rw [List.drop_zero]
      by_cases g4 : firstE b.bl = 0
      · simp (disch := omega) [g4, BB.c20, BB.c21]
        by_cases g5 : b.pay.ty = 1
        · by_cases g6 : b.pay.nu = 1
          · simp (disch := omega) [g5, g6, BB.c19, BB.c21]
            refine l2 _ _ (fun h w => ?_) (fun h => ?_)
            · simp (disch := omega) [h]
            · simp (disch := omega) [h]
          · simp (disch := omega) [g5, g6, BB.c21]
        · simp (disch := omega) [g5]
      · simp (disch := omega) [g4]
    · simp (disch := omega) [g3]
      refine l0 _ g3 _ _ (fun w => ?_)
      simp (disch := omega) [g3]
  · simp (disch := omega) [g2]
    refine l0 _ g2 _ _ (fun w => ?_)
    simp (disch := omega) [g2]
theorem same_loop (b : BB) (hn : b.bl.length ≤ 1000000) : ∀ (m i : Nat), i + m = b.bl.length → ∀ ks Q,
    (∀ z, Xk T ks (.x 0) z [some b.cells, some b.cells] Q) →
    Xc T l_ref11_Same_0 ks [(2, .ptr 0 0), (3, .ptr 1 0), (5, .int .i64 i)] [some b.cells, some b.cells] Q := by
  have bl := b5s_len b.bl
  intro m
  induction m with
  | zero =>
    intro i hi ks Q h1
    have e2 : ¬ (i : Int) < b.bl.length := by omega
    have e3 : ¬ i < b.bl.length := by omega
    rw [L_ref11_Same_0]; unfold bl_ref11_Same_0
    simp (disch := omega) [bl, e2, e3, BB.c19]
    exact h1 _
  | succ m ih =>
    intro i hi ks Q h1
    have hl : i < b.bl.length := by omega
    have gt := b5s_get b.bl i hl
    have ih := ih (i + 1) (by omega)
    rw [show ((i + 1 : Nat) : Int) = (i : Int) + 1 from rfl] at ih
    rw [L_ref11_Same_0]; unfold bl_ref11_Same_0
    simp (disch := omega) [bl, gt, hl, blkV_cells, BB.c19]
    exact ih ks Q h1
theorem R11Same_run (b : BB) (hn : b.bl.length ≤ 1000000) : ∃ h', Run T f_ref11_Same [b.v, b.v] [] (.bool true) h' := by
  have bl := b5s_len b.bl
  have tp : V.agg (b.cells.take 19) = b.p.v := rfl
  have ty : V.agg ((b.cells.drop 20).take 5) = blkV b.pay.ty b.pay.nu b.pay.fl b.pay.k b.pay.s := rfl
  have lp := same_loop b hn b.bl.length 0 (by omega)
  refine Run.startE t_ref11_Same ?_
  unfold k_ref11_Same BB.v
  simp (disch := omega) [BB.len, BB.one, tp, ty, PP.v, blkV, BB.c19, bl]
  exact lp _ _ (fun z => by simp)
def xc (ty n fl k : Int) (s : List UInt8) : List V := [.int .u64 ty, .int .u64 n, .int .u64 fl, .int .i64 k, .str s]
def zB : BB := ⟨⟨0, 0, ⟨0, [], 0, 0⟩, ⟨0, [], 0, 0⟩, ⟨0, [], 0, 0⟩, 0, 0, 0, 0, 0⟩, [], ⟨0, 0, 0, 0, []⟩⟩
theorem BB.sp (a b : BB) : spliceL a.cells 0 b.cells = b.cells := rfl
theorem BB.tk (b : BB) : b.cells.take 25 = b.cells := rfl
abbrev sh5 : List CS := [.i .u64, .i .u64, .i .u64, .i .i64, .s]
abbrev sh25 : List CS := [.i .u64, .i .i64, .i .i64, .s, .i .u64, .i .u64, .i .i64, .s, .i .u64, .i .u64, .i .i64, .s, .i .u64, .i .u64, .i .u64, .i .u64, .i .u64, .i .u64, .i .u64, .sl true 48 sh5, .i .u64, .i .u64, .i .u64, .i .i64, .s]
structure B5in (x : B5) : Prop where
  ty : u64B x.ty
  nu : u64B x.nu
  fl : u64B x.fl
  k1 : -9223372036854775808 ≤ x.k
  k2 : x.k ≤ 9223372036854775807
  s : x.s.length ≤ 140737488351232
theorem readB5 (vs : List V) (hr : Row sh5 vs) : ∃ x : B5, V.agg vs = x.v ∧ B5in x := by
  obtain ⟨v0, r0, rfl, t0, hr⟩ := hr.cons
  obtain ⟨v1, r1, rfl, t1, hr⟩ := hr.cons
  obtain ⟨v2, r2, rfl, t2, hr⟩ := hr.cons
  obtain ⟨v3, r3, rfl, t3, hr⟩ := hr.cons
  obtain ⟨v4, r4, rfl, t4, hr⟩ := hr.cons
  obtain rfl := hr.none
  obtain ⟨x0, rfl, a0, b0⟩ := t0.int
  obtain ⟨x1, rfl, a1, b1⟩ := t1.int
  obtain ⟨x2, rfl, a2, b2⟩ := t2.int
  obtain ⟨x3, rfl, a3, b3⟩ := t3.int
  obtain ⟨x4, rfl, a4⟩ := t4.str
  exact ⟨⟨x0, x1, x2, x3, x4⟩, rfl, ⟨⟨a0, b0⟩, ⟨a1, b1⟩, ⟨a2, b2⟩, a3, b3, a4⟩⟩
theorem readB5s : ∀ xs : List V, (∀ y ∈ xs, ∃ vs, y = .agg vs ∧ Row sh5 vs) → ∃ l : List B5, xs = b5s l ∧ ∀ y ∈ l, B5in y
  | [], _ => ⟨[], rfl, fun _ h => nomatch h⟩
  | x :: xs, h => by
    obtain ⟨vs, rfl, hr⟩ := h _ List.mem_cons_self
    obtain ⟨y, e, hy⟩ := readB5 vs hr
    obtain ⟨l, rfl, hl⟩ := readB5s xs (fun y hy => h y (List.mem_cons_of_mem _ hy))
    refine ⟨y :: l, by rw [e]; rfl, fun z hz => ?_⟩
    rcases List.mem_cons.1 hz with q | q
    · rw [q]; exact hy
    · exact hl z q
structure BBin (b : BB) : Prop where
  p : PPin b.p
  bl : ∀ y ∈ b.bl, B5in y
  pay : B5in b.pay
theorem row_cut {ss ts : List CS} {vs : List V} (hr : Row (ss ++ ts) vs) : ∃ as bs, vs = as ++ bs ∧ Row ss as ∧ Row ts bs := by
  refine ⟨vs.take ss.length, vs.drop ss.length, (List.take_append_drop _ _).symm, ?_, ?_⟩
  · obtain ⟨hl, h⟩ := hr
    rw [List.length_append] at hl
    refine ⟨by rw [List.length_take]; omega, fun j h1 h2 => ?_⟩
    have := h j (by rw [List.length_append]; omega) (by omega)
    rw [List.getElem_append_left h1] at this
    rw [List.getElem_take]; exact this
  · obtain ⟨hl, h⟩ := hr
    rw [List.length_append] at hl
    refine ⟨by rw [List.length_drop]; omega, fun j h1 h2 => ?_⟩
    have := h (ss.length + j) (by rw [List.length_append]; omega) (by omega)
    rw [List.getElem_append_right (by omega)] at this
    rw [List.getElem_drop]
    simpa using this
theorem readBB (vs : List V) (hr : Row sh25 vs) : ∃ b : BB, V.agg vs = b.v ∧ BBin b := by
  obtain ⟨as, bs, rfl, h1, h2⟩ := row_cut (ss := sh10) (ts := [.sl true 48 sh5, .i .u64, .i .u64, .i .u64, .i .i64, .s]) hr
  obtain ⟨p, ep, hp⟩ := readPP as h1
  obtain ⟨v, cs, rfl, tv, h3⟩ := h2.cons
  obtain ⟨y, ey, hy⟩ := readB5 cs h3
  obtain ⟨xs, rfl, _, hxs⟩ := tv.elems_agg
  obtain ⟨l, rfl, hl⟩ := readB5s xs hxs
  have e1 : as = p.cells := by have := V.agg.inj (ep.trans (show p.v = .agg p.cells from rfl)); exact this
  have e2 : cs = xc y.ty y.nu y.fl y.k y.s := V.agg.inj (ey.trans (show y.v = .agg (xc y.ty y.nu y.fl y.k y.s) from rfl))
  subst e1 e2
  exact ⟨⟨p, l, y⟩, rfl, ⟨hp, hl, hy⟩⟩
end Ev
