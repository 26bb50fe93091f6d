/- Wear: which block is worn least, which most. Each theorem states its own conditions. -/
import Derived.Test.YtmbheeapegpmlaaWR01
set_option linter.all false
namespace Ev
open Go
set_option maxRecDepth 10000
attribute [-simp] getElem?_pos getElem?_neg

section
variable {ks : List Kt} {ops : List AOpr} {K : Kp} {e : Env} {h : Heap} {Q : Ex → Env → Heap → Prop} {d : Nat} {lent : Bool}
theorem Ints_p (a b : List Int) (ha : a.length < 4611686018427387904) : Xp T f_ref01_Ints (some ([.ps 1 (ints a), .ps 1 (ints b)], lent)) h (some d) ops K ks e Q = Xo T ops K ks ((d, .bool (decide (a = b))) :: e) h Q :=
  Xp_run (Ints_run a b [] ha) (by simp [ints_hfs]) rfl (by simp [scalar])
theorem Has_p (l : List Int) (x : Int) (hl : l.length < 4611686018427387904) : Xp T f_ref13_Has (some ([.ps 1 (ints l), .int .i64 x], lent)) h (some d) ops K ks e Q = Xo T ops K ks ((d, .bool (decide (x ∈ l))) :: e) h Q :=
  Xp_run (Has_run l x [] hl) (by simp [ints_hfs]) rfl (by simp [scalar])
theorem High_p (a b : Int) : Xp T f_ref01_High (some ([.int .i64 a, .int .i64 b], lent)) h (some d) ops K ks e Q = Xo T ops K ks ((d, .int .i64 (max a b)) :: e) h Q :=
  Xp_run (High_run a b []) (by simp) rfl (by simp [scalar])
theorem Low_p (a b : Int) : Xp T f_ref01_Low (some ([.int .i64 a, .int .i64 b], lent)) h (some d) ops K ks e Q = Xo T ops K ks ((d, .int .i64 (min a b)) :: e) h Q :=
  Xp_run (Low_run a b []) (by simp) rfl (by simp [scalar])
end

def ofS (c : List Int) (b : Int) : Int := if b < 0 then 0 else max (c.getD b.toNat 0) 0
theorem ofS_ge (c : List Int) (b : Int) : 0 ≤ ofS c b := by unfold ofS; split <;> omega

theorem Of_run (c : List Int) (b : Int) (h : Heap) (hc : c.length < 4611686018427387904) : Run T f_wear_Of [.ps 1 (ints c), .int .i64 b] h (.int .i64 (ofS c b)) h := by
  refine Run.start t_wear_Of ?_
  unfold k_wear_Of
  simp (disch := omega)
  apply Xg_decn
  · intro c1
    simp (disch := omega) [c1, ints_len]
    apply Xb_dec
    · intro c2
      simp (disch := omega) [ofS, c1]
      rw [List.getElem?_eq_none (by omega)]
      rfl
    · intro c2
      have hb : b.toNat < c.length := by omega
      simp (disch := omega) [ofS, c1, ints_get, List.getElem?_eq_getElem hb]
  · intro c1
    simp (disch := omega) [c1, ofS]
theorem ROf_run (c : List Int) (b : Int) (h : Heap) (hc : c.length < 4611686018427387904) : Run T f_ref21_Of [.ps 1 (ints c), .int .i64 b] h (.int .i64 (ofS c b)) h := by
  refine Run.start t_ref21_Of ?_
  unfold k_ref21_Of
  simp (disch := omega)
  apply Xg_decn
  · intro c1
    simp (disch := omega) [c1, ints_len]
    apply Xg_decn
    · intro c2
      have hb : b.toNat < c.length := by omega
      simp (disch := omega) [c2, ofS, c1, ints_get, List.getElem?_eq_getElem hb]
      apply Xb_dec
      · intro c3
        simp (disch := omega)
        omega
      · intro c3
        simp (disch := omega) [ints_get, List.getElem?_eq_getElem hb]
        omega
    · intro c2
      simp (disch := omega) [c2, ofS, c1]
      rw [List.getElem?_eq_none (by omega)]
      rfl
  · intro c1
    simp (disch := omega) [c1, ofS]

section
variable {ks : List Kt} {ops : List AOpr} {K : Kp} {e : Env} {h : Heap} {Q : Ex → Env → Heap → Prop} {d : Nat} {lent : Bool}
theorem Of_p (c : List Int) (b : Int) (hc : c.length < 4611686018427387904) : Xp T f_wear_Of (some ([.ps 1 (ints c), .int .i64 b], lent)) h (some d) ops K ks e Q = Xo T ops K ks ((d, .int .i64 (ofS c b)) :: e) h Q :=
  Xp_run (Of_run c b [] hc) (by simp [ints_hfs]) rfl (by simp [scalar])
theorem ROf_p (c : List Int) (b : Int) (hc : c.length < 4611686018427387904) : Xp T f_ref21_Of (some ([.ps 1 (ints c), .int .i64 b], lent)) h (some d) ops K ks e Q = Xo T ops K ks ((d, .int .i64 (ofS c b)) :: e) h Q :=
  Xp_run (ROf_run c b [] hc) (by simp [ints_hfs]) rfl (by simp [scalar])
end

def aheadL (c : List Int) (a b : Int) : Bool := decide (ofS c a < ofS c b) || (decide (ofS c a = ofS c b) && decide (a < b))
def aheadM (c : List Int) (a b : Int) : Bool := decide (ofS c b < ofS c a) || (decide (ofS c a = ofS c b) && decide (a < b))

theorem Least1_run (c : List Int) (a b : Int) (g : Heap) (hg : g.row 0 = some [.ps 1 (ints c)]) (hc : c.length < 4611686018427387904) : Run T f_wear_Least_1 [.int .i64 a, .int .i64 b, .ptr 0 0] g (.bool (aheadL c a b)) g := by
  refine Run.start t_wear_Least_1 ?_
  unfold k_wear_Least_1
  simp (disch := omega) [hg, Of_p]
  apply Xg_decn
  · intro c1
    simp (disch := omega) [c1]
    apply Xg_dec
    · intro c2
      simp (disch := omega) [c2, aheadL]
    · intro c2
      simp (disch := omega) [c1, c2, aheadL]
  · intro c1
    simp (disch := omega) [c1, aheadL]
theorem Most1_run (c : List Int) (a b : Int) (g : Heap) (hg : g.row 0 = some [.ps 1 (ints c)]) (hc : c.length < 4611686018427387904) : Run T f_wear_Most_1 [.int .i64 a, .int .i64 b, .ptr 0 0] g (.bool (aheadM c a b)) g := by
  refine Run.start t_wear_Most_1 ?_
  unfold k_wear_Most_1
  simp (disch := omega) [hg, Of_p]
  apply Xg_decn
  · intro c1
    simp (disch := omega) [c1]
    apply Xg_dec
    · intro c2
      simp (disch := omega) [c2, aheadM]
    · intro c2
      simp (disch := omega) [c1, c2, aheadM]
  · intro c1
    simp (disch := omega) [c1, aheadM]

/-- The foremost of a list. -/
def bestS (ahead : Int → Int → Bool) : List Int → Int
  | [] => 0
  | x :: r => r.foldl (fun out b => if ahead b out then b else out) x
theorem bestS_app (ahead : Int → Int → Bool) (l : List Int) (b : Int) (hl : l ≠ []) : bestS ahead (l ++ [b]) = if ahead b (bestS ahead l) then b else bestS ahead l := by
  cases l with
  | nil => exact absurd rfl hl
  | cons x r =>
    show (r ++ [b]).foldl _ x = _
    rw [List.foldl_append]; rfl
theorem bestS_nil (ahead : Int → Int → Bool) : bestS ahead [] = 0 := rfl
theorem bestS_one (ahead : Int → Int → Bool) (x : Int) : bestS ahead [x] = x := rfl

theorem best_loop (f : Nat) (ahead : Int → Int → Bool) (l : List Int) (cap : List V) (g : Heap) (hf : T.free f = true) (hl : l.length < 4611686018427387904)
    (hah : ∀ a b, Run T f (.int .i64 a :: .int .i64 b :: cap) g (.bool (ahead a b)) g) : ∀ (k i : Nat), i + k = l.length → ∀ ks Q,
      Xk T ks (.x 0) [(0, .ps 1 (ints l)), (1, .fn f cap), (6, .int .i64 (bestS ahead l)), (9, .ps 1 (ints l)), (10, .int .i64 l.length), (11, .int .i64 l.length), (12, .bool false)] g Q →
      Xc T l_wear_best_0 ks [(0, .ps 1 (ints l)), (1, .fn f cap), (6, .int .i64 (bestS ahead (l.take i))), (9, .ps 1 (ints l)), (10, .int .i64 l.length), (11, .int .i64 i)] g Q := by
  intro k
  induction k with
  | zero =>
    intro i hk ks Q hQ
    rw [L_wear_best_0]; unfold bl_wear_best_0
    have e1 : i = l.length := by omega
    subst e1
    simp (disch := omega)
    simpa using hQ
  | succ k ih =>
    intro i hk ks Q hQ
    rw [L_wear_best_0]; unfold bl_wear_best_0
    have e1 : i < l.length := by omega
    have e3 : (i : Int) < l.length := by omega
    have ht : l.take (i + 1) = l.take i ++ [l[i]] := by rw [List.take_succ, List.getElem?_eq_getElem e1]; rfl
    have hn := ih (i + 1) (by omega) ks Q hQ
    simp (disch := omega) [e3, ints_get, List.getElem?_eq_getElem e1]
    rcases Nat.eq_zero_or_pos i with h0 | h0
    · subst h0
      simp (disch := omega)
      rw [ht] at hn
      simpa [bestS_one] using hn
    · have h1 : ¬ (i : Int) = 0 := by omega
      have h2 : i ≠ 0 := by omega
      have hne : l.take i ≠ [] := by
        intro hh
        rcases List.take_eq_nil_iff.1 hh with e | e
        · omega
        · rw [e] at e1; simp at e1
      rw [ht, bestS_app _ _ _ hne] at hn
      simp (disch := omega) [h2, hf]
      rw [Xf_run (hah _ _)]
      simp (disch := omega)
      apply Xb_intro
      · intro hb
        simp (disch := omega)
        rw [hb] at hn
        simpa using hn
      · intro hb
        simp (disch := omega)
        rw [hb] at hn
        simpa using hn
theorem best_run (f : Nat) (ahead : Int → Int → Bool) (l : List Int) (cap : List V) (g : Heap) (hf : T.free f = true) (hl : l.length < 4611686018427387904)
    (hah : ∀ a b, Run T f (.int .i64 a :: .int .i64 b :: cap) g (.bool (ahead a b)) g) : Run T f_wear_best [.ps 1 (ints l), .fn f cap] g (.tup [.int .i64 (bestS ahead l), .bool (decide (l ≠ []))]) g := by
  refine Run.start t_wear_best ?_
  unfold k_wear_best
  simp (disch := omega) [ints_len]
  have := best_loop f ahead l cap g hf hl hah l.length 0 (by omega)
  simp [bestS_nil] at this
  refine this _ _ ?_
  simp (disch := omega) [ints_len]
  cases l <;> simp
theorem Least_run (l c : List Int) (hl : l.length < 4611686018427387904) (hc : c.length < 4611686018427387904) : Run T f_wear_Least [.ps 1 (ints l), .ps 1 (ints c)] [] (.tup [.int .i64 (bestS (aheadL c) l), .bool (decide (l ≠ []))]) [some [.ps 1 (ints c)]] := by
  refine Run.start t_wear_Least ?_
  unfold k_wear_Least
  simp (disch := omega)
  have := best_run f_wear_Least_1 (aheadL c) l [.ptr 0 0] [some [.ps 1 (ints c)]] rfl hl (fun a b => Least1_run c a b _ (by simp) hc)
  simp at this
  rw [Xf_run this]
  simp (disch := omega)
theorem Most_run (l c : List Int) (hl : l.length < 4611686018427387904) (hc : c.length < 4611686018427387904) : Run T f_wear_Most [.ps 1 (ints l), .ps 1 (ints c)] [] (.tup [.int .i64 (bestS (aheadM c) l), .bool (decide (l ≠ []))]) [some [.ps 1 (ints c)]] := by
  refine Run.start t_wear_Most ?_
  unfold k_wear_Most
  simp (disch := omega)
  have := best_run f_wear_Most_1 (aheadM c) l [.ptr 0 0] [some [.ps 1 (ints c)]] rfl hl (fun a b => Most1_run c a b _ (by simp) hc)
  simp at this
  rw [Xf_run this]
  simp (disch := omega)
section
variable {ks : List Kt} {ops : List AOpr} {K : Kp} {e : Env} {h : Heap} {Q : Ex → Env → Heap → Prop} {d : Nat} {lent : Bool}
theorem Least_p (l c : List Int) (hl : l.length < 4611686018427387904) (hc : c.length < 4611686018427387904) : Xp T f_wear_Least (some ([.ps 1 (ints l), .ps 1 (ints c)], lent)) h (some d) ops K ks e Q = Xo T ops K ks ((d, .tup [.int .i64 (bestS (aheadL c) l), .bool (decide (l ≠ []))]) :: e) h Q :=
  Xp_run (Least_run l c hl hc) (by simp [ints_hfs]) (by simp) (by simp [scalar])
theorem Most_p (l c : List Int) (hl : l.length < 4611686018427387904) (hc : c.length < 4611686018427387904) : Xp T f_wear_Most (some ([.ps 1 (ints l), .ps 1 (ints c)], lent)) h (some d) ops K ks e Q = Xo T ops K ks ((d, .tup [.int .i64 (bestS (aheadM c) l), .bool (decide (l ≠ []))]) :: e) h Q :=
  Xp_run (Most_run l c hl hc) (by simp [ints_hfs]) (by simp) (by simp [scalar])
end
end Ev
