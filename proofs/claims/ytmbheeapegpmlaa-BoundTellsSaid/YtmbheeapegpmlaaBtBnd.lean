/- Bound: the numbers of operations. Each theorem states its own conditions. -/
import Derived.Test.YtmbheeapegpmlaaBtR01
set_option linter.all false
namespace Ev
open Go
set_option maxRecDepth 10000
attribute [-simp] getElem?_pos getElem?_neg
@[simp] theorem row_app_k (h l : Heap) (k : Nat) : Heap.row (h ++ l) (h.length + k) = Heap.row l k := by
  simp [Heap.row, List.getElem?_append_right]
@[simp] theorem row_app_0 (h l : Heap) : Heap.row (h ++ l) h.length = Heap.row l 0 := by
  simp [Heap.row, List.getElem?_append_right]
def inR (lo hi n : Int) : Bool := decide (lo ≤ n ∧ n ≤ hi)
def gR (b p r : Int) : Bool := inR 8 34 b && (inR 4 32 p && inR 0 8 r)
def gV (b p r : Int) : V := .agg [.int .i64 b, .int .i64 p, .int .i64 r]

theorem within_run (n lo hi : Int) (h : Heap) : Run T f_geom_Check_1 [.int .i64 n, .int .i64 lo, .int .i64 hi] h (.bool (inR lo hi n)) h := by
  refine Run.start t_geom_Check_1 ?_
  unfold k_geom_Check_1
  simp (disch := omega)
  apply Xg_dec
  · intro c1
    simp (disch := omega) [c1, inR]
  · intro c1
    simp (disch := omega) [c1, inR]
theorem Check_run (b p r : Int) (h : Heap) : ∃ h', Run T f_geom_Check [gV b p r] h (.int .i64 (if gR b p r = true then 0 else 3)) h' := by
  have hf : T.free f_geom_Check_1 = true := rfl
  refine Run.startE t_geom_Check ?_
  unfold k_geom_Check gV gR
  simp (disch := omega) [hf]
  rw [Xf_run (within_run _ _ _ _)]
  cases c1 : inR 8 34 b
  · simp (disch := omega) [c1, hf]
  · simp (disch := omega) [c1, hf]
    rw [Xf_run (within_run _ _ _ _)]
    cases c2 : inR 4 32 p
    · simp (disch := omega) [c1, c2, hf]
    · simp (disch := omega) [c1, c2, hf]
      rw [Xf_run (within_run _ _ _ _)]
      cases c3 : inR 0 8 r
      · simp (disch := omega) [c1, c2, c3, hf]
      · simp (disch := omega) [c1, c2, c3, hf]
section
variable {ks : List Kt} {ops : List AOpr} {K : Kp} {e : Env} {h : Heap} {Q : Ex → Env → Heap → Prop} {d : Nat} {lent : Bool}
theorem Check_p (b p r : Int) : Xp T f_geom_Check (some ([.agg [.int .i64 b, .int .i64 p, .int .i64 r]], lent)) h (some d) ops K ks e Q = Xo T ops K ks ((d, .int .i64 (if gR b p r = true then 0 else 3)) :: e) h Q := by
  obtain ⟨h', hr⟩ := Check_run b p r []
  exact Xp_run hr (by simp [gV]) rfl (by simp [scalar])
end
def gW (b p r : Int) : Int := if gR b p r = true then 16 * p + 20 else 0
def gM (b p r : Int) : Int := if gR b p r = true then 4 else 0
theorem gR_p {b p r : Int} (h : gR b p r = true) : 4 ≤ p ∧ p ≤ 32 := by simp [gR, inR] at h; omega
theorem gW_le (b p r : Int) : 0 ≤ gW b p r ∧ gW b p r ≤ 532 := by
  unfold gW
  split
  · rename_i h; have := gR_p h; omega
  · omega
theorem Write_run (b p r : Int) (h : Heap) : ∃ h', Run T f_bound_Write [gV b p r] h (.int .i64 (gW b p r)) h' := by
  refine Run.startE t_bound_Write ?_
  unfold k_bound_Write gV gW
  simp (disch := omega) [Check_p]
  cases c : gR b p r
  · simp (disch := omega)
  · have := gR_p c
    simp (disch := omega)
theorem Mount_run (b p r : Int) (h : Heap) : ∃ h', Run T f_bound_Mount [gV b p r] h (.int .i64 (gM b p r)) h' := by
  refine Run.startE t_bound_Mount ?_
  unfold k_bound_Mount gV gM
  simp (disch := omega) [Check_p]
  cases c : gR b p r
  · simp (disch := omega)
  · simp (disch := omega)
section
variable {ks : List Kt} {ops : List AOpr} {K : Kp} {e : Env} {h : Heap} {Q : Ex → Env → Heap → Prop} {d : Nat} {lent : Bool}
theorem Write_p (b p r : Int) : Xp T f_bound_Write (some ([.agg [.int .i64 b, .int .i64 p, .int .i64 r]], lent)) h (some d) ops K ks e Q = Xo T ops K ks ((d, .int .i64 (gW b p r)) :: e) h Q := by
  obtain ⟨h', hr⟩ := Write_run b p r []
  exact Xp_run hr (by simp [gV]) rfl (by simp [scalar])
theorem Mount_p (b p r : Int) : Xp T f_bound_Mount (some ([.agg [.int .i64 b, .int .i64 p, .int .i64 r]], lent)) h (some d) ops K ks e Q = Xo T ops K ks ((d, .int .i64 (gM b p r)) :: e) h Q := by
  obtain ⟨h', hr⟩ := Mount_run b p r []
  exact Xp_run hr (by simp [gV]) rfl (by simp [scalar])
end
/-- Sweeps of the pools. -/
def swN (o : Int) : Int := (min (max o 0) 4096 + 15) / 16
theorem Ingest_run (b p r o : Int) (h : Heap) : ∃ h', Run T f_bound_Ingest [gV b p r, .int .i64 o] h (.int .i64 (gW b p r * (1 + swN o))) h' := by
  refine Run.startE t_bound_Ingest ?_
  unfold k_bound_Ingest gV
  have e1 : (min (max o 0) 4096 + 16 - 1).tdiv 16 = swN o := by
    rw [Int.tdiv_eq_ediv_of_nonneg (by omega)]
    unfold swN
    omega
  obtain ⟨s, hs⟩ : ∃ s, s = swN o := ⟨_, rfl⟩
  have hs2 : 0 ≤ s ∧ s ≤ 256 := by rw [hs]; unfold swN; omega
  have hw := gW_le b p r
  obtain ⟨w, hw2⟩ : ∃ w, w = gW b p r := ⟨_, rfl⟩
  rw [← hs, ← hw2]
  have hp : 0 ≤ w * (1 + s) ∧ w * (1 + s) ≤ 532 * 257 := ⟨Int.mul_nonneg (by omega) (by omega), Int.mul_le_mul (by omega) (by omega) (by omega) (by omega)⟩
  simp (disch := omega) [Write_p, e1, ← hs, ← hw2]
def frN (n : Int) : Int := if n < 1 then 0 else (n - 1) / 100 + 1
theorem Frames_run (n : Int) (hn : n < 1000001) (h : Heap) : Run T f_bound_Frames [.int .i64 n] h (.int .i64 (frN n)) h := by
  refine Run.start t_bound_Frames ?_
  unfold k_bound_Frames
  simp (disch := omega)
  apply Xb_dec
  · intro c1
    simp (disch := omega) [c1, frN]
  · intro c1
    have e1 : (n - 1).tdiv 100 = (n - 1) / 100 := Int.tdiv_eq_ediv_of_nonneg (by omega)
    simp (disch := omega) [c1, frN, e1]
theorem RRight_run (b p r : Int) (h : Heap) : ∃ h', Run T f_ref13_Right [gV b p r] h (.bool (gR b p r)) h' := by
  refine Run.startE t_ref13_Right ?_
  unfold k_ref13_Right gV gR inR
  simp (disch := omega)
  by_cases c1 : 8 ≤ b <;> by_cases c2 : b ≤ 34 <;> by_cases c3 : 4 ≤ p <;> by_cases c4 : p ≤ 32 <;> by_cases c5 : 0 ≤ r <;> by_cases c6 : r ≤ 8 <;> first | (exfalso; omega) | simp (disch := omega) [c1, c2, c3, c4, c5, c6]
theorem rfr_loop (n : Int) (hn : n < 1000001) (h : Heap) : ∀ (m : Nat) (i : Int), frN n - i ≤ m → 0 ≤ i → i ≤ frN n → ∀ ks Q, (∀ e, Xk T ks (.x 0) ([(0, .int .i64 n), (3, .int .i64 (frN n))] ++ e) h Q) → Xc T l_ref27_Frames_0 ks [(0, .int .i64 n), (3, .int .i64 i)] h Q := by
  intro m
  have hf : frN n = if n < 1 then 0 else (n - 1) / 100 + 1 := rfl
  induction m with
  | zero =>
    intro i hm h0 hi ks Q hx
    rw [L_ref27_Frames_0]; unfold bl_ref27_Frames_0
    have e : i = frN n := by omega
    have c1 : ¬ 100 * i < n := by rw [e, hf]; split <;> omega
    have b1 : frN n ≤ 10001 := by rw [hf]; split <;> omega
    have b2 : 0 ≤ frN n := by rw [hf]; split <;> omega
    subst e
    simp (disch := omega) [c1]
    exact hx _
  | succ m ih =>
    intro i hm h0 hi ks Q hx
    rw [L_ref27_Frames_0]; unfold bl_ref27_Frames_0
    have b1 : frN n ≤ 10001 := by rw [hf]; split <;> omega
    by_cases e : i = frN n
    · have c1 : ¬ 100 * i < n := by rw [e, hf]; split <;> omega
      subst e
      simp (disch := omega) [c1]
      exact hx _
    · have c1 : 100 * i < n := by rw [hf] at hi e; split at hi <;> omega
      have c2 : i < 100000 := by omega
      simp (disch := omega) [c1, c2]
      exact ih (i + 1) (by omega) (by omega) (by omega) ks Q hx
theorem RFrames_run (n : Int) (hn : n < 1000001) (h : Heap) : Run T f_ref27_Frames [.int .i64 n] h (.int .i64 (frN n)) h := by
  refine Run.start t_ref27_Frames ?_
  unfold k_ref27_Frames
  simp (disch := omega)
  have b2 : 0 ≤ frN n := by unfold frN; split <;> omega
  refine rfr_loop n hn h (frN n).toNat 0 (by omega) (by omega) b2 _ _ fun e => ?_
  simp (disch := omega)
theorem awake40 : ∃ h', Run T f_law40_awake [] [] (.bool true) h' := Run.closed (n := 100) (by kernel_rfl)
section
variable {ks : List Kt} {ops : List AOpr} {K : Kp} {e : Env} {h : Heap} {Q : Ex → Env → Heap → Prop} {d : Nat} {lent : Bool}
theorem Ingest_p (b p r o : Int) : Xp T f_bound_Ingest (some ([.agg [.int .i64 b, .int .i64 p, .int .i64 r], .int .i64 o], lent)) h (some d) ops K ks e Q = Xo T ops K ks ((d, .int .i64 (gW b p r * (1 + swN o))) :: e) h Q := by
  obtain ⟨h', hr⟩ := Ingest_run b p r o []
  exact Xp_run hr (by simp [gV]) rfl (by simp [scalar])
theorem RRight_p (b p r : Int) : Xp T f_ref13_Right (some ([.agg [.int .i64 b, .int .i64 p, .int .i64 r]], lent)) h (some d) ops K ks e Q = Xo T ops K ks ((d, .bool (gR b p r)) :: e) h Q := by
  obtain ⟨h', hr⟩ := RRight_run b p r []
  exact Xp_run hr (by simp [gV]) rfl (by simp [scalar])
theorem Frames_p (n : Int) (hn : n < 1000001) : Xp T f_bound_Frames (some ([.int .i64 n], lent)) h (some d) ops K ks e Q = Xo T ops K ks ((d, .int .i64 (frN n)) :: e) h Q :=
  Xp_run (Frames_run n hn []) (by simp) rfl (by simp [scalar])
theorem RFrames_p (n : Int) (hn : n < 1000001) : Xp T f_ref27_Frames (some ([.int .i64 n], lent)) h (some d) ops K ks e Q = Xo T ops K ks ((d, .int .i64 (frN n)) :: e) h Q :=
  Xp_run (RFrames_run n hn []) (by simp) rfl (by simp [scalar])
theorem awake40_p : Xp T f_law40_awake (some ([], lent)) h (some d) ops K ks e Q = Xo T ops K ks ((d, .bool true) :: e) h Q := by
  obtain ⟨h', hr⟩ := awake40
  exact Xp_run hr (by simp) rfl (by simp [scalar])
theorem LowH_p (a b : Int) : Xp T f_ref01_Low (some ([.int .i64 a, .int .i64 b], lent)) h (some d) ops K ks e Q = Xo T ops K ks ((d, .int .i64 (min a b)) :: e) h Q :=
  Xp_run (Low_run a b []) (by simp) rfl (by simp [scalar])
theorem HighH_p (a b : Int) : Xp T f_ref01_High (some ([.int .i64 a, .int .i64 b], lent)) h (some d) ops K ks e Q = Xo T ops K ks ((d, .int .i64 (max a b)) :: e) h Q :=
  Xp_run (High_run a b []) (by simp) rfl (by simp [scalar])
end
def stN (b p r k o : Int) : Int := if k = 8 then gW b p r * (1 + swN o) else if k = 1 ∨ k = 5 then gW b p r else if k = 9 then gM b p r else 0
theorem by_run (b p r : Int) (f c : Nat) (v : V) (h : Heap) (hf : T.free f = true) (hr : h.row c = some [.int .i64 b, .int .i64 p, .int .i64 r]) (hc : ∀ h, ∃ h', Run T f [gV b p r] h v h') : ∃ h', Run T f_bound_Step_1 [.fn f [], .ptr c 0] h v h' := by
  obtain ⟨h', hr2⟩ := hc h
  unfold gV at hr2
  refine Run.startE t_bound_Step_1 ?_
  unfold k_bound_Step_1
  simp (disch := omega) [hr, hf]
  rw [Xf_run hr2]
  simp (disch := omega)
theorem Step_run (b p r k pr x y o : Int) (ds : List UInt8) (h : Heap) : ∃ h', Run T f_bound_Step [gV b p r, .agg [.int .i64 k, .str ds, .int .i64 pr, .int .u64 x, .int .u64 y], .int .i64 o] h (.int .i64 (stN b p r k o)) h' := by
  have f1 : T.free f_bound_Step_1 = true := rfl
  have f2 : T.free f_bound_Write = true := rfl
  have f3 : T.free f_bound_Mount = true := rfl
  refine Run.startE t_bound_Step ?_
  unfold k_bound_Step gV stN
  obtain ⟨g, hg⟩ : ∃ g, g = h ++ [some [V.int .i64 b, .int .i64 p, .int .i64 r], some [V.int .i64 k, .str ds, .int .i64 pr, .int .u64 x, .int .u64 y]] := ⟨_, rfl⟩
  have hrow : g.row h.length = some [V.int .i64 b, .int .i64 p, .int .i64 r] := by rw [hg]; simp
  have hrow2 : g.row (h.length + 1) = some [V.int .i64 k, .str ds, .int .i64 pr, .int .u64 x, .int .u64 y] := by rw [hg]; simp
  simp (disch := omega) [← hg, hrow, hrow2]
  clear hg
  by_cases c1 : k = 8
  · simp (disch := omega) [c1, Ingest_p, hrow]
  · by_cases c2 : k = 1
    · obtain ⟨h', hr⟩ := by_run b p r f_bound_Write h.length (.int .i64 (gW b p r)) g f2 hrow (Write_run b p r)
      simp (disch := omega) [c2, f1]
      rw [Xf_run hr]
      simp (disch := omega)
    · by_cases c3 : k = 5
      · obtain ⟨h', hr⟩ := by_run b p r f_bound_Write h.length (.int .i64 (gW b p r)) g f2 hrow (Write_run b p r)
        simp (disch := omega) [c3, f1]
        rw [Xf_run hr]
        simp (disch := omega)
      · by_cases c4 : k = 9
        · obtain ⟨h', hr⟩ := by_run b p r f_bound_Mount h.length (.int .i64 (gM b p r)) g f3 hrow (Mount_run b p r)
          simp (disch := omega) [c4, f1]
          rw [Xf_run hr]
          simp (disch := omega)
        · simp (disch := omega) [c1, c2, c3, c4, f1]
section
variable {ks : List Kt} {ops : List AOpr} {K : Kp} {e : Env} {h : Heap} {Q : Ex → Env → Heap → Prop} {d : Nat} {lent : Bool}
theorem Step_p (b p r k pr x y o : Int) (ds : List UInt8) : Xp T f_bound_Step (some ([.agg [.int .i64 b, .int .i64 p, .int .i64 r], .agg [.int .i64 k, .str ds, .int .i64 pr, .int .u64 x, .int .u64 y], .int .i64 o], lent)) h (some d) ops K ks e Q = Xo T ops K ks ((d, .int .i64 (stN b p r k o)) :: e) h Q := by
  obtain ⟨h', hr⟩ := Step_run b p r k pr x y o ds []
  exact Xp_run hr (by simp [gV]) rfl (by simp [scalar])
end
theorem bt_loop (v3 v4 v5 v6 v8 : V) (w k : Int) (h : Heap) (hw : 0 ≤ w ∧ w ≤ 532) (hk : 0 ≤ k ∧ k ≤ 4096) : ∀ (m : Nat) (i : Int), (k + 15) / 16 - i ≤ m → 0 ≤ i → i ≤ (k + 15) / 16 → ∀ ks Q,
    (∀ e, Xk T ks (.x 0) ([(3, v3), (4, v4), (5, v5), (6, v6), (7, .int .i64 w), (8, v8), (9, .int .i64 k), (10, .int .i64 (w * (1 + (k + 15) / 16)))] ++ e) h Q) →
    Xc T l_law40_BoundTells_0 ks [(3, v3), (4, v4), (5, v5), (6, v6), (7, .int .i64 w), (8, v8), (9, .int .i64 k), (10, .int .i64 (w * (1 + i))), (11, .int .i64 (16 * i))] h Q := by
  intro m
  induction m with
  | zero =>
    intro i hm h0 hi ks Q hx
    rw [L_law40_BoundTells_0]; unfold bl_law40_BoundTells_0
    have e : i = (k + 15) / 16 := by omega
    have c1 : ¬ 16 * i < k := by omega
    rw [← e] at hx
    simp (disch := omega) [c1]
    exact hx _
  | succ m ih =>
    intro i hm h0 hi ks Q hx
    rw [L_law40_BoundTells_0]; unfold bl_law40_BoundTells_0
    by_cases e : i = (k + 15) / 16
    · have c1 : ¬ 16 * i < k := by omega
      rw [← e] at hx
      simp (disch := omega) [c1]
      exact hx _
    · have c1 : 16 * i < k := by omega
      have b1 : 0 ≤ w * (1 + i) ∧ w * (1 + i) ≤ 532 * 257 := ⟨Int.mul_nonneg (by omega) (by omega), Int.mul_le_mul (by omega) (by omega) (by omega) (by omega)⟩
      have := ih (i + 1) (by omega) (by omega) (by omega) ks Q hx
      have e1 : w * (1 + (i + 1)) = w * (1 + i) + w := by rw [show 1 + (i + 1) = (1 + i) + 1 by omega, Int.mul_add, Int.mul_one]
      have e2 : 16 * (i + 1) = 16 * i + 16 := by omega
      rw [e1, e2] at this
      generalize w * (1 + i) = z at this b1
      simp (disch := omega) [c1]
      exact this
end Ev
