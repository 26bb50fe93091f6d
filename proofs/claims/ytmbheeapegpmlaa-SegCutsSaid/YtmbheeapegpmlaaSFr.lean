/- How many frames bytes have. Each theorem states its own conditions. -/
import Derived.Test.YtmbheeapegpmlaaSB
set_option linter.all false
namespace Ev
open Go
set_option maxRecDepth 10000
attribute [-simp] getElem?_pos getElem?_neg
def frN (n : Int) : Int := if n < 1 then 0 else (n - 1) / 100 + 1
theorem rfr_loop (n : Int) (hn : n < 1000001) (h : Heap) : ∀ (m : Nat) (i : Int), frN n - i ≤ m → 0 ≤ i → i ≤ frN n → ∀ ks Q, (∀ e, Xk T ks (.x 0) ([(0, .int .i64 n), (3, .int .i64 (frN n))] ++ e) h Q) → Xc T l_ref27_Frames_0 ks [(0, .int .i64 n), (3, .int .i64 i)] h Q := by
  intro m
  have hf : frN n = if n < 1 then 0 else (n - 1) / 100 + 1 := rfl
  induction m with
  | zero =>
    intro i hm h0 hi ks Q hx
    rw [L_ref27_Frames_0]; unfold bl_ref27_Frames_0
    have e : i = frN n := by omega
    have c1 : ¬ 100 * i < n := by rw [e, hf]; split <;> omega
    have b1 : frN n ≤ 10001 := by rw [hf]; split <;> omega
    have b2 : 0 ≤ frN n := by rw [hf]; split <;> omega
    subst e
    simp (disch := omega) [c1]
    exact hx _
  | succ m ih =>
    intro i hm h0 hi ks Q hx
    rw [L_ref27_Frames_0]; unfold bl_ref27_Frames_0
    have b1 : frN n ≤ 10001 := by rw [hf]; split <;> omega
    by_cases e : i = frN n
    · have c1 : ¬ 100 * i < n := by rw [e, hf]; split <;> omega
      subst e
      simp (disch := omega) [c1]
      exact hx _
    · have c1 : 100 * i < n := by rw [hf] at hi e; split at hi <;> omega
      have c2 : i < 100000 := by omega
      simp (disch := omega) [c1, c2]
      exact ih (i + 1) (by omega) (by omega) (by omega) ks Q hx
theorem RFrames_run (n : Int) (hn : n < 1000001) (h : Heap) : Run T f_ref27_Frames [.int .i64 n] h (.int .i64 (frN n)) h := by
  refine Run.start t_ref27_Frames ?_
  unfold k_ref27_Frames
  simp (disch := omega)
  have b2 : 0 ≤ frN n := by unfold frN; split <;> omega
  refine rfr_loop n hn h (frN n).toNat 0 (by omega) (by omega) b2 _ _ fun e => ?_
  simp (disch := omega)
theorem IFrames_run (n : Int) (hn : n < 9223372036854775808) (h : Heap) : Run T f_index_Frames [.int .i64 n] h (.int .i64 (frN n)) h := by
  refine Run.start t_index_Frames ?_
  unfold k_index_Frames
  simp (disch := omega)
  apply Xb_dec
  · intro c1
    simp (disch := omega) [c1, frN]
  · intro c1
    have e1 : (n - 1).tdiv 100 = (n - 1) / 100 := Int.tdiv_eq_ediv_of_nonneg (by omega)
    simp (disch := omega) [c1, frN, e1]
section
variable {ks : List Kt} {ops : List AOpr} {K : Kp} {e : Env} {h : Heap} {Q : Ex → Env → Heap → Prop} {d : Nat} {lent : Bool}
theorem RFrames_p (n : Int) (hn : n < 1000001) : Xp T f_ref27_Frames (some ([.int .i64 n], lent)) h (some d) ops K ks e Q = Xo T ops K ks ((d, .int .i64 (frN n)) :: e) h Q :=
  Xp_run (RFrames_run n hn []) (by simp) rfl (by simp [scalar])
theorem IFrames_p (n : Int) (hn : n < 9223372036854775808) : Xp T f_index_Frames (some ([.int .i64 n], lent)) h (some d) ops K ks e Q = Xo T ops K ks ((d, .int .i64 (frN n)) :: e) h Q :=
  Xp_run (IFrames_run n hn []) (by simp) rfl (by simp [scalar])
end
end Ev
