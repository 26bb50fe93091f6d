/- The greater of two numbers, as the reference has it. Each theorem states its own conditions. -/
import Derived.Test.YtienkohkbihdoaaDoorLBy
set_option linter.all false
namespace Ev
open Go
set_option maxRecDepth 10000
attribute [-simp] getElem?_pos getElem?_neg
theorem High_run (a b : Int) (h : Heap) : Run T f_ref01_High [.int .i64 a, .int .i64 b] h (.int .i64 (max a b)) h := by
  refine Run.start t_ref01_High ?_
  unfold k_ref01_High
  simp (disch := omega)
  apply Xb_dec
  · intro hh; simp (disch := omega); omega
  · intro hh; simp (disch := omega); omega
section
variable {ks : List Kt} {ops : List AOpr} {K : Kp} {e : Env} {h : Heap} {Q : Ex → Env → Heap → Prop} {d : Nat} {lent : Bool}
theorem High_pb (a b : Int) : Xp T f_ref01_High (some ([.int .i64 a, .int .i64 b], lent)) h (some d) ops K ks e Q = Xo T ops K ks ((d, .int .i64 (max a b)) :: e) h Q :=
  Xp_run (High_run a b []) (by simp) rfl (by simp [scalar])
end
end Ev
