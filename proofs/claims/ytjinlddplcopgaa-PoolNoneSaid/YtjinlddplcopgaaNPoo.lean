/- The law PoolNone: a nil pool has nothing. Each theorem states its own conditions. -/
import Derived.Test.YtjinlddplcopgaaNCode
import Derived.Test.YtjinlddplcopgaaNR01
set_option linter.all false
namespace Ev
open Go
set_option maxRecDepth 10000
attribute [-simp] getElem?_pos getElem?_neg
theorem awake23 : ∃ h', Run T f_law23_awake [] [] (.bool true) h' := Run.closed (n := 200) (by kernel_rfl)
section
variable {ks : List Kt} {ops : List AOpr} {K : Kp} {e : Env} {h : Heap} {Q : Ex → Env → Heap → Prop} {d : Nat} {lent : Bool}
theorem awake23_p : Xp T f_law23_awake (some ([], lent)) h (some d) ops K ks e Q = Xo T ops K ks ((d, .bool true) :: e) h Q := by
  obtain ⟨h', r⟩ := awake23
  exact Xp_run r (by simp) rfl (by simp [scalar])
end
theorem Best0 (h : Heap) : Run T f_pool_Pool_Best [.nilp] h (.tup [.int .i64 0, .bool false]) h := by
  refine Run.start t_pool_Pool_Best ?_
  unfold k_pool_Pool_Best
  simp (disch := omega)
theorem At0 (h : Heap) : ∃ w, Run T f_pool_Pool_At [.nilp] h (.tup [.agg [.int .i64 0, .int .i64 0], .bool false]) (h ++ w) := by
  refine ⟨[some [.int .i64 0, .int .i64 0]], Run.start t_pool_Pool_At ?_⟩
  unfold k_pool_Pool_At
  simp (disch := omega)
theorem Close0 (h : Heap) : ∃ w, Run T f_pool_Pool_Close [.nilp] h (.tup [.int .i64 0, .bool false]) (h ++ w) := by
  obtain ⟨w, r⟩ := At0 h
  refine ⟨w ++ [some [.int .i64 0, .int .i64 0]], Run.start t_pool_Pool_Close ?_⟩
  rw [← List.append_assoc]
  generalize h ++ w = H at *
  unfold k_pool_Pool_Close
  simp (disch := omega)
  rw [Xf_run r]
  simp (disch := omega)
theorem Step0 (h : Heap) : Run T f_pool_Pool_Step [.nilp] h (.tup []) h := by
  refine Run.start t_pool_Pool_Step ?_
  unfold k_pool_Pool_Step
  simp (disch := omega)
theorem Begin0 (b : Int) (ok : Bool) (h : Heap) : ∃ w, Run T f_pool_Pool_Begin [.nilp, .int .i64 b, .bool ok] h (.bool false) (h ++ w) := by
  refine ⟨[some [.int .i64 b]], Run.start t_pool_Pool_Begin ?_⟩
  unfold k_pool_Pool_Begin
  simp (disch := omega)
theorem Release0 (b : Int) (h : Heap) : Run T f_pool_Pool_Release [.nilp, .int .i64 b] h (.bool false) h := by
  refine Run.start t_pool_Pool_Release ?_
  unfold k_pool_Pool_Release
  simp (disch := omega)
theorem Room0 (h : Heap) : Run T f_pool_Pool_Room [.nilp] h (.int .i64 0) h := by
  refine Run.start t_pool_Pool_Room ?_
  unfold k_pool_Pool_Room
  simp (disch := omega)
theorem Free0 (h : Heap) : Run T f_pool_Pool_Free [.nilp] h (.ps 1 []) h := by
  refine Run.start t_pool_Pool_Free ?_
  unfold k_pool_Pool_Free
  simp (disch := omega)
theorem Counts0 (h : Heap) : Run T f_pool_Pool_Counts [.nilp] h (.ps 1 []) h := by
  refine Run.start t_pool_Pool_Counts ?_
  unfold k_pool_Pool_Counts
  simp (disch := omega)
theorem Opening0 (h : Heap) : Run T f_pool_Pool_Opening [.nilp] h (.int .u64 0) h := by
  refine Run.start t_pool_Pool_Opening ?_
  unfold k_pool_Pool_Opening
  simp (disch := omega)
theorem None_run (b : Int) (ok : Bool) : ∃ h', Run T f_law23_PoolNone [.int .i64 b, .bool ok] [] (.bool true) h' := by
  refine Run.startE t_law23_PoolNone ?_
  unfold k_law23_PoolNone
  simp (disch := omega)
  rw [Xf_run (Best0 _)]
  simp (disch := omega)
  obtain ⟨w1, r1⟩ := At0 []
  rw [Xf_run r1]
  simp (disch := omega)
  obtain ⟨w2, r2⟩ := Close0 (w1 ++ [some [.int .i64 0, .int .i64 0]])
  rw [Xf_run r2]
  simp (disch := omega)
  rw [Xf_run (Step0 _)]
  simp (disch := omega) [awake23_p]
  obtain ⟨w3, r3⟩ := Begin0 b ok (w1 ++ some [.int .i64 0, .int .i64 0] :: w2)
  rw [Xf_run r3]
  simp (disch := omega)
  rw [Xf_run (Release0 _ _)]
  simp (disch := omega)
  rw [Xf_run (Room0 _)]
  simp (disch := omega)
  rw [Xf_run (Free0 _)]
  simp (disch := omega)
  rw [Xf_run (Counts0 _)]
  simp (disch := omega)
  rw [Xf_run (Opening0 _)]
  simp (disch := omega)
theorem law_PoolNone (x y : V) (hx : Ty (.i .i64) x) (hy : Ty .b y) : ∃ h', Run T f_law23_PoolNone [x, y] [] (.bool true) h' := by
  obtain ⟨b, rfl, _⟩ := hx.int
  obtain ⟨ok, rfl⟩ := hy.bool
  exact None_run b ok
end Ev
