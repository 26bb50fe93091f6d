/- Each function's abstract code is held against the program's form in Lean. No condition. -/
import Derived.Test.YtmbheeapegpmlaaBtCode
import Derived.Test.YtmbheeapegpmlaaEv9
import Derived.Test.YtmbheeapegpmlaaProg
import Derived.KernelRfl
/-! Each function's check. -/
set_option linter.all false
namespace Ev
open Go
def sig : Sig := fun f => (T f).map fun af => (af.ownP, af.ownR)
theorem x_ref01_Ints : chkFunc Go.Proofs.Try.prog sig f_ref01_Ints c_ref01_Ints = true := by kernel_rfl
theorem x_ref01_High : chkFunc Go.Proofs.Try.prog sig f_ref01_High c_ref01_High = true := by kernel_rfl
theorem x_ref01_Low : chkFunc Go.Proofs.Try.prog sig f_ref01_Low c_ref01_Low = true := by kernel_rfl
theorem x_ref13_Has : chkFunc Go.Proofs.Try.prog sig f_ref13_Has c_ref13_Has = true := by kernel_rfl
theorem x_ref13_Right : chkFunc Go.Proofs.Try.prog sig f_ref13_Right c_ref13_Right = true := by kernel_rfl
theorem x_bound_Frames : chkFunc Go.Proofs.Try.prog sig f_bound_Frames c_bound_Frames = true := by kernel_rfl
theorem x_ref27_Frames : chkFunc Go.Proofs.Try.prog sig f_ref27_Frames c_ref27_Frames = true := by kernel_rfl
theorem x_geom_Check_1 : chkFunc Go.Proofs.Try.prog sig f_geom_Check_1 c_geom_Check_1 = true := by kernel_rfl
theorem x_geom_Check : chkFunc Go.Proofs.Try.prog sig f_geom_Check c_geom_Check = true := by kernel_rfl
theorem x_bound_Write : chkFunc Go.Proofs.Try.prog sig f_bound_Write c_bound_Write = true := by kernel_rfl
theorem x_bound_Mount : chkFunc Go.Proofs.Try.prog sig f_bound_Mount c_bound_Mount = true := by kernel_rfl
theorem x_bound_Ingest : chkFunc Go.Proofs.Try.prog sig f_bound_Ingest c_bound_Ingest = true := by kernel_rfl
theorem x_bound_Step_1 : chkFunc Go.Proofs.Try.prog sig f_bound_Step_1 c_bound_Step_1 = true := by kernel_rfl
theorem x_bound_Step : chkFunc Go.Proofs.Try.prog sig f_bound_Step c_bound_Step = true := by kernel_rfl
theorem x_geom_Bad : chkFunc Go.Proofs.Try.prog sig f_geom_Bad c_geom_Bad = true := by kernel_rfl
theorem x_geom_Good : chkFunc Go.Proofs.Try.prog sig f_geom_Good c_geom_Good = true := by kernel_rfl
theorem x_geom_Logical : chkFunc Go.Proofs.Try.prog sig f_geom_Logical c_geom_Logical = true := by kernel_rfl
theorem x_geom_Budget : chkFunc Go.Proofs.Try.prog sig f_geom_Budget c_geom_Budget = true := by kernel_rfl
theorem x_bound_Bytes : chkFunc Go.Proofs.Try.prog sig f_bound_Bytes c_bound_Bytes = true := by kernel_rfl
theorem x_law40_awake : chkFunc Go.Proofs.Try.prog sig f_law40_awake c_law40_awake = true := by kernel_rfl
theorem x_law40_BoundTells : chkFunc Go.Proofs.Try.prog sig f_law40_BoundTells c_law40_BoundTells = true := by kernel_rfl
theorem tabAll : ∀ q ∈ tab, chkFunc Go.Proofs.Try.prog sig q.1 q.2 = true := by
  unfold tab
  repeat rw [List.forall_mem_cons]
  exact ⟨x_ref01_Ints, x_ref01_High, x_ref01_Low, x_ref13_Has, x_ref13_Right, x_bound_Frames, x_ref27_Frames, x_geom_Check_1, x_geom_Check, x_bound_Write, x_bound_Mount, x_bound_Ingest, x_bound_Step_1, x_bound_Step, x_geom_Bad, x_geom_Good, x_geom_Logical, x_geom_Budget, x_bound_Bytes, x_law40_awake, x_law40_BoundTells, fun _ h => nomatch h⟩
end Ev
