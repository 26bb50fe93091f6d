/- Each function's abstract code is held against the program's form in Lean. No condition. -/
import Derived.Test.YtmbheeapegpmlaaSCode
import Derived.Test.YtmbheeapegpmlaaEv9
import Derived.Test.YtmbheeapegpmlaaProg
import Derived.KernelRfl
/-! Each function's check. -/
set_option linter.all false
namespace Ev
open Go
def sig : Sig := fun f => (T f).map fun af => (af.ownP, af.ownR)
theorem x_ref01_Ints : chkFunc Go.Proofs.Try.prog sig f_ref01_Ints c_ref01_Ints = true := by kernel_rfl
theorem x_ref01_High : chkFunc Go.Proofs.Try.prog sig f_ref01_High c_ref01_High = true := by kernel_rfl
theorem x_ref01_Low : chkFunc Go.Proofs.Try.prog sig f_ref01_Low c_ref01_Low = true := by kernel_rfl
theorem x_ref13_Has : chkFunc Go.Proofs.Try.prog sig f_ref13_Has c_ref13_Has = true := by kernel_rfl
theorem x_ref27_Frames : chkFunc Go.Proofs.Try.prog sig f_ref27_Frames c_ref27_Frames = true := by kernel_rfl
theorem x_index_Frames : chkFunc Go.Proofs.Try.prog sig f_index_Frames c_index_Frames = true := by kernel_rfl
theorem x_seg_Offset : chkFunc Go.Proofs.Try.prog sig f_seg_Offset c_seg_Offset = true := by kernel_rfl
theorem x_seg_part : chkFunc Go.Proofs.Try.prog sig f_seg_part c_seg_part = true := by kernel_rfl
theorem x_seg_Cut : chkFunc Go.Proofs.Try.prog sig f_seg_Cut c_seg_Cut = true := by kernel_rfl
theorem x_seg_Part : chkFunc Go.Proofs.Try.prog sig f_seg_Part c_seg_Part = true := by kernel_rfl
theorem x_seg_Fill_1 : chkFunc Go.Proofs.Try.prog sig f_seg_Fill_1 c_seg_Fill_1 = true := by kernel_rfl
theorem x_slices_Index_bool_bool : chkFunc Go.Proofs.Try.prog sig f_slices_Index_bool_bool c_slices_Index_bool_bool = true := by kernel_rfl
theorem x_slices_Contains_bool_bool : chkFunc Go.Proofs.Try.prog sig f_slices_Contains_bool_bool c_slices_Contains_bool_bool = true := by kernel_rfl
theorem x_seg_Fill : chkFunc Go.Proofs.Try.prog sig f_seg_Fill c_seg_Fill = true := by kernel_rfl
theorem x_seg_Last : chkFunc Go.Proofs.Try.prog sig f_seg_Last c_seg_Last = true := by kernel_rfl
theorem x_seg_Join : chkFunc Go.Proofs.Try.prog sig f_seg_Join c_seg_Join = true := by kernel_rfl
theorem x_law31_awake : chkFunc Go.Proofs.Try.prog sig f_law31_awake c_law31_awake = true := by kernel_rfl
theorem x_ref31_Part : chkFunc Go.Proofs.Try.prog sig f_ref31_Part c_ref31_Part = true := by kernel_rfl
theorem x_law31_SegCuts : chkFunc Go.Proofs.Try.prog sig f_law31_SegCuts c_law31_SegCuts = true := by kernel_rfl
theorem x_ref31_Fill : chkFunc Go.Proofs.Try.prog sig f_ref31_Fill c_ref31_Fill = true := by kernel_rfl
theorem x_law31_SegFills : chkFunc Go.Proofs.Try.prog sig f_law31_SegFills c_law31_SegFills = true := by kernel_rfl
theorem x_law31_SegOffsets : chkFunc Go.Proofs.Try.prog sig f_law31_SegOffsets c_law31_SegOffsets = true := by kernel_rfl
theorem tabAll : ∀ q ∈ tab, chkFunc Go.Proofs.Try.prog sig q.1 q.2 = true := by
  unfold tab
  repeat rw [List.forall_mem_cons]
  exact ⟨x_ref01_Ints, x_ref01_High, x_ref01_Low, x_ref13_Has, x_ref27_Frames, x_index_Frames, x_seg_Offset, x_seg_part, x_seg_Cut, x_seg_Part, x_seg_Fill_1, x_slices_Index_bool_bool, x_slices_Contains_bool_bool, x_seg_Fill, x_seg_Last, x_seg_Join, x_law31_awake, x_ref31_Part, x_law31_SegCuts, x_ref31_Fill, x_law31_SegFills, x_law31_SegOffsets, fun _ h => nomatch h⟩
end Ev
