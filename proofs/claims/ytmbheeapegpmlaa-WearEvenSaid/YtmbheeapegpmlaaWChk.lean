/- Each function's abstract code is held against the program's form in Lean. No condition. -/
import Derived.Test.YtmbheeapegpmlaaWCode
import Derived.Test.YtmbheeapegpmlaaEv9
import Derived.Test.YtmbheeapegpmlaaProg
import Derived.KernelRfl
/-! Each function's check. -/
set_option linter.all false
namespace Ev
open Go
def sig : Sig := fun f => (T f).map fun af => (af.ownP, af.ownR)
theorem x_extent_Extent_right : chkFunc Go.Proofs.Try.prog sig f_extent_Extent_right c_extent_Extent_right = true := by kernel_rfl
theorem x_extent_Extent_set : chkFunc Go.Proofs.Try.prog sig f_extent_Extent_set c_extent_Extent_set = true := by kernel_rfl
theorem x_extent_New : chkFunc Go.Proofs.Try.prog sig f_extent_New c_extent_New = true := by kernel_rfl
theorem x_extent_Extent_some : chkFunc Go.Proofs.Try.prog sig f_extent_Extent_some c_extent_Extent_some = true := by kernel_rfl
theorem x_extent_Extent_Take : chkFunc Go.Proofs.Try.prog sig f_extent_Extent_Take c_extent_Extent_Take = true := by kernel_rfl
theorem x_ref01_Ints : chkFunc Go.Proofs.Try.prog sig f_ref01_Ints c_ref01_Ints = true := by kernel_rfl
theorem x_extent_Extent_Free : chkFunc Go.Proofs.Try.prog sig f_extent_Extent_Free c_extent_Extent_Free = true := by kernel_rfl
theorem x_extent_Extent_Is : chkFunc Go.Proofs.Try.prog sig f_extent_Extent_Is c_extent_Extent_Is = true := by kernel_rfl
theorem x_extent_Extent_Give : chkFunc Go.Proofs.Try.prog sig f_extent_Extent_Give c_extent_Extent_Give = true := by kernel_rfl
theorem x_extent_Extent_Taken : chkFunc Go.Proofs.Try.prog sig f_extent_Extent_Taken c_extent_Extent_Taken = true := by kernel_rfl
theorem x_law25_awake : chkFunc Go.Proofs.Try.prog sig f_law25_awake c_law25_awake = true := by kernel_rfl
theorem x_ref01_High : chkFunc Go.Proofs.Try.prog sig f_ref01_High c_ref01_High = true := by kernel_rfl
theorem x_ref01_Low : chkFunc Go.Proofs.Try.prog sig f_ref01_Low c_ref01_Low = true := by kernel_rfl
theorem x_ref13_Has : chkFunc Go.Proofs.Try.prog sig f_ref13_Has c_ref13_Has = true := by kernel_rfl
theorem x_ref25_put : chkFunc Go.Proofs.Try.prog sig f_ref25_put c_ref25_put = true := by kernel_rfl
theorem x_ref25_New : chkFunc Go.Proofs.Try.prog sig f_ref25_New c_ref25_New = true := by kernel_rfl
theorem x_ref25_X_Give : chkFunc Go.Proofs.Try.prog sig f_ref25_X_Give c_ref25_X_Give = true := by kernel_rfl
theorem x_ref25_X_Free : chkFunc Go.Proofs.Try.prog sig f_ref25_X_Free c_ref25_X_Free = true := by kernel_rfl
theorem x_ref25_X_Take : chkFunc Go.Proofs.Try.prog sig f_ref25_X_Take c_ref25_X_Take = true := by kernel_rfl
theorem x_law25_ExtentDoes : chkFunc Go.Proofs.Try.prog sig f_law25_ExtentDoes c_law25_ExtentDoes = true := by kernel_rfl
theorem x_law21_light : chkFunc Go.Proofs.Try.prog sig f_law21_light c_law21_light = true := by kernel_rfl
theorem x_wear_Of : chkFunc Go.Proofs.Try.prog sig f_wear_Of c_wear_Of = true := by kernel_rfl
theorem x_wear_Least_1 : chkFunc Go.Proofs.Try.prog sig f_wear_Least_1 c_wear_Least_1 = true := by kernel_rfl
theorem x_wear_best : chkFunc Go.Proofs.Try.prog sig f_wear_best c_wear_best = true := by kernel_rfl
theorem x_wear_Least : chkFunc Go.Proofs.Try.prog sig f_wear_Least c_wear_Least = true := by kernel_rfl
theorem x_wear_Most_1 : chkFunc Go.Proofs.Try.prog sig f_wear_Most_1 c_wear_Most_1 = true := by kernel_rfl
theorem x_wear_Most : chkFunc Go.Proofs.Try.prog sig f_wear_Most c_wear_Most = true := by kernel_rfl
theorem x_wear_Gap : chkFunc Go.Proofs.Try.prog sig f_wear_Gap c_wear_Gap = true := by kernel_rfl
theorem x_wear_Add : chkFunc Go.Proofs.Try.prog sig f_wear_Add c_wear_Add = true := by kernel_rfl
theorem x_slices_Index_int_int : chkFunc Go.Proofs.Try.prog sig f_slices_Index_int_int c_slices_Index_int_int = true := by kernel_rfl
theorem x_slices_Contains_int_int : chkFunc Go.Proofs.Try.prog sig f_slices_Contains_int_int c_slices_Contains_int_int = true := by kernel_rfl
theorem x_wear_May : chkFunc Go.Proofs.Try.prog sig f_wear_May c_wear_May = true := by kernel_rfl
theorem x_wear_Play : chkFunc Go.Proofs.Try.prog sig f_wear_Play c_wear_Play = true := by kernel_rfl
theorem x_law21_awake : chkFunc Go.Proofs.Try.prog sig f_law21_awake c_law21_awake = true := by kernel_rfl
theorem x_ref21_Of : chkFunc Go.Proofs.Try.prog sig f_ref21_Of c_ref21_Of = true := by kernel_rfl
theorem x_ref21_Least : chkFunc Go.Proofs.Try.prog sig f_ref21_Least c_ref21_Least = true := by kernel_rfl
theorem x_ref21_Most : chkFunc Go.Proofs.Try.prog sig f_ref21_Most c_ref21_Most = true := by kernel_rfl
theorem x_law21_WearFinds : chkFunc Go.Proofs.Try.prog sig f_law21_WearFinds c_law21_WearFinds = true := by kernel_rfl
theorem x_ref21_Play : chkFunc Go.Proofs.Try.prog sig f_ref21_Play c_ref21_Play = true := by kernel_rfl
theorem x_law21_WearEven : chkFunc Go.Proofs.Try.prog sig f_law21_WearEven c_law21_WearEven = true := by kernel_rfl
theorem x_extent_Extent_Take_1 : chkFunc Go.Proofs.Try.prog sig f_extent_Extent_Take_1 c_extent_Extent_Take_1 = true := by kernel_rfl
theorem x_extent_Extent_Taken_1 : chkFunc Go.Proofs.Try.prog sig f_extent_Extent_Taken_1 c_extent_Extent_Taken_1 = true := by kernel_rfl
theorem tabAll : ∀ q ∈ tab, chkFunc Go.Proofs.Try.prog sig q.1 q.2 = true := by
  unfold tab
  repeat rw [List.forall_mem_cons]
  exact ⟨x_extent_Extent_right, x_extent_Extent_set, x_extent_New, x_extent_Extent_some, x_extent_Extent_Take, x_ref01_Ints, x_extent_Extent_Free, x_extent_Extent_Is, x_extent_Extent_Give, x_extent_Extent_Taken, x_law25_awake, x_ref01_High, x_ref01_Low, x_ref13_Has, x_ref25_put, x_ref25_New, x_ref25_X_Give, x_ref25_X_Free, x_ref25_X_Take, x_law25_ExtentDoes, x_law21_light, x_wear_Of, x_wear_Least_1, x_wear_best, x_wear_Least, x_wear_Most_1, x_wear_Most, x_wear_Gap, x_wear_Add, x_slices_Index_int_int, x_slices_Contains_int_int, x_wear_May, x_wear_Play, x_law21_awake, x_ref21_Of, x_ref21_Least, x_ref21_Most, x_law21_WearFinds, x_ref21_Play, x_law21_WearEven, x_extent_Extent_Take_1, x_extent_Extent_Taken_1, fun _ h => nomatch h⟩
end Ev
