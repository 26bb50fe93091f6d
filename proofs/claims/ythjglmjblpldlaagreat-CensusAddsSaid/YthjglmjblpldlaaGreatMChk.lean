/- Each function's abstract code is held against the program's form in Lean. No condition. -/
import Derived.Test.YthjglmjblpldlaaGreatMCode
import Derived.Test.YthjglmjblpldlaaGreatEv9
import Derived.Test.YthjglmjblpldlaaGreatProg
import Derived.KernelRfl
/-! Each function's check. -/
set_option linter.all false
namespace Ev
open Go
def sig : Sig := fun f => (T f).map fun af => (af.ownP, af.ownR)
theorem x_geom_Check_1 : chkFunc Go.Proofs.Tryz.prog sig f_geom_Check_1 c_geom_Check_1 = true := by kernel_rfl
theorem x_geom_Check : chkFunc Go.Proofs.Tryz.prog sig f_geom_Check c_geom_Check = true := by kernel_rfl
theorem x_zeros_Ones : chkFunc Go.Proofs.Tryz.prog sig f_zeros_Ones c_zeros_Ones = true := by kernel_rfl
theorem x_nand_New : chkFunc Go.Proofs.Tryz.prog sig f_nand_New c_nand_New = true := by kernel_rfl
theorem x_nand_Device_Down : chkFunc Go.Proofs.Tryz.prog sig f_nand_Device_Down c_nand_Device_Down = true := by kernel_rfl
theorem x_nand_Device_up : chkFunc Go.Proofs.Tryz.prog sig f_nand_Device_up c_nand_Device_up = true := by kernel_rfl
theorem x_geom_Place : chkFunc Go.Proofs.Tryz.prog sig f_geom_Place c_geom_Place = true := by kernel_rfl
theorem x_nand_Device_Read : chkFunc Go.Proofs.Tryz.prog sig f_nand_Device_Read c_nand_Device_Read = true := by kernel_rfl
theorem x_zeros_count : chkFunc Go.Proofs.Tryz.prog sig f_zeros_count c_zeros_count = true := by kernel_rfl
theorem x_zeros_Count : chkFunc Go.Proofs.Tryz.prog sig f_zeros_Count c_zeros_Count = true := by kernel_rfl
theorem x_zeros_Blank : chkFunc Go.Proofs.Tryz.prog sig f_zeros_Blank c_zeros_Blank = true := by kernel_rfl
theorem x_be_Get_1 : chkFunc Go.Proofs.Tryz.prog sig f_be_Get_1 c_be_Get_1 = true := by kernel_rfl
theorem x_be_width : chkFunc Go.Proofs.Tryz.prog sig f_be_width c_be_width = true := by kernel_rfl
theorem x_be_Get : chkFunc Go.Proofs.Tryz.prog sig f_be_Get c_be_Get = true := by kernel_rfl
theorem x_page_Class : chkFunc Go.Proofs.Tryz.prog sig f_page_Class c_page_Class = true := by kernel_rfl
theorem x_page_Get : chkFunc Go.Proofs.Tryz.prog sig f_page_Get c_page_Get = true := by kernel_rfl
theorem x_scan_Data : chkFunc Go.Proofs.Tryz.prog sig f_scan_Data c_scan_Data = true := by kernel_rfl
theorem x_scan_All_1 : chkFunc Go.Proofs.Tryz.prog sig f_scan_All_1 c_scan_All_1 = true := by kernel_rfl
theorem x_nand_Device_Sides : chkFunc Go.Proofs.Tryz.prog sig f_nand_Device_Sides c_nand_Device_Sides = true := by kernel_rfl
theorem x_nand_Device_there : chkFunc Go.Proofs.Tryz.prog sig f_nand_Device_there c_nand_Device_there = true := by kernel_rfl
theorem x_nand_Device_Marked : chkFunc Go.Proofs.Tryz.prog sig f_nand_Device_Marked c_nand_Device_Marked = true := by kernel_rfl
theorem x_scan_All : chkFunc Go.Proofs.Tryz.prog sig f_scan_All c_scan_All = true := by kernel_rfl
theorem x_mirror_up : chkFunc Go.Proofs.Tryz.prog sig f_mirror_up c_mirror_up = true := by kernel_rfl
theorem x_be_Reader_B : chkFunc Go.Proofs.Tryz.prog sig f_be_Reader_B c_be_Reader_B = true := by kernel_rfl
theorem x_be_Reader_N : chkFunc Go.Proofs.Tryz.prog sig f_be_Reader_N c_be_Reader_N = true := by kernel_rfl
theorem x_table_Get_1 : chkFunc Go.Proofs.Tryz.prog sig f_table_Get_1 c_table_Get_1 = true := by kernel_rfl
theorem x_table_Get : chkFunc Go.Proofs.Tryz.prog sig f_table_Get c_table_Get = true := by kernel_rfl
theorem x_mirror_Tables_1 : chkFunc Go.Proofs.Tryz.prog sig f_mirror_Tables_1 c_mirror_Tables_1 = true := by kernel_rfl
theorem x_mirror_Tables : chkFunc Go.Proofs.Tryz.prog sig f_mirror_Tables c_mirror_Tables = true := by kernel_rfl
theorem x_mirror_Newest : chkFunc Go.Proofs.Tryz.prog sig f_mirror_Newest c_mirror_Newest = true := by kernel_rfl
theorem x_census_void : chkFunc Go.Proofs.Tryz.prog sig f_census_void c_census_void = true := by kernel_rfl
theorem x_latest_Highest : chkFunc Go.Proofs.Tryz.prog sig f_latest_Highest c_latest_Highest = true := by kernel_rfl
theorem x_latest_Broken_1 : chkFunc Go.Proofs.Tryz.prog sig f_latest_Broken_1 c_latest_Broken_1 = true := by kernel_rfl
theorem x_slices_IndexFunc_api_Found_api_Found : chkFunc Go.Proofs.Tryz.prog sig f_slices_IndexFunc_api_Found_api_Found c_slices_IndexFunc_api_Found_api_Found = true := by kernel_rfl
theorem x_slices_ContainsFunc_api_Found_api_Found : chkFunc Go.Proofs.Tryz.prog sig f_slices_ContainsFunc_api_Found_api_Found c_slices_ContainsFunc_api_Found_api_Found = true := by kernel_rfl
theorem x_latest_Broken : chkFunc Go.Proofs.Tryz.prog sig f_latest_Broken c_latest_Broken = true := by kernel_rfl
theorem x_slices_Index_uint64_uint64 : chkFunc Go.Proofs.Tryz.prog sig f_slices_Index_uint64_uint64 c_slices_Index_uint64_uint64 = true := by kernel_rfl
theorem x_slices_Contains_uint64_uint64 : chkFunc Go.Proofs.Tryz.prog sig f_slices_Contains_uint64_uint64 c_slices_Contains_uint64_uint64 = true := by kernel_rfl
theorem x_latest_nothing_1 : chkFunc Go.Proofs.Tryz.prog sig f_latest_nothing_1 c_latest_nothing_1 = true := by kernel_rfl
theorem x_latest_nothing : chkFunc Go.Proofs.Tryz.prog sig f_latest_nothing c_latest_nothing = true := by kernel_rfl
theorem x_math_bits_Len32 : chkFunc Go.Proofs.Tryz.prog sig f_math_bits_Len32 c_math_bits_Len32 = true := by kernel_rfl
theorem x_math_bits_Len64 : chkFunc Go.Proofs.Tryz.prog sig f_math_bits_Len64 c_math_bits_Len64 = true := by kernel_rfl
theorem x_math_bits_Len : chkFunc Go.Proofs.Tryz.prog sig f_math_bits_Len c_math_bits_Len = true := by kernel_rfl
theorem x_slices_insertionSortCmpFunc_api_Copies : chkFunc Go.Proofs.Tryz.prog sig f_slices_insertionSortCmpFunc_api_Copies c_slices_insertionSortCmpFunc_api_Copies = true := by kernel_rfl
theorem x_slices_pdqsortCmpFunc_api_Copies : chkFunc Go.Proofs.Tryz.prog sig f_slices_pdqsortCmpFunc_api_Copies c_slices_pdqsortCmpFunc_api_Copies = true := by kernel_rfl
theorem x_slices_SortFunc_api_Copies_api_Copies : chkFunc Go.Proofs.Tryz.prog sig f_slices_SortFunc_api_Copies_api_Copies c_slices_SortFunc_api_Copies_api_Copies = true := by kernel_rfl
theorem x_latest_Versions : chkFunc Go.Proofs.Tryz.prog sig f_latest_Versions c_latest_Versions = true := by kernel_rfl
theorem x_nand_Device_Wear : chkFunc Go.Proofs.Tryz.prog sig f_nand_Device_Wear c_nand_Device_Wear = true := by kernel_rfl
theorem x_census_see : chkFunc Go.Proofs.Tryz.prog sig f_census_see c_census_see = true := by kernel_rfl
theorem x_census_Of_1 : chkFunc Go.Proofs.Tryz.prog sig f_census_Of_1 c_census_Of_1 = true := by kernel_rfl
theorem x_census_Of : chkFunc Go.Proofs.Tryz.prog sig f_census_Of c_census_Of = true := by kernel_rfl
theorem x_scan_some : chkFunc Go.Proofs.Tryz.prog sig f_scan_some c_scan_some = true := by kernel_rfl
theorem x_scan_Marked : chkFunc Go.Proofs.Tryz.prog sig f_scan_Marked c_scan_Marked = true := by kernel_rfl
theorem x_geom_Bad : chkFunc Go.Proofs.Tryz.prog sig f_geom_Bad c_geom_Bad = true := by kernel_rfl
theorem x_geom_Good : chkFunc Go.Proofs.Tryz.prog sig f_geom_Good c_geom_Good = true := by kernel_rfl
theorem x_geom_Logical : chkFunc Go.Proofs.Tryz.prog sig f_geom_Logical c_geom_Logical = true := by kernel_rfl
theorem x_ftl_Mount_1 : chkFunc Go.Proofs.Tryz.prog sig f_ftl_Mount_1 c_ftl_Mount_1 = true := by kernel_rfl
theorem x_cmp_isNaN_int : chkFunc Go.Proofs.Tryz.prog sig f_cmp_isNaN_int c_cmp_isNaN_int = true := by kernel_rfl
theorem x_cmp_Compare_int : chkFunc Go.Proofs.Tryz.prog sig f_cmp_Compare_int c_cmp_Compare_int = true := by kernel_rfl
theorem x_ftl_Mount : chkFunc Go.Proofs.Tryz.prog sig f_ftl_Mount c_ftl_Mount = true := by kernel_rfl
theorem x_census_Total : chkFunc Go.Proofs.Tryz.prog sig f_census_Total c_census_Total = true := by kernel_rfl
theorem x_census_Waste : chkFunc Go.Proofs.Tryz.prog sig f_census_Waste c_census_Waste = true := by kernel_rfl
theorem x_law42_awake : chkFunc Go.Proofs.Tryz.prog sig f_law42_awake c_law42_awake = true := by kernel_rfl
theorem x_census_Add : chkFunc Go.Proofs.Tryz.prog sig f_census_Add c_census_Add = true := by kernel_rfl
theorem x_ref01_High : chkFunc Go.Proofs.Tryz.prog sig f_ref01_High c_ref01_High = true := by kernel_rfl
theorem x_census_Same : chkFunc Go.Proofs.Tryz.prog sig f_census_Same c_census_Same = true := by kernel_rfl
theorem x_law42_CensusAdds : chkFunc Go.Proofs.Tryz.prog sig f_law42_CensusAdds c_law42_CensusAdds = true := by kernel_rfl
theorem x_latest_Versions_1 : chkFunc Go.Proofs.Tryz.prog sig f_latest_Versions_1 c_latest_Versions_1 = true := by kernel_rfl
theorem tabAll : ∀ q ∈ tab, chkFunc Go.Proofs.Tryz.prog sig q.1 q.2 = true := by
  unfold tab
  repeat rw [List.forall_mem_cons]
  exact ⟨x_geom_Check_1, x_geom_Check, x_zeros_Ones, x_nand_New, x_nand_Device_Down, x_nand_Device_up, x_geom_Place, x_nand_Device_Read, x_zeros_count, x_zeros_Count, x_zeros_Blank, x_be_Get_1, x_be_width, x_be_Get, x_page_Class, x_page_Get, x_scan_Data, x_scan_All_1, x_nand_Device_Sides, x_nand_Device_there, x_nand_Device_Marked, x_scan_All, x_mirror_up, x_be_Reader_B, x_be_Reader_N, x_table_Get_1, x_table_Get, x_mirror_Tables_1, x_mirror_Tables, x_mirror_Newest, x_census_void, x_latest_Highest, x_latest_Broken_1, x_slices_IndexFunc_api_Found_api_Found, x_slices_ContainsFunc_api_Found_api_Found, x_latest_Broken, x_slices_Index_uint64_uint64, x_slices_Contains_uint64_uint64, x_latest_nothing_1, x_latest_nothing, x_math_bits_Len32, x_math_bits_Len64, x_math_bits_Len, x_slices_insertionSortCmpFunc_api_Copies, x_slices_pdqsortCmpFunc_api_Copies, x_slices_SortFunc_api_Copies_api_Copies, x_latest_Versions, x_nand_Device_Wear, x_census_see, x_census_Of_1, x_census_Of, x_scan_some, x_scan_Marked, x_geom_Bad, x_geom_Good, x_geom_Logical, x_ftl_Mount_1, x_cmp_isNaN_int, x_cmp_Compare_int, x_ftl_Mount, x_census_Total, x_census_Waste, x_law42_awake, x_census_Add, x_ref01_High, x_census_Same, x_law42_CensusAdds, x_latest_Versions_1, fun _ h => nomatch h⟩
end Ev
