/- The functions of the dump, resolved. -/
import Derived.Test.YtmjnpfackanhlaaProg
import Derived.Test.YtmjnpfackanhlaaTBm
namespace Go.Proofs.Ytmjnpfackanhlaa.AM
open Go
set_option maxRecDepth 8000
theorem r_gazetteerlaw13_CursorStarts : R_gazetteerlaw13_CursorStarts Try.prog := by unfold R_gazetteerlaw13_CursorStarts; kernel_rfl
theorem r_gazetteerlaw13_wakes : R_gazetteerlaw13_wakes Try.prog := by unfold R_gazetteerlaw13_wakes; kernel_rfl
theorem r_gazetteerlaw13_large : R_gazetteerlaw13_large Try.prog := by unfold R_gazetteerlaw13_large; kernel_rfl
theorem r_gazetteerlaw13_grown : R_gazetteerlaw13_grown Try.prog := by unfold R_gazetteerlaw13_grown; kernel_rfl
theorem r_cursor_Step : R_cursor_Step Try.prog := by unfold R_cursor_Step; kernel_rfl
theorem r_gazetteerlaw13_copied : R_gazetteerlaw13_copied Try.prog := by unfold R_gazetteerlaw13_copied; kernel_rfl
theorem r_gazetteerref13_Right : R_gazetteerref13_Right Try.prog := by unfold R_gazetteerref13_Right; kernel_rfl
theorem r_gazetteerref13_Same : R_gazetteerref13_Same Try.prog := by unfold R_gazetteerref13_Same; kernel_rfl
theorem r_cursor_Start : R_cursor_Start Try.prog := by unfold R_cursor_Start; kernel_rfl
theorem r_cursor_Check : R_cursor_Check Try.prog := by unfold R_cursor_Check; kernel_rfl
theorem r_cursor_Over : R_cursor_Over Try.prog := by unfold R_cursor_Over; kernel_rfl
theorem r_cursor_Same : R_cursor_Same Try.prog := by unfold R_cursor_Same; kernel_rfl
theorem r_gazetteerref09_Box : R_gazetteerref09_Box Try.prog := by unfold R_gazetteerref09_Box; kernel_rfl
theorem r_tree_Check : R_tree_Check Try.prog := by unfold R_tree_Check; kernel_rfl
theorem r_key_Meets : R_key_Meets Try.prog := by unfold R_key_Meets; kernel_rfl
theorem r_gazetteerlaw13_four : R_gazetteerlaw13_four Try.prog := by unfold R_gazetteerlaw13_four; kernel_rfl
theorem r_gazetteerref11_Put : R_gazetteerref11_Put Try.prog := by unfold R_gazetteerref11_Put; kernel_rfl
theorem r_gazetteerref11_Row : R_gazetteerref11_Row Try.prog := by unfold R_gazetteerref11_Row; kernel_rfl
theorem r_gazetteerref11_Take : R_gazetteerref11_Take Try.prog := by unfold R_gazetteerref11_Take; kernel_rfl
theorem r_cursor_ready : R_cursor_ready Try.prog := by unfold R_cursor_ready; kernel_rfl
theorem r_slices_Clone_Seen_Seen : R_slices_Clone_Seen_Seen Try.prog := by unfold R_slices_Clone_Seen_Seen; kernel_rfl
theorem r_slices_Clone_uint32_uint32 : R_slices_Clone_uint32_uint32 Try.prog := by unfold R_slices_Clone_uint32_uint32; kernel_rfl
theorem r_cursor_opens : R_cursor_opens Try.prog := by unfold R_cursor_opens; kernel_rfl
theorem r_cursor_find : R_cursor_find Try.prog := by unfold R_cursor_find; kernel_rfl
theorem r_slices_BinarySearch_uint32_uint32 : R_slices_BinarySearch_uint32_uint32 Try.prog := by unfold R_slices_BinarySearch_uint32_uint32; kernel_rfl
theorem r_gazetteerref11_At : R_gazetteerref11_At Try.prog := by unfold R_gazetteerref11_At; kernel_rfl
theorem r_gazetteerref11_With : R_gazetteerref11_With Try.prog := by unfold R_gazetteerref11_With; kernel_rfl
theorem r_gazetteerref11_Above : R_gazetteerref11_Above Try.prog := by unfold R_gazetteerref11_Above; kernel_rfl
theorem r_gazetteerref11_Bound : R_gazetteerref11_Bound Try.prog := by unfold R_gazetteerref11_Bound; kernel_rfl
theorem r_key_Check : R_key_Check Try.prog := by unfold R_key_Check; kernel_rfl
theorem r_slices_ContainsFunc_Seen_Seen : R_slices_ContainsFunc_Seen_Seen Try.prog := by unfold R_slices_ContainsFunc_Seen_Seen; kernel_rfl
theorem r_cursor_Check_1 : R_cursor_Check_1 Try.prog := by unfold R_cursor_Check_1; kernel_rfl
theorem r_slices_Equal_Seen_Seen : R_slices_Equal_Seen_Seen Try.prog := by unfold R_slices_Equal_Seen_Seen; kernel_rfl
theorem r_slices_Equal_uint32_uint32 : R_slices_Equal_uint32_uint32 Try.prog := by unfold R_slices_Equal_uint32_uint32; kernel_rfl
theorem r_tree_plant : R_tree_plant Try.prog := by unfold R_tree_plant; kernel_rfl
theorem r_key_box : R_key_box Try.prog := by unfold R_key_box; kernel_rfl
theorem r_gazetteerref11_Way : R_gazetteerref11_Way Try.prog := by unfold R_gazetteerref11_Way; kernel_rfl
theorem r_gazetteerref11_Copy : R_gazetteerref11_Copy Try.prog := by unfold R_gazetteerref11_Copy; kernel_rfl
theorem r_gazetteerref11_Keyed : R_gazetteerref11_Keyed Try.prog := by unfold R_gazetteerref11_Keyed; kernel_rfl
theorem r_gazetteerref11_Greatest : R_gazetteerref11_Greatest Try.prog := by unfold R_gazetteerref11_Greatest; kernel_rfl
theorem r_gazetteerref11_Split : R_gazetteerref11_Split Try.prog := by unfold R_gazetteerref11_Split; kernel_rfl
theorem r_gazetteerref11_drop : R_gazetteerref11_drop Try.prog := by unfold R_gazetteerref11_drop; kernel_rfl
theorem r_gazetteerref11_without : R_gazetteerref11_without Try.prog := by unfold R_gazetteerref11_without; kernel_rfl
theorem r_slices_IndexFunc_Node_Node : R_slices_IndexFunc_Node_Node Try.prog := by unfold R_slices_IndexFunc_Node_Node; kernel_rfl
theorem r_cursor_find_1 : R_cursor_find_1 Try.prog := by unfold R_cursor_find_1; kernel_rfl
theorem r_cmp_Less_uint32 : R_cmp_Less_uint32 Try.prog := by unfold R_cmp_Less_uint32; kernel_rfl
theorem r_slices_isNaN_uint32 : R_slices_isNaN_uint32 Try.prog := by unfold R_slices_isNaN_uint32; kernel_rfl
theorem r_gazetteerref09_Union : R_gazetteerref09_Union Try.prog := by unfold R_gazetteerref09_Union; kernel_rfl
theorem r_slices_IndexFunc_Seen_Seen : R_slices_IndexFunc_Seen_Seen Try.prog := by unfold R_slices_IndexFunc_Seen_Seen; kernel_rfl
theorem r_slices_Clone_Link_Link : R_slices_Clone_Link_Link Try.prog := by unfold R_slices_Clone_Link_Link; kernel_rfl
theorem r_tree_grove_walk : R_tree_grove_walk Try.prog := by unfold R_tree_grove_walk; kernel_rfl
theorem r_tree_keys : R_tree_keys Try.prog := by unfold R_tree_keys; kernel_rfl
theorem r_key_Bound : R_key_Bound Try.prog := by unfold R_key_Bound; kernel_rfl
theorem r_gazetteerref09_Less : R_gazetteerref09_Less Try.prog := by unfold R_gazetteerref09_Less; kernel_rfl
theorem r_gazetteerref09_Part : R_gazetteerref09_Part Try.prog := by unfold R_gazetteerref09_Part; kernel_rfl
theorem r_cmp_isNaN_uint32 : R_cmp_isNaN_uint32 Try.prog := by unfold R_cmp_isNaN_uint32; kernel_rfl
theorem r_key_Union : R_key_Union Try.prog := by unfold R_key_Union; kernel_rfl
theorem r_gazetteerref09_Grows : R_gazetteerref09_Grows Try.prog := by unfold R_gazetteerref09_Grows; kernel_rfl
theorem r_gazetteerref09_Order : R_gazetteerref09_Order Try.prog := by unfold R_gazetteerref09_Order; kernel_rfl
theorem r_gazetteerref09_Seeds : R_gazetteerref09_Seeds Try.prog := by unfold R_gazetteerref09_Seeds; kernel_rfl
theorem r_gazetteerref07_Sub : R_gazetteerref07_Sub Try.prog := by unfold R_gazetteerref07_Sub; kernel_rfl
theorem r_gazetteerref07_Area : R_gazetteerref07_Area Try.prog := by unfold R_gazetteerref07_Area; kernel_rfl
theorem r_gazetteerref07_Margin : R_gazetteerref07_Margin Try.prog := by unfold R_gazetteerref07_Margin; kernel_rfl
theorem r_gazetteerref07_Cmp : R_gazetteerref07_Cmp Try.prog := by unfold R_gazetteerref07_Cmp; kernel_rfl
theorem r_gazetteerref09_lost : R_gazetteerref09_lost Try.prog := by unfold R_gazetteerref09_lost; kernel_rfl
theorem r_gazetteerref07_plus : R_gazetteerref07_plus Try.prog := by unfold R_gazetteerref07_plus; kernel_rfl
theorem r_gazetteerref07_Bits : R_gazetteerref07_Bits Try.prog := by unfold R_gazetteerref07_Bits; kernel_rfl
theorem r_gazetteerref07_Of : R_gazetteerref07_Of Try.prog := by unfold R_gazetteerref07_Of; kernel_rfl
theorem r_gazetteerref07_Mul : R_gazetteerref07_Mul Try.prog := by unfold R_gazetteerref07_Mul; kernel_rfl
theorem r_gazetteerref07_Width : R_gazetteerref07_Width Try.prog := by unfold R_gazetteerref07_Width; kernel_rfl
theorem r_gazetteerref07_Add : R_gazetteerref07_Add Try.prog := by unfold R_gazetteerref07_Add; kernel_rfl
end Go.Proofs.Ytmjnpfackanhlaa.AM
