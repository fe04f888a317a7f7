/- The functions of the dump, resolved. -/
import Derived.Test.YtmjnpfackanhlaaProg
import Derived.Test.YtmjnpfackanhlaaTCm
namespace Go.Proofs.Ytmjnpfackanhlaa.AM
open Go
set_option maxRecDepth 8000
theorem r_gazetteerlaw18_VacuumClean : R_gazetteerlaw18_VacuumClean Try.prog := ⟨by kernel_rfl,by kernel_rfl,fun _ _ _ _ _=>by kernel_rfl⟩
theorem r_gazetteerlaw18_wakes : R_gazetteerlaw18_wakes Try.prog := ⟨by kernel_rfl,by kernel_rfl,fun _ _=>by kernel_rfl⟩
theorem r_gazetteerlaw18_Tree_made : R_gazetteerlaw18_Tree_made Try.prog := ⟨by kernel_rfl,by kernel_rfl,fun _ _ _=>by kernel_rfl⟩
theorem r_gazetteerlaw18_fates : R_gazetteerlaw18_fates Try.prog := ⟨by kernel_rfl,by kernel_rfl,fun _ _ _=>by kernel_rfl⟩
theorem r_gazetteerlaw18_items : R_gazetteerlaw18_items Try.prog := ⟨by kernel_rfl,by kernel_rfl,fun _ _ _=>by kernel_rfl⟩
theorem r_vacuum_Clean : R_vacuum_Clean Try.prog := ⟨by kernel_rfl,by kernel_rfl,fun _ _ _ _ _=>by kernel_rfl⟩
theorem r_gazetteerref17_Right : R_gazetteerref17_Right Try.prog := ⟨by kernel_rfl,by kernel_rfl,fun _ _ _=>by kernel_rfl⟩
theorem r_gazetteerref17_All : R_gazetteerref17_All Try.prog := ⟨by kernel_rfl,by kernel_rfl,fun _ _ _=>by kernel_rfl⟩
theorem r_gazetteerref11_Right : R_gazetteerref11_Right Try.prog := ⟨by kernel_rfl,by kernel_rfl,fun _ _ _=>by kernel_rfl⟩
theorem r_gazetteerref18_Ordered : R_gazetteerref18_Ordered Try.prog := ⟨by kernel_rfl,by kernel_rfl,fun _ _ _=>by kernel_rfl⟩
theorem r_gazetteerref18_Clean : R_gazetteerref18_Clean Try.prog := ⟨by kernel_rfl,by kernel_rfl,fun _ _ _ _ _=>by kernel_rfl⟩
theorem r_gazetteerref09_Box : R_gazetteerref09_Box Try.prog := ⟨by kernel_rfl,by kernel_rfl,fun _ _ _=>by kernel_rfl⟩
theorem r_tree_Row : R_tree_Row Try.prog := ⟨by kernel_rfl,by kernel_rfl,fun _ _ _ _=>by kernel_rfl⟩
theorem r_tree_Check : R_tree_Check Try.prog := ⟨by kernel_rfl,by kernel_rfl,fun _ _ _=>by kernel_rfl⟩
theorem r_gazetteerref11_Put : R_gazetteerref11_Put Try.prog := ⟨by kernel_rfl,by kernel_rfl,fun _ _ _ _ _=>by kernel_rfl⟩
theorem r_gazetteerref11_Row : R_gazetteerref11_Row Try.prog := ⟨by kernel_rfl,by kernel_rfl,fun _ _ _ _=>by kernel_rfl⟩
theorem r_gazetteerref11_Take : R_gazetteerref11_Take Try.prog := ⟨by kernel_rfl,by kernel_rfl,fun _ _ _ _=>by kernel_rfl⟩
theorem r_gazetteerref11_At : R_gazetteerref11_At Try.prog := ⟨by kernel_rfl,by kernel_rfl,fun _ _ _ _=>by kernel_rfl⟩
theorem r_gazetteerref11_With : R_gazetteerref11_With Try.prog := ⟨by kernel_rfl,by kernel_rfl,fun _ _ _ _=>by kernel_rfl⟩
theorem r_vacuum_Dead : R_vacuum_Dead Try.prog := ⟨by kernel_rfl,by kernel_rfl,fun _ _ _ _ _=>by kernel_rfl⟩
theorem r_gazetteerlaw18_first : R_gazetteerlaw18_first Try.prog := ⟨by kernel_rfl,by kernel_rfl,fun _ _=>by kernel_rfl⟩
theorem r_vacuum_Entry : R_vacuum_Entry Try.prog := ⟨by kernel_rfl,by kernel_rfl,fun _ _ _=>by kernel_rfl⟩
theorem r_vacuum_Left : R_vacuum_Left Try.prog := ⟨by kernel_rfl,by kernel_rfl,fun _ _ _ _=>by kernel_rfl⟩
theorem r_vision_Counts : R_vision_Counts Try.prog := ⟨by kernel_rfl,by kernel_rfl,fun _ _ _ _ _=>by kernel_rfl⟩
theorem r_gazetteerref10_Right : R_gazetteerref10_Right Try.prog := ⟨by kernel_rfl,by kernel_rfl,fun _ _ _=>by kernel_rfl⟩
theorem r_gazetteerref11_Deep : R_gazetteerref11_Deep Try.prog := ⟨by kernel_rfl,by kernel_rfl,fun _ _ _ _=>by kernel_rfl⟩
theorem r_gazetteerref11_Above : R_gazetteerref11_Above Try.prog := ⟨by kernel_rfl,by kernel_rfl,fun _ _ _ _=>by kernel_rfl⟩
theorem r_gazetteerref11_Bound : R_gazetteerref11_Bound Try.prog := ⟨by kernel_rfl,by kernel_rfl,fun _ _ _=>by kernel_rfl⟩
theorem r_gazetteerref18_Spot : R_gazetteerref18_Spot Try.prog := ⟨by kernel_rfl,by kernel_rfl,fun _ _ _=>by kernel_rfl⟩
theorem r_gazetteerref18_Entry : R_gazetteerref18_Entry Try.prog := ⟨by kernel_rfl,by kernel_rfl,fun _ _ _=>by kernel_rfl⟩
theorem r_gazetteerref18_done : R_gazetteerref18_done Try.prog := ⟨by kernel_rfl,by kernel_rfl,fun _ _ _ _=>by kernel_rfl⟩
theorem r_key_Check : R_key_Check Try.prog := ⟨by kernel_rfl,by kernel_rfl,fun _ _ _ _=>by kernel_rfl⟩
theorem r_tree_plant : R_tree_plant Try.prog := ⟨by kernel_rfl,by kernel_rfl,fun _ _ _=>by kernel_rfl⟩
theorem r_tree_grove_leaves : R_tree_grove_leaves Try.prog := ⟨by kernel_rfl,by kernel_rfl,fun _ _ _=>by kernel_rfl⟩
theorem r_key_box : R_key_box Try.prog := ⟨by kernel_rfl,by kernel_rfl,fun _ _ _=>by kernel_rfl⟩
theorem r_gazetteerref11_Way : R_gazetteerref11_Way Try.prog := ⟨by kernel_rfl,by kernel_rfl,fun _ _ _ _=>by kernel_rfl⟩
theorem r_gazetteerref11_Copy : R_gazetteerref11_Copy Try.prog := ⟨by kernel_rfl,by kernel_rfl,fun _ _ _=>by kernel_rfl⟩
theorem r_gazetteerref11_Keyed : R_gazetteerref11_Keyed Try.prog := ⟨by kernel_rfl,by kernel_rfl,fun _ _ _=>by kernel_rfl⟩
theorem r_gazetteerref11_Greatest : R_gazetteerref11_Greatest Try.prog := ⟨by kernel_rfl,by kernel_rfl,fun _ _ _=>by kernel_rfl⟩
theorem r_gazetteerref11_Split : R_gazetteerref11_Split Try.prog := ⟨by kernel_rfl,by kernel_rfl,fun _ _ _ _=>by kernel_rfl⟩
theorem r_gazetteerref11_drop : R_gazetteerref11_drop Try.prog := ⟨by kernel_rfl,by kernel_rfl,fun _ _ _ _=>by kernel_rfl⟩
theorem r_gazetteerref11_without : R_gazetteerref11_without Try.prog := ⟨by kernel_rfl,by kernel_rfl,fun _ _ _ _=>by kernel_rfl⟩
theorem r_vision_Check : R_vision_Check Try.prog := ⟨by kernel_rfl,by kernel_rfl,fun _ _ _=>by kernel_rfl⟩
theorem r_vacuum_dead : R_vacuum_dead Try.prog := ⟨by kernel_rfl,by kernel_rfl,fun _ _ _ _ _=>by kernel_rfl⟩
theorem r_vacuum_Left_1 : R_vacuum_Left_1 Try.prog := ⟨by kernel_rfl,by kernel_rfl,fun _ _ _ _=>by kernel_rfl⟩
theorem r_slices_Contains_Spot_Spot : R_slices_Contains_Spot_Spot Try.prog := ⟨by kernel_rfl,by kernel_rfl,fun _ _ _ _=>by kernel_rfl⟩
theorem r_slices_DeleteFunc_Stored_Stored : R_slices_DeleteFunc_Stored_Stored Try.prog := ⟨by kernel_rfl,by kernel_rfl,fun _ _ _ _=>by kernel_rfl⟩
theorem r_slices_Clone_Stored_Stored : R_slices_Clone_Stored_Stored Try.prog := ⟨by kernel_rfl,by kernel_rfl,fun _ _ _=>by kernel_rfl⟩
theorem r_vision_look_counts : R_vision_look_counts Try.prog := ⟨by kernel_rfl,by kernel_rfl,fun _ _ _ _=>by kernel_rfl⟩
theorem r_gazetteerref09_Union : R_gazetteerref09_Union Try.prog := ⟨by kernel_rfl,by kernel_rfl,fun _ _ _ _=>by kernel_rfl⟩
theorem r_gazetteerref17_Counts : R_gazetteerref17_Counts Try.prog := ⟨by kernel_rfl,by kernel_rfl,fun _ _ _ _ _=>by kernel_rfl⟩
theorem r_slices_Clone_Link_Link : R_slices_Clone_Link_Link Try.prog := ⟨by kernel_rfl,by kernel_rfl,fun _ _ _=>by kernel_rfl⟩
theorem r_tree_grove_walk : R_tree_grove_walk Try.prog := ⟨by kernel_rfl,by kernel_rfl,fun _ _ _ _ _ _ _=>by kernel_rfl⟩
theorem r_tree_grove_leaves_1 : R_tree_grove_leaves_1 Try.prog := ⟨by kernel_rfl,by kernel_rfl,fun _ _ _ _=>by kernel_rfl⟩
theorem r_tree_keys : R_tree_keys Try.prog := ⟨by kernel_rfl,by kernel_rfl,fun _ _ _=>by kernel_rfl⟩
theorem r_key_Bound : R_key_Bound Try.prog := ⟨by kernel_rfl,by kernel_rfl,fun _ _ _=>by kernel_rfl⟩
theorem r_gazetteerref09_Less : R_gazetteerref09_Less Try.prog := ⟨by kernel_rfl,by kernel_rfl,fun _ _ _ _ _=>by kernel_rfl⟩
theorem r_gazetteerref09_Part : R_gazetteerref09_Part Try.prog := ⟨by kernel_rfl,by kernel_rfl,fun _ _ _=>by kernel_rfl⟩
theorem r_vacuum_dead_1 : R_vacuum_dead_1 Try.prog := ⟨by kernel_rfl,by kernel_rfl,fun _ _ _ _ _ _=>by kernel_rfl⟩
theorem r_vision_Dead : R_vision_Dead Try.prog := ⟨by kernel_rfl,by kernel_rfl,fun _ _ _ _ _=>by kernel_rfl⟩
theorem r_slices_Index_Spot_Spot : R_slices_Index_Spot_Spot Try.prog := ⟨by kernel_rfl,by kernel_rfl,fun _ _ _ _=>by kernel_rfl⟩
theorem r_slices_IndexFunc_Stored_Stored : R_slices_IndexFunc_Stored_Stored Try.prog := ⟨by kernel_rfl,by kernel_rfl,fun _ _ _ _=>by kernel_rfl⟩
theorem r_vision_fate : R_vision_fate Try.prog := ⟨by kernel_rfl,by kernel_rfl,fun _ _ _ _=>by kernel_rfl⟩
theorem r_gazetteerref17_Fate : R_gazetteerref17_Fate Try.prog := ⟨by kernel_rfl,by kernel_rfl,fun _ _ _ _=>by kernel_rfl⟩
theorem r_key_Union : R_key_Union Try.prog := ⟨by kernel_rfl,by kernel_rfl,fun _ _ _ _=>by kernel_rfl⟩
theorem r_gazetteerref09_Grows : R_gazetteerref09_Grows Try.prog := ⟨by kernel_rfl,by kernel_rfl,fun _ _ _ _=>by kernel_rfl⟩
theorem r_gazetteerref09_Order : R_gazetteerref09_Order Try.prog := ⟨by kernel_rfl,by kernel_rfl,fun _ _ _ _ _ _=>by kernel_rfl⟩
theorem r_gazetteerref09_Seeds : R_gazetteerref09_Seeds Try.prog := ⟨by kernel_rfl,by kernel_rfl,fun _ _ _=>by kernel_rfl⟩
theorem r_vision_Sees : R_vision_Sees Try.prog := ⟨by kernel_rfl,by kernel_rfl,fun _ _ _ _ _=>by kernel_rfl⟩
theorem r_slices_BinarySearchFunc_Fate_Fate_uint64 : R_slices_BinarySearchFunc_Fate_Fate_uint64 Try.prog := ⟨by kernel_rfl,by kernel_rfl,fun _ _ _ _ _=>by kernel_rfl⟩
theorem r_vision_fate_1 : R_vision_fate_1 Try.prog := ⟨by kernel_rfl,by kernel_rfl,fun _ _ _ _=>by kernel_rfl⟩
theorem r_cmp_Compare_uint64 : R_cmp_Compare_uint64 Try.prog := ⟨by kernel_rfl,by kernel_rfl,fun _ _ _ _=>by kernel_rfl⟩
theorem r_gazetteerref07_Sub : R_gazetteerref07_Sub Try.prog := ⟨by kernel_rfl,by kernel_rfl,fun _ _ _ _=>by kernel_rfl⟩
theorem r_gazetteerref07_Area : R_gazetteerref07_Area Try.prog := ⟨by kernel_rfl,by kernel_rfl,fun _ _ _=>by kernel_rfl⟩
theorem r_gazetteerref07_Margin : R_gazetteerref07_Margin Try.prog := ⟨by kernel_rfl,by kernel_rfl,fun _ _ _=>by kernel_rfl⟩
theorem r_gazetteerref07_Cmp : R_gazetteerref07_Cmp Try.prog := ⟨by kernel_rfl,by kernel_rfl,fun _ _ _ _=>by kernel_rfl⟩
theorem r_gazetteerref09_lost : R_gazetteerref09_lost Try.prog := ⟨by kernel_rfl,by kernel_rfl,fun _ _ _ _=>by kernel_rfl⟩
theorem r_heap_Check : R_heap_Check Try.prog := ⟨by kernel_rfl,by kernel_rfl,fun _ _ _=>by kernel_rfl⟩
theorem r_vision_look_sees : R_vision_look_sees Try.prog := ⟨by kernel_rfl,by kernel_rfl,fun _ _ _ _=>by kernel_rfl⟩
theorem r_cmp_isNaN_uint64 : R_cmp_isNaN_uint64 Try.prog := ⟨by kernel_rfl,by kernel_rfl,fun _ _ _=>by kernel_rfl⟩
theorem r_gazetteerref07_plus : R_gazetteerref07_plus Try.prog := ⟨by kernel_rfl,by kernel_rfl,fun _ _ _ _ _=>by kernel_rfl⟩
theorem r_gazetteerref07_Bits : R_gazetteerref07_Bits Try.prog := ⟨by kernel_rfl,by kernel_rfl,fun _ _ _=>by kernel_rfl⟩
theorem r_gazetteerref07_Of : R_gazetteerref07_Of Try.prog := ⟨by kernel_rfl,by kernel_rfl,fun _ _ _=>by kernel_rfl⟩
theorem r_gazetteerref07_Mul : R_gazetteerref07_Mul Try.prog := ⟨by kernel_rfl,by kernel_rfl,fun _ _ _ _=>by kernel_rfl⟩
theorem r_gazetteerref07_Width : R_gazetteerref07_Width Try.prog := ⟨by kernel_rfl,by kernel_rfl,fun _ _ _ _=>by kernel_rfl⟩
theorem r_gazetteerref07_Add : R_gazetteerref07_Add Try.prog := ⟨by kernel_rfl,by kernel_rfl,fun _ _ _ _=>by kernel_rfl⟩
end Go.Proofs.Ytmjnpfackanhlaa.AM
