/- The functions of the dump, resolved. -/
import Derived.Test.YtmgkjbphlbpbfaaProg
import Derived.Test.YtmgkjbphlbpbfaaVBM
namespace Go.Proofs.Ytmgkjbphlbpbfaa.AM
open Go
theorem r_gazetteerlaw18_VacuumBack : R_gazetteerlaw18_VacuumBack Try.prog := by unfold R_gazetteerlaw18_VacuumBack; kernel_rfl
theorem r_gazetteerlaw18_wakes : R_gazetteerlaw18_wakes Try.prog := by unfold R_gazetteerlaw18_wakes; kernel_rfl
theorem r_vacuum_Dead : R_vacuum_Dead Try.prog := by unfold R_vacuum_Dead; kernel_rfl
theorem r_vacuum_Left : R_vacuum_Left Try.prog := by unfold R_vacuum_Left; kernel_rfl
theorem r_vacuum_Entry : R_vacuum_Entry Try.prog := by unfold R_vacuum_Entry; kernel_rfl
theorem r_vacuum_Spot : R_vacuum_Spot Try.prog := by unfold R_vacuum_Spot; kernel_rfl
theorem r_slices_Contains_Spot_Spot : R_slices_Contains_Spot_Spot Try.prog := by unfold R_slices_Contains_Spot_Spot; kernel_rfl
theorem r_gazetteerlaw18_first : R_gazetteerlaw18_first Try.prog := by unfold R_gazetteerlaw18_first; kernel_rfl
theorem r_vision_Check : R_vision_Check Try.prog := by unfold R_vision_Check; kernel_rfl
theorem r_vacuum_dead : R_vacuum_dead Try.prog := by unfold R_vacuum_dead; kernel_rfl
theorem r_vacuum_Left_1 : R_vacuum_Left_1 Try.prog := by unfold R_vacuum_Left_1; kernel_rfl
theorem r_slices_DeleteFunc_Stored_Stored : R_slices_DeleteFunc_Stored_Stored Try.prog := by unfold R_slices_DeleteFunc_Stored_Stored; kernel_rfl
theorem r_slices_Clone_Stored_Stored : R_slices_Clone_Stored_Stored Try.prog := by unfold R_slices_Clone_Stored_Stored; kernel_rfl
theorem r_slices_Index_Spot_Spot : R_slices_Index_Spot_Spot Try.prog := by unfold R_slices_Index_Spot_Spot; kernel_rfl
theorem r_vacuum_dead_1 : R_vacuum_dead_1 Try.prog := by unfold R_vacuum_dead_1; kernel_rfl
theorem r_vision_Dead : R_vision_Dead Try.prog := by unfold R_vision_Dead; kernel_rfl
theorem r_slices_IndexFunc_Stored_Stored : R_slices_IndexFunc_Stored_Stored Try.prog := by unfold R_slices_IndexFunc_Stored_Stored; kernel_rfl
theorem r_heap_Check : R_heap_Check Try.prog := by unfold R_heap_Check; kernel_rfl
theorem r_vision_look_sees : R_vision_look_sees Try.prog := by unfold R_vision_look_sees; kernel_rfl
theorem r_key_Check : R_key_Check Try.prog := by unfold R_key_Check; kernel_rfl
theorem r_key_box : R_key_box Try.prog := by unfold R_key_box; kernel_rfl
theorem r_cmp_Compare_uint64 : R_cmp_Compare_uint64 Try.prog := by unfold R_cmp_Compare_uint64; kernel_rfl
theorem r_vision_Sees : R_vision_Sees Try.prog := by unfold R_vision_Sees; kernel_rfl
theorem r_vision_fate : R_vision_fate Try.prog := by unfold R_vision_fate; kernel_rfl
theorem r_vision_look_counts : R_vision_look_counts Try.prog := by unfold R_vision_look_counts; kernel_rfl
theorem r_cmp_isNaN_uint64 : R_cmp_isNaN_uint64 Try.prog := by unfold R_cmp_isNaN_uint64; kernel_rfl
theorem r_slices_BinarySearchFunc_Fate_Fate_uint64 : R_slices_BinarySearchFunc_Fate_Fate_uint64 Try.prog := by unfold R_slices_BinarySearchFunc_Fate_Fate_uint64; kernel_rfl
theorem r_vision_fate_1 : R_vision_fate_1 Try.prog := by unfold R_vision_fate_1; kernel_rfl
theorem r_gazetteerlaw18_VacuumDead : R_gazetteerlaw18_VacuumDead Try.prog := by unfold R_gazetteerlaw18_VacuumDead; kernel_rfl
theorem r_gazetteerlaw18_items : R_gazetteerlaw18_items Try.prog := by unfold R_gazetteerlaw18_items; kernel_rfl
theorem r_gazetteerlaw18_fates : R_gazetteerlaw18_fates Try.prog := by unfold R_gazetteerlaw18_fates; kernel_rfl
theorem r_gazetteerref17_Same : R_gazetteerref17_Same Try.prog := by unfold R_gazetteerref17_Same; kernel_rfl
theorem r_gazetteerref17_Right : R_gazetteerref17_Right Try.prog := by unfold R_gazetteerref17_Right; kernel_rfl
theorem r_gazetteerref17_All : R_gazetteerref17_All Try.prog := by unfold R_gazetteerref17_All; kernel_rfl
theorem r_gazetteerref18_Dead : R_gazetteerref18_Dead Try.prog := by unfold R_gazetteerref18_Dead; kernel_rfl
theorem r_gazetteerlaw18_same : R_gazetteerlaw18_same Try.prog := by unfold R_gazetteerlaw18_same; kernel_rfl
theorem r_gazetteerref18_Left : R_gazetteerref18_Left Try.prog := by unfold R_gazetteerref18_Left; kernel_rfl
theorem r_gazetteerref09_Box : R_gazetteerref09_Box Try.prog := by unfold R_gazetteerref09_Box; kernel_rfl
theorem r_gazetteerref10_Right : R_gazetteerref10_Right Try.prog := by unfold R_gazetteerref10_Right; kernel_rfl
theorem r_gazetteerref17_Dead : R_gazetteerref17_Dead Try.prog := by unfold R_gazetteerref17_Dead; kernel_rfl
theorem r_gazetteerref18_Has : R_gazetteerref18_Has Try.prog := by unfold R_gazetteerref18_Has; kernel_rfl
theorem r_gazetteerref17_Fate : R_gazetteerref17_Fate Try.prog := by unfold R_gazetteerref17_Fate; kernel_rfl
theorem r_gazetteerlaw18_VacuumSpots : R_gazetteerlaw18_VacuumSpots Try.prog := by unfold R_gazetteerlaw18_VacuumSpots; kernel_rfl
theorem r_gazetteerlaw18_spots : R_gazetteerlaw18_spots Try.prog := by unfold R_gazetteerlaw18_spots; kernel_rfl
theorem r_gazetteerref18_Spot : R_gazetteerref18_Spot Try.prog := by unfold R_gazetteerref18_Spot; kernel_rfl
theorem r_gazetteerref18_Entry : R_gazetteerref18_Entry Try.prog := by unfold R_gazetteerref18_Entry; kernel_rfl
theorem r_vacuum_Batches : R_vacuum_Batches Try.prog := by unfold R_vacuum_Batches; kernel_rfl
theorem r_slices_Clone_Spot_Spot : R_slices_Clone_Spot_Spot Try.prog := by unfold R_slices_Clone_Spot_Spot; kernel_rfl
end Go.Proofs.Ytmgkjbphlbpbfaa.AM
