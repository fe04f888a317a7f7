/- The functions of the dump, resolved. -/
import Derived.Test.YtmgkjbphlbpbfaaProg
import Derived.Test.YtmgkjbphlbpbfaaV10
namespace Go.Proofs.Ytmgkjbphlbpbfaa.AM
open Go
theorem r_gazetteerlaw18_VacuumBack : R_gazetteerlaw18_VacuumBack Try.prog := by unfold R_gazetteerlaw18_VacuumBack; kernel_rfl
theorem r_gazetteerlaw18_wakes : R_gazetteerlaw18_wakes Try.prog := by unfold R_gazetteerlaw18_wakes; kernel_rfl
theorem r_vacuum_Dead : R_vacuum_Dead Try.prog := by unfold R_vacuum_Dead; kernel_rfl
theorem r_vacuum_Left : R_vacuum_Left Try.prog := by unfold R_vacuum_Left; kernel_rfl
theorem r_vacuum_Entry : R_vacuum_Entry Try.prog := by unfold R_vacuum_Entry; kernel_rfl
theorem r_vacuum_Spot : R_vacuum_Spot Try.prog := by unfold R_vacuum_Spot; kernel_rfl
theorem r_slices_Contains_Spot_Spot : R_slices_Contains_Spot_Spot Try.prog := by unfold R_slices_Contains_Spot_Spot; kernel_rfl
theorem r_gazetteerlaw18_first : R_gazetteerlaw18_first Try.prog := by unfold R_gazetteerlaw18_first; kernel_rfl
theorem r_vision_Check : R_vision_Check Try.prog := by unfold R_vision_Check; kernel_rfl
theorem r_vacuum_dead : R_vacuum_dead Try.prog := by unfold R_vacuum_dead; kernel_rfl
theorem r_vacuum_Left_1 : R_vacuum_Left_1 Try.prog := by unfold R_vacuum_Left_1; kernel_rfl
theorem r_slices_DeleteFunc_Stored_Stored : R_slices_DeleteFunc_Stored_Stored Try.prog := by unfold R_slices_DeleteFunc_Stored_Stored; kernel_rfl
theorem r_slices_Clone_Stored_Stored : R_slices_Clone_Stored_Stored Try.prog := by unfold R_slices_Clone_Stored_Stored; kernel_rfl
theorem r_slices_Index_Spot_Spot : R_slices_Index_Spot_Spot Try.prog := by unfold R_slices_Index_Spot_Spot; kernel_rfl
theorem r_vacuum_dead_1 : R_vacuum_dead_1 Try.prog := by unfold R_vacuum_dead_1; kernel_rfl
theorem r_vision_Dead : R_vision_Dead Try.prog := by unfold R_vision_Dead; kernel_rfl
theorem r_slices_IndexFunc_Stored_Stored : R_slices_IndexFunc_Stored_Stored Try.prog := by unfold R_slices_IndexFunc_Stored_Stored; kernel_rfl
theorem r_heap_Check : R_heap_Check Try.prog := by unfold R_heap_Check; kernel_rfl
theorem r_vision_look_sees : R_vision_look_sees Try.prog := by unfold R_vision_look_sees; kernel_rfl
theorem r_key_Check : R_key_Check Try.prog := by unfold R_key_Check; kernel_rfl
theorem r_key_box : R_key_box Try.prog := by unfold R_key_box; kernel_rfl
theorem r_cmp_Compare_uint64 : R_cmp_Compare_uint64 Try.prog := by unfold R_cmp_Compare_uint64; kernel_rfl
theorem r_vision_Sees : R_vision_Sees Try.prog := by unfold R_vision_Sees; kernel_rfl
theorem r_vision_fate : R_vision_fate Try.prog := by unfold R_vision_fate; kernel_rfl
theorem r_vision_look_counts : R_vision_look_counts Try.prog := by unfold R_vision_look_counts; kernel_rfl
theorem r_cmp_isNaN_uint64 : R_cmp_isNaN_uint64 Try.prog := by unfold R_cmp_isNaN_uint64; kernel_rfl
theorem r_slices_BinarySearchFunc_Fate_Fate_uint64 : R_slices_BinarySearchFunc_Fate_Fate_uint64 Try.prog := by unfold R_slices_BinarySearchFunc_Fate_Fate_uint64; kernel_rfl
theorem r_vision_fate_1 : R_vision_fate_1 Try.prog := by unfold R_vision_fate_1; kernel_rfl
end Go.Proofs.Ytmgkjbphlbpbfaa.AM
