/- The functions of the dump, resolved, for VacuumSeen. -/
import Derived.Test.YtmgkjbphlbpbfaaVFacts2
import Derived.Test.YtmgkjbphlbpbfaaVCode3
namespace Go.Proofs.Ytmgkjbphlbpbfaa.AM
open Go
theorem r_gazetteerlaw18_VacuumSeen : R_gazetteerlaw18_VacuumSeen Try.prog := by unfold R_gazetteerlaw18_VacuumSeen; kernel_rfl
theorem r_vision_Seen : R_vision_Seen Try.prog := by unfold R_vision_Seen; kernel_rfl
theorem r_slices_Equal_Stored_Stored : R_slices_Equal_Stored_Stored Try.prog := by unfold R_slices_Equal_Stored_Stored; kernel_rfl
theorem r_vision_ready : R_vision_ready Try.prog := by unfold R_vision_ready; kernel_rfl
theorem r_slices_Collect_Stored : R_slices_Collect_Stored Try.prog := by unfold R_slices_Collect_Stored; kernel_rfl
theorem r_vision_look_seen : R_vision_look_seen Try.prog := by unfold R_vision_look_seen; kernel_rfl
theorem r_slices_ContainsFunc_Stored_Stored : R_slices_ContainsFunc_Stored_Stored Try.prog := by unfold R_slices_ContainsFunc_Stored_Stored; kernel_rfl
theorem r_vision_ready_1 : R_vision_ready_1 Try.prog := by unfold R_vision_ready_1; kernel_rfl
theorem r_slices_AppendSeq_Stored_Stored : R_slices_AppendSeq_Stored_Stored Try.prog := by unfold R_slices_AppendSeq_Stored_Stored; kernel_rfl
theorem r_vision_look_seen_1 : R_vision_look_seen_1 Try.prog := by unfold R_vision_look_seen_1; kernel_rfl
end Go.Proofs.Ytmgkjbphlbpbfaa.AM
