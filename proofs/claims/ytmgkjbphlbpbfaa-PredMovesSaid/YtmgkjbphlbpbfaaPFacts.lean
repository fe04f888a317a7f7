/- The functions of the dump, resolved. -/
import Derived.Test.YtmgkjbphlbpbfaaProg
import Derived.Test.YtmgkjbphlbpbfaaPB
import Derived.Test.YtmgkjbphlbpbfaaFIns
namespace Go.Proofs.Ytmgkjbphlbpbfaa.AM
open Go
theorem r_gazetteerlaw15_PredMeets : R_gazetteerlaw15_PredMeets Try.prog := by unfold R_gazetteerlaw15_PredMeets; kernel_rfl
theorem r_gazetteerlaw15_PredKeeps : R_gazetteerlaw15_PredKeeps Try.prog := by unfold R_gazetteerlaw15_PredKeeps; kernel_rfl
theorem r_gazetteerlaw15_PredPasses : R_gazetteerlaw15_PredPasses Try.prog := by unfold R_gazetteerlaw15_PredPasses; kernel_rfl
theorem r_gazetteerlaw15_PredAttaches : R_gazetteerlaw15_PredAttaches Try.prog := by unfold R_gazetteerlaw15_PredAttaches; kernel_rfl
theorem r_gazetteerlaw15_PredMoves : R_gazetteerlaw15_PredMoves Try.prog := by unfold R_gazetteerlaw15_PredMoves; kernel_rfl
theorem r_gazetteerlaw15_wakes : R_gazetteerlaw15_wakes Try.prog := by unfold R_gazetteerlaw15_wakes; kernel_rfl
theorem r_pred_Meets : R_pred_Meets Try.prog := by unfold R_pred_Meets; kernel_rfl
theorem r_gazetteerlaw15_copied : R_gazetteerlaw15_copied Try.prog := by unfold R_gazetteerlaw15_copied; kernel_rfl
theorem r_gazetteerref15_Right : R_gazetteerref15_Right Try.prog := by unfold R_gazetteerref15_Right; kernel_rfl
theorem r_gazetteerref09_Box : R_gazetteerref09_Box Try.prog := by unfold R_gazetteerref09_Box; kernel_rfl
theorem r_gazetteerref15_Meets : R_gazetteerref15_Meets Try.prog := by unfold R_gazetteerref15_Meets; kernel_rfl
theorem r_pred_Attach : R_pred_Attach Try.prog := by unfold R_pred_Attach; kernel_rfl
theorem r_gazetteerlaw15_PredKeeps_1 : R_gazetteerlaw15_PredKeeps_1 Try.prog := by unfold R_gazetteerlaw15_PredKeeps_1; kernel_rfl
theorem r_pred_Split : R_pred_Split Try.prog := by unfold R_pred_Split; kernel_rfl
theorem r_pred_Release : R_pred_Release Try.prog := by unfold R_pred_Release; kernel_rfl
theorem r_pred_Pass : R_pred_Pass Try.prog := by unfold R_pred_Pass; kernel_rfl
theorem r_gazetteerlaw15_told : R_gazetteerlaw15_told Try.prog := by unfold R_gazetteerlaw15_told; kernel_rfl
theorem r_gazetteerref15_Pass : R_gazetteerref15_Pass Try.prog := by unfold R_gazetteerref15_Pass; kernel_rfl
theorem r_pred_Same : R_pred_Same Try.prog := by unfold R_pred_Same; kernel_rfl
theorem r_gazetteerref15_Same : R_gazetteerref15_Same Try.prog := by unfold R_gazetteerref15_Same; kernel_rfl
theorem r_pred_Check : R_pred_Check Try.prog := by unfold R_pred_Check; kernel_rfl
theorem r_gazetteerref15_Mark : R_gazetteerref15_Mark Try.prog := by unfold R_gazetteerref15_Mark; kernel_rfl
theorem r_gazetteerref15_With : R_gazetteerref15_With Try.prog := by unfold R_gazetteerref15_With; kernel_rfl
theorem r_gazetteerref15_Without : R_gazetteerref15_Without Try.prog := by unfold R_gazetteerref15_Without; kernel_rfl
theorem r_pred_Gone : R_pred_Gone Try.prog := by unfold R_pred_Gone; kernel_rfl
theorem r_gazetteerref15_Split : R_gazetteerref15_Split Try.prog := by unfold R_gazetteerref15_Split; kernel_rfl
theorem r_gazetteerref15_Gone : R_gazetteerref15_Gone Try.prog := by unfold R_gazetteerref15_Gone; kernel_rfl
theorem r_pred_box : R_pred_box Try.prog := by unfold R_pred_box; kernel_rfl
theorem r_pred_at : R_pred_at Try.prog := by unfold R_pred_at; kernel_rfl
theorem r_key_Meets : R_key_Meets Try.prog := by unfold R_key_Meets; kernel_rfl
theorem r_slices_Compact_uint64_uint64 : R_slices_Compact_uint64_uint64 Try.prog := by unfold R_slices_Compact_uint64_uint64; kernel_rfl
theorem r_gazetteerref15_Less : R_gazetteerref15_Less Try.prog := by unfold R_gazetteerref15_Less; kernel_rfl
theorem r_gazetteerref09_Meets : R_gazetteerref09_Meets Try.prog := by unfold R_gazetteerref09_Meets; kernel_rfl
theorem r_pred_mark : R_pred_mark Try.prog := by unfold R_pred_mark; kernel_rfl
theorem r_pred_change : R_pred_change Try.prog := by unfold R_pred_change; kernel_rfl
theorem r_pred_Attach_1 : R_pred_Attach_1 Try.prog := by unfold R_pred_Attach_1; kernel_rfl
theorem r_slices_ContainsFunc_Split_Split : R_slices_ContainsFunc_Split_Split Try.prog := by unfold R_slices_ContainsFunc_Split_Split; kernel_rfl
theorem r_pred_Split_1 : R_pred_Split_1 Try.prog := by unfold R_pred_Split_1; kernel_rfl
theorem r_pred_Split_2 : R_pred_Split_2 Try.prog := by unfold R_pred_Split_2; kernel_rfl
theorem r_slices_Collect_Pred : R_slices_Collect_Pred Try.prog := by unfold R_slices_Collect_Pred; kernel_rfl
theorem r_slices_DeleteFunc_Pred_Pred : R_slices_DeleteFunc_Pred_Pred Try.prog := by unfold R_slices_DeleteFunc_Pred_Pred; kernel_rfl
theorem r_slices_Clone_Pred_Pred : R_slices_Clone_Pred_Pred Try.prog := by unfold R_slices_Clone_Pred_Pred; kernel_rfl
theorem r_pred_Release_1 : R_pred_Release_1 Try.prog := by unfold R_pred_Release_1; kernel_rfl
theorem r_slices_Contains_uint32_uint32 : R_slices_Contains_uint32_uint32 Try.prog := by unfold R_slices_Contains_uint32_uint32; kernel_rfl
theorem r_pred_Pass_1 : R_pred_Pass_1 Try.prog := by unfold R_pred_Pass_1; kernel_rfl
theorem r_gazetteerref15_Copied : R_gazetteerref15_Copied Try.prog := by unfold R_gazetteerref15_Copied; kernel_rfl
theorem r_slices_Equal_Pred_Pred : R_slices_Equal_Pred_Pred Try.prog := by unfold R_slices_Equal_Pred_Pred; kernel_rfl
theorem r_pred_order : R_pred_order Try.prog := by unfold R_pred_order; kernel_rfl
theorem r_pred_Gone_1 : R_pred_Gone_1 Try.prog := by unfold R_pred_Gone_1; kernel_rfl
theorem r_pred_Gone_1_1 : R_pred_Gone_1_1 Try.prog := by unfold R_pred_Gone_1_1; kernel_rfl
theorem r_key_Check : R_key_Check Try.prog := by unfold R_key_Check; kernel_rfl
theorem r_pred_at_1 : R_pred_at_1 Try.prog := by unfold R_pred_at_1; kernel_rfl
theorem r_key_box : R_key_box Try.prog := by unfold R_key_box; kernel_rfl
theorem r_gazetteerref09_inside : R_gazetteerref09_inside Try.prog := by unfold R_gazetteerref09_inside; kernel_rfl
theorem r_pred_change_1 : R_pred_change_1 Try.prog := by unfold R_pred_change_1; kernel_rfl
theorem r_slices_BinarySearchFunc_Pred_Pred_Pred : R_slices_BinarySearchFunc_Pred_Pred_Pred Try.prog := by unfold R_slices_BinarySearchFunc_Pred_Pred_Pred; kernel_rfl
theorem r_slices_IndexFunc_Split_Split : R_slices_IndexFunc_Split_Split Try.prog := by unfold R_slices_IndexFunc_Split_Split; kernel_rfl
theorem r_slices_AppendSeq_Pred_Pred : R_slices_AppendSeq_Pred_Pred Try.prog := by unfold R_slices_AppendSeq_Pred_Pred; kernel_rfl
theorem r_slices_IndexFunc_Pred_Pred : R_slices_IndexFunc_Pred_Pred Try.prog := by unfold R_slices_IndexFunc_Pred_Pred; kernel_rfl
theorem r_slices_Index_uint32_uint32 : R_slices_Index_uint32_uint32 Try.prog := by unfold R_slices_Index_uint32_uint32; kernel_rfl
theorem r_cmp_Or_int : R_cmp_Or_int Try.prog := by unfold R_cmp_Or_int; kernel_rfl
theorem r_cmp_Compare_uint32 : R_cmp_Compare_uint32 Try.prog := by unfold R_cmp_Compare_uint32; kernel_rfl
theorem r_cmp_Compare_uint64 : R_cmp_Compare_uint64 Try.prog := by unfold R_cmp_Compare_uint64; kernel_rfl
theorem r_cmp_Compare_int64 : R_cmp_Compare_int64 Try.prog := by unfold R_cmp_Compare_int64; kernel_rfl
theorem r_cmp_isNaN_uint32 : R_cmp_isNaN_uint32 Try.prog := by unfold R_cmp_isNaN_uint32; kernel_rfl
theorem r_cmp_isNaN_uint64 : R_cmp_isNaN_uint64 Try.prog := by unfold R_cmp_isNaN_uint64; kernel_rfl
theorem r_cmp_isNaN_int64 : R_cmp_isNaN_int64 Try.prog := by unfold R_cmp_isNaN_int64; kernel_rfl
end Go.Proofs.Ytmgkjbphlbpbfaa.AM
