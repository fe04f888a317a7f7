/- The functions of the dump, resolved, continued. -/
import Derived.Test.YtmgkjbphlbpbfaaVFacts
import Derived.Test.YtmgkjbphlbpbfaaVCode2
namespace Go.Proofs.Ytmgkjbphlbpbfaa.AM
open Go
theorem r_gazetteerlaw18_VacuumDead : R_gazetteerlaw18_VacuumDead Try.prog := by unfold R_gazetteerlaw18_VacuumDead; kernel_rfl
theorem r_gazetteerlaw18_items : R_gazetteerlaw18_items Try.prog := by unfold R_gazetteerlaw18_items; kernel_rfl
theorem r_gazetteerlaw18_fates : R_gazetteerlaw18_fates Try.prog := by unfold R_gazetteerlaw18_fates; kernel_rfl
theorem r_gazetteerref17_Same : R_gazetteerref17_Same Try.prog := by unfold R_gazetteerref17_Same; kernel_rfl
theorem r_gazetteerref17_Right : R_gazetteerref17_Right Try.prog := by unfold R_gazetteerref17_Right; kernel_rfl
theorem r_gazetteerref17_All : R_gazetteerref17_All Try.prog := by unfold R_gazetteerref17_All; kernel_rfl
theorem r_gazetteerref18_Dead : R_gazetteerref18_Dead Try.prog := by unfold R_gazetteerref18_Dead; kernel_rfl
theorem r_gazetteerlaw18_same : R_gazetteerlaw18_same Try.prog := by unfold R_gazetteerlaw18_same; kernel_rfl
theorem r_gazetteerref18_Left : R_gazetteerref18_Left Try.prog := by unfold R_gazetteerref18_Left; kernel_rfl
theorem r_gazetteerref09_Box : R_gazetteerref09_Box Try.prog := by unfold R_gazetteerref09_Box; kernel_rfl
theorem r_gazetteerref10_Right : R_gazetteerref10_Right Try.prog := by unfold R_gazetteerref10_Right; kernel_rfl
theorem r_gazetteerref17_Dead : R_gazetteerref17_Dead Try.prog := by unfold R_gazetteerref17_Dead; kernel_rfl
theorem r_gazetteerref18_Has : R_gazetteerref18_Has Try.prog := by unfold R_gazetteerref18_Has; kernel_rfl
theorem r_gazetteerref17_Fate : R_gazetteerref17_Fate Try.prog := by unfold R_gazetteerref17_Fate; kernel_rfl
end Go.Proofs.Ytmgkjbphlbpbfaa.AM
