/- What the program holds, for the other statements of layer 16. -/
import Derived.Test.YthoaclojobgelaaGArgs
import Derived.Test.YthoaclojobgelaaGH
namespace Go.Proofs.Ythoaclojobgelaa.graphLaw
open Go.Proofs.Ythoaclojobgelaa.AM
theorem slR : SlR Try.prog := { comp := r_slices_Compact_uint64_uint64, equal := r_slices_Equal_uint64_uint64, cont := r_slices_Contains_uint64_uint64, index := r_slices_Index_uint64_uint64, contE := r_slices_Contains_Edge_Edge, indexE := r_slices_Index_Edge_Edge }
theorem endsR : EndsR Try.prog := { slR with ends1 := r_gazetteerlaw16_GraphEnds_1, law := r_gazetteerlaw16_GraphEnds }
end Go.Proofs.Ythoaclojobgelaa.graphLaw
