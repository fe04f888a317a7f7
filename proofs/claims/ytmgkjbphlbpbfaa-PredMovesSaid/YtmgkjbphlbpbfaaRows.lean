/-
  No cell of these rows narrows 'for every input' (looked for: loops, veiled, ifaces, maps, wideKeys, modest, calm, conditions, laid).
  DERIVED. THE GIVEN ROWS OF THIS SEAT. 9 by the template 'for every input the law returns true; each argument reads behind the call as it read before'; 0 by the template 'total and deterministic' (their statements: YtmgkjbphlbpbfaaTotals.lean).
  GIVEN WITH THE SEED: the statements are not yours to turn. If you find one false, say at which input.
  Laid BY PROGRAM, IN A SANDBOX (cutbox-rows.mjs): the forced cells as the released guide's own fill.sh prints them over the translation 7369bafe10ddf909… (all of the seat's roots in one cut). By AI agents, Wed Nov 11 2026. No macro, syntax, notation, axiom, sorry.
-/
import Derived.Test.YtmgkjbphlbpbfaaChecked
import GoSem.Claim
import GoSem.ClaimJoined
import GoSem.ClaimMapViews
import Derived.JoinedTies
import Derived.KernelRfl
namespace Go.Proofs.Ytmgkjbphlbpbfaa
/- THE CELL 'sum', in the pinned program and in every row, IS THE sha256 OF THE DUMP (.gsa) THAT YtmgkjbphlbpbfaaProg.lean LOADS. Nothing in Lean hashes anything: it is a label: what it is worth is what the hold of that sum in a sandbox is worth. -/
noncomputable def Try.pinned : Pinned := { name := "ytmgkjbphlbpbfaa", sum := "7369bafe10ddf909d4f4a55acece11fa9f9eb8258246d36332825a7a74adc1d2", checked := Try.checked }
namespace Rows
def none {H : Type} : Left H := { results := [], args := [] }

/-- 'gazetteerlaw18.VacuumDead': WHATEVER THE INPUT: true; the input reads as it did. -/
def vacuumDeadSpec : ChangeSpec := { name := "vacuumDead", fn := fun _ => fun
  | [d1, d2, d3] => { results := [.lit (.bool true)], args := [d1, d2, d3] }
  | _ => none }
def vacuumDeadRow : OpenClaim := { program := "ytmgkjbphlbpbfaa", sum := "7369bafe10ddf909d4f4a55acece11fa9f9eb8258246d36332825a7a74adc1d2", func := "gazetteer/gazetteerlaw18.VacuumDead", spec := "vacuumDead", unfollowed := true, recurses := true, plainKeys := false, apart := false }
def VacuumDeadSaid : Prop := vacuumDeadRow.holds Try.pinned (OpenSpec.ofChange vacuumDeadSpec)

/-- ITS FALSE NEIGHBOUR: 'it returns false'. Refute it at one input. -/
def vacuumDeadWrong : ChangeSpec := { name := "vacuumDead", fn := fun _ => fun
  | [d1, d2, d3] => { results := [.lit (.bool false)], args := [d1, d2, d3] }
  | _ => none }
def VacuumDeadWrongFalsely : Prop := vacuumDeadRow.holds Try.pinned (OpenSpec.ofChange vacuumDeadWrong)

/-- 'gazetteerlaw18.VacuumBack': WHATEVER THE INPUT: true; the input reads as it did. -/
def vacuumBackSpec : ChangeSpec := { name := "vacuumBack", fn := fun _ => fun
  | [d1, d2] => { results := [.lit (.bool true)], args := [d1, d2] }
  | _ => none }
def vacuumBackRow : OpenClaim := { program := "ytmgkjbphlbpbfaa", sum := "7369bafe10ddf909d4f4a55acece11fa9f9eb8258246d36332825a7a74adc1d2", func := "gazetteer/gazetteerlaw18.VacuumBack", spec := "vacuumBack", unfollowed := true, recurses := true, plainKeys := false, apart := false }
def VacuumBackSaid : Prop := vacuumBackRow.holds Try.pinned (OpenSpec.ofChange vacuumBackSpec)

/-- ITS FALSE NEIGHBOUR: 'it returns false'. Refute it at one input. -/
def vacuumBackWrong : ChangeSpec := { name := "vacuumBack", fn := fun _ => fun
  | [d1, d2] => { results := [.lit (.bool false)], args := [d1, d2] }
  | _ => none }
def VacuumBackWrongFalsely : Prop := vacuumBackRow.holds Try.pinned (OpenSpec.ofChange vacuumBackWrong)

/-- 'gazetteerlaw18.VacuumSpots': WHATEVER THE INPUT: true; the input reads as it did. -/
def vacuumSpotsSpec : ChangeSpec := { name := "vacuumSpots", fn := fun _ => fun
  | [d1, d2, d3] => { results := [.lit (.bool true)], args := [d1, d2, d3] }
  | _ => none }
def vacuumSpotsRow : OpenClaim := { program := "ytmgkjbphlbpbfaa", sum := "7369bafe10ddf909d4f4a55acece11fa9f9eb8258246d36332825a7a74adc1d2", func := "gazetteer/gazetteerlaw18.VacuumSpots", spec := "vacuumSpots", unfollowed := true, recurses := true, plainKeys := false, apart := false }
def VacuumSpotsSaid : Prop := vacuumSpotsRow.holds Try.pinned (OpenSpec.ofChange vacuumSpotsSpec)

/-- ITS FALSE NEIGHBOUR: 'it returns false'. Refute it at one input. -/
def vacuumSpotsWrong : ChangeSpec := { name := "vacuumSpots", fn := fun _ => fun
  | [d1, d2, d3] => { results := [.lit (.bool false)], args := [d1, d2, d3] }
  | _ => none }
def VacuumSpotsWrongFalsely : Prop := vacuumSpotsRow.holds Try.pinned (OpenSpec.ofChange vacuumSpotsWrong)

/-- 'gazetteerlaw18.VacuumSeen': WHATEVER THE INPUT: true; the input reads as it did. -/
def vacuumSeenSpec : ChangeSpec := { name := "vacuumSeen", fn := fun _ => fun
  | [d1, d2, d3] => { results := [.lit (.bool true)], args := [d1, d2, d3] }
  | _ => none }
def vacuumSeenRow : OpenClaim := { program := "ytmgkjbphlbpbfaa", sum := "7369bafe10ddf909d4f4a55acece11fa9f9eb8258246d36332825a7a74adc1d2", func := "gazetteer/gazetteerlaw18.VacuumSeen", spec := "vacuumSeen", unfollowed := true, recurses := true, plainKeys := false, apart := false }
def VacuumSeenSaid : Prop := vacuumSeenRow.holds Try.pinned (OpenSpec.ofChange vacuumSeenSpec)

/-- ITS FALSE NEIGHBOUR: 'it returns false'. Refute it at one input. -/
def vacuumSeenWrong : ChangeSpec := { name := "vacuumSeen", fn := fun _ => fun
  | [d1, d2, d3] => { results := [.lit (.bool false)], args := [d1, d2, d3] }
  | _ => none }
def VacuumSeenWrongFalsely : Prop := vacuumSeenRow.holds Try.pinned (OpenSpec.ofChange vacuumSeenWrong)

/-- 'gazetteerlaw15.PredMeets': WHATEVER THE INPUT: true; the input reads as it did. -/
def predMeetsSpec : ChangeSpec := { name := "predMeets", fn := fun _ => fun
  | [d1, d2, d3] => { results := [.lit (.bool true)], args := [d1, d2, d3] }
  | _ => none }
def predMeetsRow : OpenClaim := { program := "ytmgkjbphlbpbfaa", sum := "7369bafe10ddf909d4f4a55acece11fa9f9eb8258246d36332825a7a74adc1d2", func := "gazetteer/gazetteerlaw15.PredMeets", spec := "predMeets", inPlace := ["slices.overlaps[gazetteer/api.Pred]"], unfollowed := true, recurses := true, plainKeys := false, apart := false }
def PredMeetsSaid : Prop := predMeetsRow.holds Try.pinned (OpenSpec.ofChange predMeetsSpec)

/-- ITS FALSE NEIGHBOUR: 'it returns false'. Refute it at one input. -/
def predMeetsWrong : ChangeSpec := { name := "predMeets", fn := fun _ => fun
  | [d1, d2, d3] => { results := [.lit (.bool false)], args := [d1, d2, d3] }
  | _ => none }
def PredMeetsWrongFalsely : Prop := predMeetsRow.holds Try.pinned (OpenSpec.ofChange predMeetsWrong)

/-- 'gazetteerlaw15.PredKeeps': WHATEVER THE INPUT: true; the input reads as it did. -/
def predKeepsSpec : ChangeSpec := { name := "predKeeps", fn := fun _ => fun
  | [d1, d2, d3] => { results := [.lit (.bool true)], args := [d1, d2, d3] }
  | _ => none }
def predKeepsRow : OpenClaim := { program := "ytmgkjbphlbpbfaa", sum := "7369bafe10ddf909d4f4a55acece11fa9f9eb8258246d36332825a7a74adc1d2", func := "gazetteer/gazetteerlaw15.PredKeeps", spec := "predKeeps", inPlace := ["slices.overlaps[gazetteer/api.Pred]"], unfollowed := true, recurses := true, plainKeys := false, apart := false }
def PredKeepsSaid : Prop := predKeepsRow.holds Try.pinned (OpenSpec.ofChange predKeepsSpec)

/-- ITS FALSE NEIGHBOUR: 'it returns false'. Refute it at one input. -/
def predKeepsWrong : ChangeSpec := { name := "predKeeps", fn := fun _ => fun
  | [d1, d2, d3] => { results := [.lit (.bool false)], args := [d1, d2, d3] }
  | _ => none }
def PredKeepsWrongFalsely : Prop := predKeepsRow.holds Try.pinned (OpenSpec.ofChange predKeepsWrong)

/-- 'gazetteerlaw15.PredPasses': WHATEVER THE INPUT: true; the input reads as it did. -/
def predPassesSpec : ChangeSpec := { name := "predPasses", fn := fun _ => fun
  | [d1, d2, d3] => { results := [.lit (.bool true)], args := [d1, d2, d3] }
  | _ => none }
def predPassesRow : OpenClaim := { program := "ytmgkjbphlbpbfaa", sum := "7369bafe10ddf909d4f4a55acece11fa9f9eb8258246d36332825a7a74adc1d2", func := "gazetteer/gazetteerlaw15.PredPasses", spec := "predPasses", inPlace := ["slices.overlaps[gazetteer/api.Pred]"], unfollowed := true, recurses := true, plainKeys := false, apart := false }
def PredPassesSaid : Prop := predPassesRow.holds Try.pinned (OpenSpec.ofChange predPassesSpec)

/-- ITS FALSE NEIGHBOUR: 'it returns false'. Refute it at one input. -/
def predPassesWrong : ChangeSpec := { name := "predPasses", fn := fun _ => fun
  | [d1, d2, d3] => { results := [.lit (.bool false)], args := [d1, d2, d3] }
  | _ => none }
def PredPassesWrongFalsely : Prop := predPassesRow.holds Try.pinned (OpenSpec.ofChange predPassesWrong)

/-- 'gazetteerlaw15.PredAttaches': WHATEVER THE INPUT: true; the input reads as it did. -/
def predAttachesSpec : ChangeSpec := { name := "predAttaches", fn := fun _ => fun
  | [d1, d2, d3] => { results := [.lit (.bool true)], args := [d1, d2, d3] }
  | _ => none }
def predAttachesRow : OpenClaim := { program := "ytmgkjbphlbpbfaa", sum := "7369bafe10ddf909d4f4a55acece11fa9f9eb8258246d36332825a7a74adc1d2", func := "gazetteer/gazetteerlaw15.PredAttaches", spec := "predAttaches", inPlace := ["slices.overlaps[gazetteer/api.Pred]"], unfollowed := true, recurses := true, plainKeys := false, apart := false }
def PredAttachesSaid : Prop := predAttachesRow.holds Try.pinned (OpenSpec.ofChange predAttachesSpec)

/-- ITS FALSE NEIGHBOUR: 'it returns false'. Refute it at one input. -/
def predAttachesWrong : ChangeSpec := { name := "predAttaches", fn := fun _ => fun
  | [d1, d2, d3] => { results := [.lit (.bool false)], args := [d1, d2, d3] }
  | _ => none }
def PredAttachesWrongFalsely : Prop := predAttachesRow.holds Try.pinned (OpenSpec.ofChange predAttachesWrong)

/-- 'gazetteerlaw15.PredMoves': WHATEVER THE INPUT: true; the input reads as it did. -/
def predMovesSpec : ChangeSpec := { name := "predMoves", fn := fun _ => fun
  | [d1, d2] => { results := [.lit (.bool true)], args := [d1, d2] }
  | _ => none }
def predMovesRow : OpenClaim := { program := "ytmgkjbphlbpbfaa", sum := "7369bafe10ddf909d4f4a55acece11fa9f9eb8258246d36332825a7a74adc1d2", func := "gazetteer/gazetteerlaw15.PredMoves", spec := "predMoves", inPlace := ["slices.overlaps[gazetteer/api.Pred]"], unfollowed := true, recurses := true, plainKeys := false, apart := false }
def PredMovesSaid : Prop := predMovesRow.holds Try.pinned (OpenSpec.ofChange predMovesSpec)

/-- ITS FALSE NEIGHBOUR: 'it returns false'. Refute it at one input. -/
def predMovesWrong : ChangeSpec := { name := "predMoves", fn := fun _ => fun
  | [d1, d2] => { results := [.lit (.bool false)], args := [d1, d2] }
  | _ => none }
def PredMovesWrongFalsely : Prop := predMovesRow.holds Try.pinned (OpenSpec.ofChange predMovesWrong)

/- THE SECOND FORM. 'bulk': how many values and letters a reading holds, each counted each time it is reached (what is shared counts as often as it is met; a slice's spare places count too). A statement '..UptoSaid' is the law's where the arguments, and the package variables that the reading takes, are together of bulk at most 1048576: NARROWER than '..Said'. Prove '..Said' where nothing that the law and all that it calls make is longer than what came in: it says more and counts as full. Else prove '..UptoSaid'. A law counts once. -/
mutual
def uptoBulk {H : Type} : DataW H → Nat
  | .lit (.string bytes) => bytes.length + 1
  | .lit _ => 1
  | .nil => 1
  | .ptr d => uptoBulk d + 1
  | .slice elems spare => uptoBulkAll elems + uptoBulkAll spare + 1
  | .agg parts => uptoBulkAll parts + 1
  | .iface _ d => uptoBulk d + 1
  | .map entries => uptoBulkEntries entries + 1
  | .held _ => 1
def uptoBulkAll {H : Type} : List (DataW H) → Nat
  | [] => 0
  | d :: r => uptoBulk d + uptoBulkAll r
def uptoBulkEntries {H : Type} : List (Lit × DataW H) → Nat
  | [] => 0
  | x :: r => uptoBulkEntry x + uptoBulkEntries r
def uptoBulkEntry {H : Type} : Lit × DataW H → Nat
  | (.string bytes, d) => bytes.length + uptoBulk d + 1
  | (_, d) => uptoBulk d + 1
 end
def uptoSmall : (H : Type) → List (DataW H) → Bool := fun _ ds => decide (uptoBulkAll ds ≤ 1048576)
def OpenSpec.upto (s : _root_.Go.ChangeSpec) : _root_.Go.OpenSpec := { _root_.Go.OpenSpec.ofChange s with cond := some uptoSmall }

/-- 'gazetteerlaw18.VacuumDead', WHERE WHAT IT READS IS OF BULK AT MOST 1048576: true; the input reads as it did. -/
def vacuumDeadUptoRow : OpenClaim := { program := "ytmgkjbphlbpbfaa", sum := "7369bafe10ddf909d4f4a55acece11fa9f9eb8258246d36332825a7a74adc1d2", func := "gazetteer/gazetteerlaw18.VacuumDead", spec := "vacuumDead", unfollowed := true, recurses := true, plainKeys := false, apart := false, narrowed := true }
def VacuumDeadUptoSaid : Prop := vacuumDeadUptoRow.holds Try.pinned (OpenSpec.upto vacuumDeadSpec)

/-- 'gazetteerlaw18.VacuumBack', WHERE WHAT IT READS IS OF BULK AT MOST 1048576: true; the input reads as it did. -/
def vacuumBackUptoRow : OpenClaim := { program := "ytmgkjbphlbpbfaa", sum := "7369bafe10ddf909d4f4a55acece11fa9f9eb8258246d36332825a7a74adc1d2", func := "gazetteer/gazetteerlaw18.VacuumBack", spec := "vacuumBack", unfollowed := true, recurses := true, plainKeys := false, apart := false, narrowed := true }
def VacuumBackUptoSaid : Prop := vacuumBackUptoRow.holds Try.pinned (OpenSpec.upto vacuumBackSpec)

/-- 'gazetteerlaw18.VacuumSpots', WHERE WHAT IT READS IS OF BULK AT MOST 1048576: true; the input reads as it did. -/
def vacuumSpotsUptoRow : OpenClaim := { program := "ytmgkjbphlbpbfaa", sum := "7369bafe10ddf909d4f4a55acece11fa9f9eb8258246d36332825a7a74adc1d2", func := "gazetteer/gazetteerlaw18.VacuumSpots", spec := "vacuumSpots", unfollowed := true, recurses := true, plainKeys := false, apart := false, narrowed := true }
def VacuumSpotsUptoSaid : Prop := vacuumSpotsUptoRow.holds Try.pinned (OpenSpec.upto vacuumSpotsSpec)

/-- 'gazetteerlaw18.VacuumSeen', WHERE WHAT IT READS IS OF BULK AT MOST 1048576: true; the input reads as it did. -/
def vacuumSeenUptoRow : OpenClaim := { program := "ytmgkjbphlbpbfaa", sum := "7369bafe10ddf909d4f4a55acece11fa9f9eb8258246d36332825a7a74adc1d2", func := "gazetteer/gazetteerlaw18.VacuumSeen", spec := "vacuumSeen", unfollowed := true, recurses := true, plainKeys := false, apart := false, narrowed := true }
def VacuumSeenUptoSaid : Prop := vacuumSeenUptoRow.holds Try.pinned (OpenSpec.upto vacuumSeenSpec)

/-- 'gazetteerlaw15.PredMeets', WHERE WHAT IT READS IS OF BULK AT MOST 1048576: true; the input reads as it did. -/
def predMeetsUptoRow : OpenClaim := { program := "ytmgkjbphlbpbfaa", sum := "7369bafe10ddf909d4f4a55acece11fa9f9eb8258246d36332825a7a74adc1d2", func := "gazetteer/gazetteerlaw15.PredMeets", spec := "predMeets", inPlace := ["slices.overlaps[gazetteer/api.Pred]"], unfollowed := true, recurses := true, plainKeys := false, apart := false, narrowed := true }
def PredMeetsUptoSaid : Prop := predMeetsUptoRow.holds Try.pinned (OpenSpec.upto predMeetsSpec)

/-- 'gazetteerlaw15.PredKeeps', WHERE WHAT IT READS IS OF BULK AT MOST 1048576: true; the input reads as it did. -/
def predKeepsUptoRow : OpenClaim := { program := "ytmgkjbphlbpbfaa", sum := "7369bafe10ddf909d4f4a55acece11fa9f9eb8258246d36332825a7a74adc1d2", func := "gazetteer/gazetteerlaw15.PredKeeps", spec := "predKeeps", inPlace := ["slices.overlaps[gazetteer/api.Pred]"], unfollowed := true, recurses := true, plainKeys := false, apart := false, narrowed := true }
def PredKeepsUptoSaid : Prop := predKeepsUptoRow.holds Try.pinned (OpenSpec.upto predKeepsSpec)

/-- 'gazetteerlaw15.PredPasses', WHERE WHAT IT READS IS OF BULK AT MOST 1048576: true; the input reads as it did. -/
def predPassesUptoRow : OpenClaim := { program := "ytmgkjbphlbpbfaa", sum := "7369bafe10ddf909d4f4a55acece11fa9f9eb8258246d36332825a7a74adc1d2", func := "gazetteer/gazetteerlaw15.PredPasses", spec := "predPasses", inPlace := ["slices.overlaps[gazetteer/api.Pred]"], unfollowed := true, recurses := true, plainKeys := false, apart := false, narrowed := true }
def PredPassesUptoSaid : Prop := predPassesUptoRow.holds Try.pinned (OpenSpec.upto predPassesSpec)

/-- 'gazetteerlaw15.PredAttaches', WHERE WHAT IT READS IS OF BULK AT MOST 1048576: true; the input reads as it did. -/
def predAttachesUptoRow : OpenClaim := { program := "ytmgkjbphlbpbfaa", sum := "7369bafe10ddf909d4f4a55acece11fa9f9eb8258246d36332825a7a74adc1d2", func := "gazetteer/gazetteerlaw15.PredAttaches", spec := "predAttaches", inPlace := ["slices.overlaps[gazetteer/api.Pred]"], unfollowed := true, recurses := true, plainKeys := false, apart := false, narrowed := true }
def PredAttachesUptoSaid : Prop := predAttachesUptoRow.holds Try.pinned (OpenSpec.upto predAttachesSpec)

/-- 'gazetteerlaw15.PredMoves', WHERE WHAT IT READS IS OF BULK AT MOST 1048576: true; the input reads as it did. -/
def predMovesUptoRow : OpenClaim := { program := "ytmgkjbphlbpbfaa", sum := "7369bafe10ddf909d4f4a55acece11fa9f9eb8258246d36332825a7a74adc1d2", func := "gazetteer/gazetteerlaw15.PredMoves", spec := "predMoves", inPlace := ["slices.overlaps[gazetteer/api.Pred]"], unfollowed := true, recurses := true, plainKeys := false, apart := false, narrowed := true }
def PredMovesUptoSaid : Prop := predMovesUptoRow.holds Try.pinned (OpenSpec.upto predMovesSpec)

end Rows
end Go.Proofs.Ytmgkjbphlbpbfaa
