/-
  No cell of these rows narrows 'for every input' (looked for: loops, veiled, ifaces, maps, wideKeys, modest, calm, conditions, laid).
  DERIVED. THE GIVEN ROWS OF THIS SEAT. 6 by the template 'for every input the law returns true; each argument reads behind the call as it read before'; 0 by the template 'total and deterministic' (their statements: YtmjnpfackanhlaaTotals.lean).
  GIVEN WITH THE SEED: the statements are not yours to turn. If you find one false, say at which input.
  Laid BY PROGRAM, IN A SANDBOX (cutbox-rows.mjs): the forced cells as the released guide's own fill.sh prints them over the translation 718cb21f466e4416… (all of the seat's roots in one cut). By AI agents, Wed Nov 11 2026. No macro, syntax, notation, axiom, sorry.
-/
import Derived.Test.YtmjnpfackanhlaaChecked
import GoSem.Claim
import GoSem.ClaimJoined
import GoSem.ClaimMapViews
import Derived.JoinedTies
import Derived.KernelRfl
namespace Go.Proofs.Ytmjnpfackanhlaa
/- THE CELL 'sum', in the pinned program and in every row, IS THE sha256 OF THE DUMP (.gsa) THAT YtmjnpfackanhlaaProg.lean LOADS. Nothing in Lean hashes anything: it is a label: what it is worth is what the hold of that sum in a sandbox is worth. -/
noncomputable def Try.pinned : Pinned := { name := "ytmjnpfackanhlaa", sum := "718cb21f466e4416f3473d8a99da8eead1d7cdafb1a28d165d076f2f1bb1ec29", checked := Try.checked }
namespace Rows
def none {H : Type} : Left H := { results := [], args := [] }

/-- 'gazetteerlaw13.CursorSteps': WHATEVER THE INPUT: true; the input reads as it did. -/
def cursorStepsSpec : ChangeSpec := { name := "cursorSteps", fn := fun _ => fun
  | [d1, d2] => { results := [.lit (.bool true)], args := [d1, d2] }
  | _ => none }
def cursorStepsRow : OpenClaim := { program := "ytmjnpfackanhlaa", sum := "718cb21f466e4416f3473d8a99da8eead1d7cdafb1a28d165d076f2f1bb1ec29", func := "gazetteer/gazetteerlaw13.CursorSteps", spec := "cursorSteps", inPlace := ["slices.overlaps[uint32]"], unfollowed := true, recurses := true, apart := false }
def CursorStepsSaid : Prop := cursorStepsRow.holds Try.pinned (OpenSpec.ofChange cursorStepsSpec)

/-- ITS FALSE NEIGHBOUR: 'it returns false'. Refute it at one input. -/
def cursorStepsWrong : ChangeSpec := { name := "cursorSteps", fn := fun _ => fun
  | [d1, d2] => { results := [.lit (.bool false)], args := [d1, d2] }
  | _ => none }
def CursorStepsWrongFalsely : Prop := cursorStepsRow.holds Try.pinned (OpenSpec.ofChange cursorStepsWrong)

/-- 'gazetteerlaw18.VacuumClean': WHATEVER THE INPUT: true; the input reads as it did. -/
def vacuumCleanSpec : ChangeSpec := { name := "vacuumClean", fn := fun _ => fun
  | [d1, d2, d3] => { results := [.lit (.bool true)], args := [d1, d2, d3] }
  | _ => none }
def vacuumCleanRow : OpenClaim := { program := "ytmjnpfackanhlaa", sum := "718cb21f466e4416f3473d8a99da8eead1d7cdafb1a28d165d076f2f1bb1ec29", func := "gazetteer/gazetteerlaw18.VacuumClean", spec := "vacuumClean", unfollowed := true, recurses := true, apart := false }
def VacuumCleanSaid : Prop := vacuumCleanRow.holds Try.pinned (OpenSpec.ofChange vacuumCleanSpec)

/-- ITS FALSE NEIGHBOUR: 'it returns false'. Refute it at one input. -/
def vacuumCleanWrong : ChangeSpec := { name := "vacuumClean", fn := fun _ => fun
  | [d1, d2, d3] => { results := [.lit (.bool false)], args := [d1, d2, d3] }
  | _ => none }
def VacuumCleanWrongFalsely : Prop := vacuumCleanRow.holds Try.pinned (OpenSpec.ofChange vacuumCleanWrong)

/-- 'gazetteerlaw13.CursorStarts': WHATEVER THE INPUT: true; the input reads as it did. -/
def cursorStartsSpec : ChangeSpec := { name := "cursorStarts", fn := fun _ => fun
  | [d1, d2, d3] => { results := [.lit (.bool true)], args := [d1, d2, d3] }
  | _ => none }
def cursorStartsRow : OpenClaim := { program := "ytmjnpfackanhlaa", sum := "718cb21f466e4416f3473d8a99da8eead1d7cdafb1a28d165d076f2f1bb1ec29", func := "gazetteer/gazetteerlaw13.CursorStarts", spec := "cursorStarts", inPlace := ["slices.overlaps[uint32]"], unfollowed := true, recurses := true, apart := false }
def CursorStartsSaid : Prop := cursorStartsRow.holds Try.pinned (OpenSpec.ofChange cursorStartsSpec)

/-- ITS FALSE NEIGHBOUR: 'it returns false'. Refute it at one input. -/
def cursorStartsWrong : ChangeSpec := { name := "cursorStarts", fn := fun _ => fun
  | [d1, d2, d3] => { results := [.lit (.bool false)], args := [d1, d2, d3] }
  | _ => none }
def CursorStartsWrongFalsely : Prop := cursorStartsRow.holds Try.pinned (OpenSpec.ofChange cursorStartsWrong)

/-- 'gazetteerlaw13.CursorGoes': WHATEVER THE INPUT: true; the input reads as it did. -/
def cursorGoesSpec : ChangeSpec := { name := "cursorGoes", fn := fun _ => fun
  | [d1, d2, d3] => { results := [.lit (.bool true)], args := [d1, d2, d3] }
  | _ => none }
def cursorGoesRow : OpenClaim := { program := "ytmjnpfackanhlaa", sum := "718cb21f466e4416f3473d8a99da8eead1d7cdafb1a28d165d076f2f1bb1ec29", func := "gazetteer/gazetteerlaw13.CursorGoes", spec := "cursorGoes", inPlace := ["slices.overlaps[uint32]"], unfollowed := true, recurses := true, apart := false }
def CursorGoesSaid : Prop := cursorGoesRow.holds Try.pinned (OpenSpec.ofChange cursorGoesSpec)

/-- ITS FALSE NEIGHBOUR: 'it returns false'. Refute it at one input. -/
def cursorGoesWrong : ChangeSpec := { name := "cursorGoes", fn := fun _ => fun
  | [d1, d2, d3] => { results := [.lit (.bool false)], args := [d1, d2, d3] }
  | _ => none }
def CursorGoesWrongFalsely : Prop := cursorGoesRow.holds Try.pinned (OpenSpec.ofChange cursorGoesWrong)

/-- 'gazetteerlaw11.TreeLinks': WHATEVER THE INPUT: true; the input reads as it did. -/
def treeLinksSpec : ChangeSpec := { name := "treeLinks", fn := fun _ => fun
  | [d1, d2] => { results := [.lit (.bool true)], args := [d1, d2] }
  | _ => none }
def treeLinksRow : OpenClaim := { program := "ytmjnpfackanhlaa", sum := "718cb21f466e4416f3473d8a99da8eead1d7cdafb1a28d165d076f2f1bb1ec29", func := "gazetteer/gazetteerlaw11.TreeLinks", spec := "treeLinks", inPlace := ["slices.overlaps[gazetteer/api.Link]"], unfollowed := true, recurses := true, apart := false }
def TreeLinksSaid : Prop := treeLinksRow.holds Try.pinned (OpenSpec.ofChange treeLinksSpec)

/-- ITS FALSE NEIGHBOUR: 'it returns false'. Refute it at one input. -/
def treeLinksWrong : ChangeSpec := { name := "treeLinks", fn := fun _ => fun
  | [d1, d2] => { results := [.lit (.bool false)], args := [d1, d2] }
  | _ => none }
def TreeLinksWrongFalsely : Prop := treeLinksRow.holds Try.pinned (OpenSpec.ofChange treeLinksWrong)

/-- 'gazetteerlaw11.TreeHolds': WHATEVER THE INPUT: true; the input reads as it did. -/
def treeHoldsSpec : ChangeSpec := { name := "treeHolds", fn := fun _ => fun
  | [d1, d2] => { results := [.lit (.bool true)], args := [d1, d2] }
  | _ => none }
def treeHoldsRow : OpenClaim := { program := "ytmjnpfackanhlaa", sum := "718cb21f466e4416f3473d8a99da8eead1d7cdafb1a28d165d076f2f1bb1ec29", func := "gazetteer/gazetteerlaw11.TreeHolds", spec := "treeHolds", inPlace := ["slices.overlaps[gazetteer/api.Link]"], unfollowed := true, recurses := true, apart := false }
def TreeHoldsSaid : Prop := treeHoldsRow.holds Try.pinned (OpenSpec.ofChange treeHoldsSpec)

/-- ITS FALSE NEIGHBOUR: 'it returns false'. Refute it at one input. -/
def treeHoldsWrong : ChangeSpec := { name := "treeHolds", fn := fun _ => fun
  | [d1, d2] => { results := [.lit (.bool false)], args := [d1, d2] }
  | _ => none }
def TreeHoldsWrongFalsely : Prop := treeHoldsRow.holds Try.pinned (OpenSpec.ofChange treeHoldsWrong)

/- THE SECOND FORM. 'bulk': how many values and letters a reading holds, each counted each time it is reached (what is shared counts as often as it is met; a slice's spare places count too). A statement '..UptoSaid' is the law's where the arguments, and the package variables that the reading takes, are together of bulk at most 1048576: NARROWER than '..Said'. Prove '..Said' where nothing that the law and all that it calls make is longer than what came in: it says more and counts as full. Else prove '..UptoSaid'. A law counts once. -/
mutual
def uptoBulk {H : Type} : DataW H → Nat
  | .lit (.string bytes) => bytes.length + 1
  | .lit _ => 1
  | .nil => 1
  | .ptr d => uptoBulk d + 1
  | .slice elems spare => uptoBulkAll elems + uptoBulkAll spare + 1
  | .agg parts => uptoBulkAll parts + 1
  | .iface _ d => uptoBulk d + 1
  | .map entries => uptoBulkEntries entries + 1
  | .held _ => 1
def uptoBulkAll {H : Type} : List (DataW H) → Nat
  | [] => 0
  | d :: r => uptoBulk d + uptoBulkAll r
def uptoBulkEntries {H : Type} : List (Lit × DataW H) → Nat
  | [] => 0
  | x :: r => uptoBulkEntry x + uptoBulkEntries r
def uptoBulkEntry {H : Type} : Lit × DataW H → Nat
  | (.string bytes, d) => bytes.length + uptoBulk d + 1
  | (_, d) => uptoBulk d + 1
 end
def uptoSmall : (H : Type) → List (DataW H) → Bool := fun _ ds => decide (uptoBulkAll ds ≤ 1048576)
def OpenSpec.upto (s : _root_.Go.ChangeSpec) : _root_.Go.OpenSpec := { _root_.Go.OpenSpec.ofChange s with cond := some uptoSmall }

/-- 'gazetteerlaw13.CursorSteps', WHERE WHAT IT READS IS OF BULK AT MOST 1048576: true; the input reads as it did. -/
def cursorStepsUptoRow : OpenClaim := { program := "ytmjnpfackanhlaa", sum := "718cb21f466e4416f3473d8a99da8eead1d7cdafb1a28d165d076f2f1bb1ec29", func := "gazetteer/gazetteerlaw13.CursorSteps", spec := "cursorSteps", inPlace := ["slices.overlaps[uint32]"], unfollowed := true, recurses := true, apart := false, narrowed := true }
def CursorStepsUptoSaid : Prop := cursorStepsUptoRow.holds Try.pinned (OpenSpec.upto cursorStepsSpec)

/-- 'gazetteerlaw18.VacuumClean', WHERE WHAT IT READS IS OF BULK AT MOST 1048576: true; the input reads as it did. -/
def vacuumCleanUptoRow : OpenClaim := { program := "ytmjnpfackanhlaa", sum := "718cb21f466e4416f3473d8a99da8eead1d7cdafb1a28d165d076f2f1bb1ec29", func := "gazetteer/gazetteerlaw18.VacuumClean", spec := "vacuumClean", unfollowed := true, recurses := true, apart := false, narrowed := true }
def VacuumCleanUptoSaid : Prop := vacuumCleanUptoRow.holds Try.pinned (OpenSpec.upto vacuumCleanSpec)

/-- 'gazetteerlaw13.CursorStarts', WHERE WHAT IT READS IS OF BULK AT MOST 1048576: true; the input reads as it did. -/
def cursorStartsUptoRow : OpenClaim := { program := "ytmjnpfackanhlaa", sum := "718cb21f466e4416f3473d8a99da8eead1d7cdafb1a28d165d076f2f1bb1ec29", func := "gazetteer/gazetteerlaw13.CursorStarts", spec := "cursorStarts", inPlace := ["slices.overlaps[uint32]"], unfollowed := true, recurses := true, apart := false, narrowed := true }
def CursorStartsUptoSaid : Prop := cursorStartsUptoRow.holds Try.pinned (OpenSpec.upto cursorStartsSpec)

/-- 'gazetteerlaw13.CursorGoes', WHERE WHAT IT READS IS OF BULK AT MOST 1048576: true; the input reads as it did. -/
def cursorGoesUptoRow : OpenClaim := { program := "ytmjnpfackanhlaa", sum := "718cb21f466e4416f3473d8a99da8eead1d7cdafb1a28d165d076f2f1bb1ec29", func := "gazetteer/gazetteerlaw13.CursorGoes", spec := "cursorGoes", inPlace := ["slices.overlaps[uint32]"], unfollowed := true, recurses := true, apart := false, narrowed := true }
def CursorGoesUptoSaid : Prop := cursorGoesUptoRow.holds Try.pinned (OpenSpec.upto cursorGoesSpec)

/-- 'gazetteerlaw11.TreeLinks', WHERE WHAT IT READS IS OF BULK AT MOST 1048576: true; the input reads as it did. -/
def treeLinksUptoRow : OpenClaim := { program := "ytmjnpfackanhlaa", sum := "718cb21f466e4416f3473d8a99da8eead1d7cdafb1a28d165d076f2f1bb1ec29", func := "gazetteer/gazetteerlaw11.TreeLinks", spec := "treeLinks", inPlace := ["slices.overlaps[gazetteer/api.Link]"], unfollowed := true, recurses := true, apart := false, narrowed := true }
def TreeLinksUptoSaid : Prop := treeLinksUptoRow.holds Try.pinned (OpenSpec.upto treeLinksSpec)

/-- 'gazetteerlaw11.TreeHolds', WHERE WHAT IT READS IS OF BULK AT MOST 1048576: true; the input reads as it did. -/
def treeHoldsUptoRow : OpenClaim := { program := "ytmjnpfackanhlaa", sum := "718cb21f466e4416f3473d8a99da8eead1d7cdafb1a28d165d076f2f1bb1ec29", func := "gazetteer/gazetteerlaw11.TreeHolds", spec := "treeHolds", inPlace := ["slices.overlaps[gazetteer/api.Link]"], unfollowed := true, recurses := true, apart := false, narrowed := true }
def TreeHoldsUptoSaid : Prop := treeHoldsUptoRow.holds Try.pinned (OpenSpec.upto treeHoldsSpec)

end Rows
end Go.Proofs.Ytmjnpfackanhlaa
