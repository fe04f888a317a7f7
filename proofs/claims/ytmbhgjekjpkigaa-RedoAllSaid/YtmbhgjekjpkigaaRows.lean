/-
  No cell of these rows narrows 'for every input' (looked for: loops, veiled, ifaces, maps, wideKeys, modest, calm, conditions, laid).
  DERIVED. THE GIVEN ROWS OF THIS SEAT. 6 by the template 'for every input the law returns true; each argument reads behind the call as it read before'; 0 by the template 'total and deterministic' (their statements: YtmbhgjekjpkigaaTotals.lean).
  GIVEN WITH THE SEED: the statements are not yours to turn. If you find one false, say at which input.
  Laid BY PROGRAM, IN A SANDBOX (cutbox-rows.mjs): the forced cells as the released guide's own fill.sh prints them over the translation 99be1dfb6c1fe5dd… (all of the seat's roots in one cut). By AI agents, Wed Nov 11 2026. No macro, syntax, notation, axiom, sorry.
-/
import Derived.Test.YtmbhgjekjpkigaaChecked
import GoSem.Claim
import GoSem.ClaimJoined
import GoSem.ClaimMapViews
import Derived.JoinedTies
import Derived.KernelRfl
namespace Go.Proofs.Ytmbhgjekjpkigaa
/- THE CELL 'sum', in the pinned program and in every row, IS THE sha256 OF THE DUMP (.gsa) THAT YtmbhgjekjpkigaaProg.lean LOADS. Nothing in Lean hashes anything: it is a label: what it is worth is what the hold of that sum in a sandbox is worth. -/
noncomputable def Try.pinned : Pinned := { name := "ytmbhgjekjpkigaa", sum := "99be1dfb6c1fe5dda29e702d2d4d468e6767e53c6d6e64af51bb7fd202a5f595", checked := Try.checked }
namespace Rows
def none {H : Type} : Left H := { results := [], args := [] }

/-- 'gazetteerlaw12.RedoAll': WHATEVER THE INPUT: true; the input reads as it did. -/
def redoAllSpec : ChangeSpec := { name := "redoAll", fn := fun _ => fun
  | [d1, d2, d3] => { results := [.lit (.bool true)], args := [d1, d2, d3] }
  | _ => none }
def redoAllRow : OpenClaim := { program := "ytmbhgjekjpkigaa", sum := "99be1dfb6c1fe5dda29e702d2d4d468e6767e53c6d6e64af51bb7fd202a5f595", func := "gazetteer/gazetteerlaw12.RedoAll", spec := "redoAll", unfollowed := true, recurses := true, apart := false }
def RedoAllSaid : Prop := redoAllRow.holds Try.pinned (OpenSpec.ofChange redoAllSpec)

/-- ITS FALSE NEIGHBOUR: 'it returns false'. Refute it at one input. -/
def redoAllWrong : ChangeSpec := { name := "redoAll", fn := fun _ => fun
  | [d1, d2, d3] => { results := [.lit (.bool false)], args := [d1, d2, d3] }
  | _ => none }
def RedoAllWrongFalsely : Prop := redoAllRow.holds Try.pinned (OpenSpec.ofChange redoAllWrong)

/-- 'gazetteerlaw12.RedoDoes': WHATEVER THE INPUT: true; the input reads as it did. -/
def redoDoesSpec : ChangeSpec := { name := "redoDoes", fn := fun _ => fun
  | [d1, d2] => { results := [.lit (.bool true)], args := [d1, d2] }
  | _ => none }
def redoDoesRow : OpenClaim := { program := "ytmbhgjekjpkigaa", sum := "99be1dfb6c1fe5dda29e702d2d4d468e6767e53c6d6e64af51bb7fd202a5f595", func := "gazetteer/gazetteerlaw12.RedoDoes", spec := "redoDoes", unfollowed := true, recurses := true, apart := false }
def RedoDoesSaid : Prop := redoDoesRow.holds Try.pinned (OpenSpec.ofChange redoDoesSpec)

/-- ITS FALSE NEIGHBOUR: 'it returns false'. Refute it at one input. -/
def redoDoesWrong : ChangeSpec := { name := "redoDoes", fn := fun _ => fun
  | [d1, d2] => { results := [.lit (.bool false)], args := [d1, d2] }
  | _ => none }
def RedoDoesWrongFalsely : Prop := redoDoesRow.holds Try.pinned (OpenSpec.ofChange redoDoesWrong)

/-- 'gazetteerlaw12.RedoOpens': WHATEVER THE INPUT: true; the input reads as it did. -/
def redoOpensSpec : ChangeSpec := { name := "redoOpens", fn := fun _ => fun
  | [d] => { results := [.lit (.bool true)], args := [d] }
  | _ => none }
def redoOpensRow : OpenClaim := { program := "ytmbhgjekjpkigaa", sum := "99be1dfb6c1fe5dda29e702d2d4d468e6767e53c6d6e64af51bb7fd202a5f595", func := "gazetteer/gazetteerlaw12.RedoOpens", spec := "redoOpens", unfollowed := true, recurses := true, apart := false }
def RedoOpensSaid : Prop := redoOpensRow.holds Try.pinned (OpenSpec.ofChange redoOpensSpec)

/-- ITS FALSE NEIGHBOUR: 'it returns false'. Refute it at one input. -/
def redoOpensWrong : ChangeSpec := { name := "redoOpens", fn := fun _ => fun
  | [d] => { results := [.lit (.bool false)], args := [d] }
  | _ => none }
def RedoOpensWrongFalsely : Prop := redoOpensRow.holds Try.pinned (OpenSpec.ofChange redoOpensWrong)

/-- 'gazetteerlaw12.RedoLasts': WHATEVER THE INPUT: true; the input reads as it did. -/
def redoLastsSpec : ChangeSpec := { name := "redoLasts", fn := fun _ => fun
  | [d] => { results := [.lit (.bool true)], args := [d] }
  | _ => none }
def redoLastsRow : OpenClaim := { program := "ytmbhgjekjpkigaa", sum := "99be1dfb6c1fe5dda29e702d2d4d468e6767e53c6d6e64af51bb7fd202a5f595", func := "gazetteer/gazetteerlaw12.RedoLasts", spec := "redoLasts", unfollowed := true, recurses := true, apart := false }
def RedoLastsSaid : Prop := redoLastsRow.holds Try.pinned (OpenSpec.ofChange redoLastsSpec)

/-- ITS FALSE NEIGHBOUR: 'it returns false'. Refute it at one input. -/
def redoLastsWrong : ChangeSpec := { name := "redoLasts", fn := fun _ => fun
  | [d] => { results := [.lit (.bool false)], args := [d] }
  | _ => none }
def RedoLastsWrongFalsely : Prop := redoLastsRow.holds Try.pinned (OpenSpec.ofChange redoLastsWrong)

/-- 'gazetteerlaw12.RedoCut': WHATEVER THE INPUT: true; the input reads as it did. -/
def redoCutSpec : ChangeSpec := { name := "redoCut", fn := fun _ => fun
  | [d1, d2, d3] => { results := [.lit (.bool true)], args := [d1, d2, d3] }
  | _ => none }
def redoCutRow : OpenClaim := { program := "ytmbhgjekjpkigaa", sum := "99be1dfb6c1fe5dda29e702d2d4d468e6767e53c6d6e64af51bb7fd202a5f595", func := "gazetteer/gazetteerlaw12.RedoCut", spec := "redoCut", unfollowed := true, recurses := true, apart := false }
def RedoCutSaid : Prop := redoCutRow.holds Try.pinned (OpenSpec.ofChange redoCutSpec)

/-- ITS FALSE NEIGHBOUR: 'it returns false'. Refute it at one input. -/
def redoCutWrong : ChangeSpec := { name := "redoCut", fn := fun _ => fun
  | [d1, d2, d3] => { results := [.lit (.bool false)], args := [d1, d2, d3] }
  | _ => none }
def RedoCutWrongFalsely : Prop := redoCutRow.holds Try.pinned (OpenSpec.ofChange redoCutWrong)

/-- 'gazetteerlaw12.RedoAgain': WHATEVER THE INPUT: true; the input reads as it did. -/
def redoAgainSpec : ChangeSpec := { name := "redoAgain", fn := fun _ => fun
  | [d1, d2, d3] => { results := [.lit (.bool true)], args := [d1, d2, d3] }
  | _ => none }
def redoAgainRow : OpenClaim := { program := "ytmbhgjekjpkigaa", sum := "99be1dfb6c1fe5dda29e702d2d4d468e6767e53c6d6e64af51bb7fd202a5f595", func := "gazetteer/gazetteerlaw12.RedoAgain", spec := "redoAgain", unfollowed := true, recurses := true, apart := false }
def RedoAgainSaid : Prop := redoAgainRow.holds Try.pinned (OpenSpec.ofChange redoAgainSpec)

/-- ITS FALSE NEIGHBOUR: 'it returns false'. Refute it at one input. -/
def redoAgainWrong : ChangeSpec := { name := "redoAgain", fn := fun _ => fun
  | [d1, d2, d3] => { results := [.lit (.bool false)], args := [d1, d2, d3] }
  | _ => none }
def RedoAgainWrongFalsely : Prop := redoAgainRow.holds Try.pinned (OpenSpec.ofChange redoAgainWrong)

/- THE SECOND FORM. 'bulk': how many values and letters a reading holds, each counted each time it is reached (what is shared counts as often as it is met; a slice's spare places count too). A statement '..UptoSaid' is the law's where the arguments, and the package variables that the reading takes, are together of bulk at most 1048576: NARROWER than '..Said'. Prove '..Said' where nothing that the law and all that it calls make is longer than what came in: it says more and counts as full. Else prove '..UptoSaid'. A law counts once. -/
mutual
def uptoBulk {H : Type} : DataW H → Nat
  | .lit (.string bytes) => bytes.length + 1
  | .lit _ => 1
  | .nil => 1
  | .ptr d => uptoBulk d + 1
  | .slice elems spare => uptoBulkAll elems + uptoBulkAll spare + 1
  | .agg parts => uptoBulkAll parts + 1
  | .iface _ d => uptoBulk d + 1
  | .map entries => uptoBulkEntries entries + 1
  | .held _ => 1
def uptoBulkAll {H : Type} : List (DataW H) → Nat
  | [] => 0
  | d :: r => uptoBulk d + uptoBulkAll r
def uptoBulkEntries {H : Type} : List (Lit × DataW H) → Nat
  | [] => 0
  | x :: r => uptoBulkEntry x + uptoBulkEntries r
def uptoBulkEntry {H : Type} : Lit × DataW H → Nat
  | (.string bytes, d) => bytes.length + uptoBulk d + 1
  | (_, d) => uptoBulk d + 1
 end
def uptoSmall : (H : Type) → List (DataW H) → Bool := fun _ ds => decide (uptoBulkAll ds ≤ 1048576)
def OpenSpec.upto (s : _root_.Go.ChangeSpec) : _root_.Go.OpenSpec := { _root_.Go.OpenSpec.ofChange s with cond := some uptoSmall }

/-- 'gazetteerlaw12.RedoAll', WHERE WHAT IT READS IS OF BULK AT MOST 1048576: true; the input reads as it did. -/
def redoAllUptoRow : OpenClaim := { program := "ytmbhgjekjpkigaa", sum := "99be1dfb6c1fe5dda29e702d2d4d468e6767e53c6d6e64af51bb7fd202a5f595", func := "gazetteer/gazetteerlaw12.RedoAll", spec := "redoAll", unfollowed := true, recurses := true, apart := false, narrowed := true }
def RedoAllUptoSaid : Prop := redoAllUptoRow.holds Try.pinned (OpenSpec.upto redoAllSpec)

/-- 'gazetteerlaw12.RedoDoes', WHERE WHAT IT READS IS OF BULK AT MOST 1048576: true; the input reads as it did. -/
def redoDoesUptoRow : OpenClaim := { program := "ytmbhgjekjpkigaa", sum := "99be1dfb6c1fe5dda29e702d2d4d468e6767e53c6d6e64af51bb7fd202a5f595", func := "gazetteer/gazetteerlaw12.RedoDoes", spec := "redoDoes", unfollowed := true, recurses := true, apart := false, narrowed := true }
def RedoDoesUptoSaid : Prop := redoDoesUptoRow.holds Try.pinned (OpenSpec.upto redoDoesSpec)

/-- 'gazetteerlaw12.RedoOpens', WHERE WHAT IT READS IS OF BULK AT MOST 1048576: true; the input reads as it did. -/
def redoOpensUptoRow : OpenClaim := { program := "ytmbhgjekjpkigaa", sum := "99be1dfb6c1fe5dda29e702d2d4d468e6767e53c6d6e64af51bb7fd202a5f595", func := "gazetteer/gazetteerlaw12.RedoOpens", spec := "redoOpens", unfollowed := true, recurses := true, apart := false, narrowed := true }
def RedoOpensUptoSaid : Prop := redoOpensUptoRow.holds Try.pinned (OpenSpec.upto redoOpensSpec)

/-- 'gazetteerlaw12.RedoLasts', WHERE WHAT IT READS IS OF BULK AT MOST 1048576: true; the input reads as it did. -/
def redoLastsUptoRow : OpenClaim := { program := "ytmbhgjekjpkigaa", sum := "99be1dfb6c1fe5dda29e702d2d4d468e6767e53c6d6e64af51bb7fd202a5f595", func := "gazetteer/gazetteerlaw12.RedoLasts", spec := "redoLasts", unfollowed := true, recurses := true, apart := false, narrowed := true }
def RedoLastsUptoSaid : Prop := redoLastsUptoRow.holds Try.pinned (OpenSpec.upto redoLastsSpec)

/-- 'gazetteerlaw12.RedoCut', WHERE WHAT IT READS IS OF BULK AT MOST 1048576: true; the input reads as it did. -/
def redoCutUptoRow : OpenClaim := { program := "ytmbhgjekjpkigaa", sum := "99be1dfb6c1fe5dda29e702d2d4d468e6767e53c6d6e64af51bb7fd202a5f595", func := "gazetteer/gazetteerlaw12.RedoCut", spec := "redoCut", unfollowed := true, recurses := true, apart := false, narrowed := true }
def RedoCutUptoSaid : Prop := redoCutUptoRow.holds Try.pinned (OpenSpec.upto redoCutSpec)

/-- 'gazetteerlaw12.RedoAgain', WHERE WHAT IT READS IS OF BULK AT MOST 1048576: true; the input reads as it did. -/
def redoAgainUptoRow : OpenClaim := { program := "ytmbhgjekjpkigaa", sum := "99be1dfb6c1fe5dda29e702d2d4d468e6767e53c6d6e64af51bb7fd202a5f595", func := "gazetteer/gazetteerlaw12.RedoAgain", spec := "redoAgain", unfollowed := true, recurses := true, apart := false, narrowed := true }
def RedoAgainUptoSaid : Prop := redoAgainUptoRow.holds Try.pinned (OpenSpec.upto redoAgainSpec)

end Rows
end Go.Proofs.Ytmbhgjekjpkigaa
