/- Code whose marks for loops and joins stand beside it: the code itself is read off the program. -/
import Derived.Test.YtmjnpfackanhlaaAmS2
import Derived.KernelRfl
namespace Go.Proofs.Ytmjnpfackanhlaa.AM
open Go
set_option linter.unusedVariables false

noncomputable abbrev RCode.hd (c : RCode) : Nat :=
 RCode.rec (motive := fun _ => Nat) 0 (fun ops => (dsts ops).headD 0) (fun ops _ => (dsts ops).headD 0) (fun _ _ a b => if a = 0 then b else a) (fun _ _ _ a b => if a = 0 then b else a) (fun _ _ c => c) (fun _ c => c)
  (fun _ _ _ _ a b => if a = 0 then b else a) (fun _ => 0) 0 c
def rg : List (Nat × Nat) → List Nat
 | [] => []
 | (a, n) :: r => List.range' a n ++ rg r
noncomputable abbrev annK (J : List (Nat × Nat × List Nat × List (Nat × Nat))) (L : List (Nat × List Nat × List (Nat × Nat))) (c : RCode) : ACode :=
 RCode.rec (motive := fun _ => ACode) .skip (fun ops => .reg ops) (fun ops sch => .regD ops sch)
  (fun a b x y => match J.find? (fun j => j.1 == a.hd && j.2.1 == b.hd) with
   | some (_, _, ls, ds) => .join ls (rg ds) x y
   | none => .seq x y)
  (fun c _ _ x y => .cond c x y) (fun id _ x => .block id x)
  (fun c x => match L.find? (fun l => l.1 == c.hd) with
   | some (_, ls, ds) => .loop ls (rg ds) x
   | none => .loop [] [] x)
  (fun f ps _ _ x y => .rfunc f ps x y) (fun id => .exit id) .ret c
def getRC (P : Program) (f : FuncId) : RCode := match resFnH P f with
 | some (_, rc, _) => rc
 | none => .skip
abbrev RF (P : Program) (f : FuncId) (n : Nat) (J : List (Nat × Nat × List Nat × List (Nat × Nat))) (L : List (Nat × List Nat × List (Nat × Nat))) (rs : List RV) (E : ACode → Prop) : Prop :=
 resFnH P f = some (n, (annK J L (getRC P f)).er, rs) ∧ ((annK J L (getRC P f)).ok && (annK J L (getRC P f)).er.psOk n) = true ∧ E (annK J L (getRC P f))
end Go.Proofs.Ytmjnpfackanhlaa.AM
