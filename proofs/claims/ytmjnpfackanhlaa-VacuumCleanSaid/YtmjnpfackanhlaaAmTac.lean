/- The abstract layer: lemmas for walks. -/
import Derived.Test.YtmjnpfackanhlaaAmCall
namespace Go.Proofs.Ytmjnpfackanhlaa.AM
open Go Go.RowKit
set_option linter.unusedSimpArgs false
set_option linter.unusedVariables false
variable {P : Program} {n : Nat}

def gsel (v : V) (w : Bool) (A B : Prop) : Prop :=
 match v with
 | .bool b => (b = w → A) ∧ (b ≠ w → B)
 | .tup [] => B
 | _ => False
theorem w_cons {d : Option Nat} {r : RO} {l : List ROp} {Q : Fr → St → Prop} {fr : Fr} {st : St} : areg P (⟨d, none, r⟩ :: l) Q fr st = aexecN P r fr st (fun v st' => areg P l Q (updo fr d v) st') := by simp [areg, guardP]
theorem w_consg {d : Option Nat} {s : Nat} {w : Bool} {r : RO} {l : List ROp} {Q : Fr → St → Prop} {fr : Fr} {st : St} :
  areg P (⟨d, some (s, w), r⟩ :: l) Q fr st = gsel (fr s) w (aexecN P r fr st (fun v st' => areg P l Q (updo fr d v) st')) (areg P l Q (updo fr d (.tup [])) st) := by
 simp only [areg, guardP, gsel]
 generalize fr s = x
 cases x with
 | bool b => cases b <;> cases w <;> simp
 | tup vs => cases vs <;> simp
 | _ => rfl
theorem n_mov {x : X} {fr : Fr} {st : St} {K : V → St → Prop} : aexecN P (.mov x) fr st K = K (x.ev fr) st := by simp [aexecN, ndP, aexec, aop, opP]
theorem x_mov {x : X} {fr : Fr} {st : St} {K : V → St → Prop} : aexec P (.mov x) fr st K = K (x.ev fr) st := propext Iff.rfl

end Go.Proofs.Ytmjnpfackanhlaa.AM
