/- The abstract layer: calls by themselves; what the program does not do. -/
import Derived.Test.YtmjnpfackanhlaaAmWp4
namespace Go.Proofs.Ytmjnpfackanhlaa.AM
open Go Go.RowKit
set_option linter.unusedSimpArgs false
set_option linter.unusedVariables false
variable {P : Program}

def PCalls (P : Program) (f : FuncId) (args : List V) (R : V → Prop) : Prop := ACalls P f args st0 fun r _ => r.pure = true ∧ R r

theorem PCalls.at {f : FuncId} {args : List V} {R : V → Prop} (h : PCalls P f args R) (hp : pureL args = true) {st : St} {K : V → St → Prop} (hk : ∀ r, R r → K r st) : ACalls P f args st K := by
 refine ⟨h.1, fun g w Args hs hA => ?_⟩
 have hA' : VRels (g.alone w) args Args := ⟨hA.1, fun i hi => VRel.pure (g := g) (g' := g.alone w) (fun _ _ _ h => h) (hA.2 i hi) (pureL_get hp i)⟩
 refine (h.2 (g.alone w) w Args hs.alone hA').mono ?_
 rintro e w' ⟨r, x, g1, st1, rfl, e1, e2, e3, e4, e5, e6⟩
 obtain ⟨q1, q2⟩ := hs.back e1 e3
 exact ⟨r, x, _, st, rfl, q1, rfl, q2, VRel.pure (g := g1) (g' := { g with imm := g1.imm }) (fun _ _ _ h => h) e4 e5, hk r e6⟩

end Go.Proofs.Ytmjnpfackanhlaa.AM
