/- From a function by itself to a law's contract. -/
import Derived.Test.YtmjnpfackanhlaaAmS2
namespace Go.Proofs.Ytmjnpfackanhlaa.AM
open Go Go.RowKit
set_option linter.unusedVariables false
variable {P : Program}

/-- Of a world, all cells are known. -/
def G.all (W : World) : G :=
  { B := W.heap.size, w0 := W, nv := 0, loc := fun _ => none, born := fun _ => [], clk := fun _ => 0, dfr := [],
    imm := fun b o => match W.cell? ⟨b, o, none⟩ with | some x => if x.oneCell' = true then some x else none | none => none }

theorem G.all_imm {W : World} {b o : Nat} {x : Value} (h : W.cell? ⟨b, o, none⟩ = some x) (h1 : x.oneCell' = true) : (G.all W).imm b o = some x := by simp [G.all, h, h1]

theorem Sim.all (W : World) : Sim P (G.all W) st0 W := by
  refine ⟨rfl, Nat.le_refl _, .refl _ _, fun b o x hx => ?_, fun _ _ => rfl, fun id ver o ho => by simp [st0] at ho, fun id ver o L b ho => by simp [st0] at ho, fun id id' ver ver' o o' L L' b ho => by simp [st0] at ho,
    (fun D hD => by cases hD), List.nodup_nil⟩
  simp only [G.all] at hx
  split at hx
  · rename_i y hy
    split at hx
    · rename_i h1; simp only [Option.some.injEq] at hx; subst hx; exact ⟨hy, h1⟩
    · cases hx
  · cases hx

theorem law_calls {f : FuncId} {Vargs : List V} {args : Array Value} {W : World} (h : PCalls P f Vargs (fun r => r = .bool true)) (hv : VRels (G.all W) Vargs args) :
    Calls P f args W fun e W' => e = .returned (.bool true) ∧ Below W.heap.size W W' := by
  refine (h.2 (G.all W) W args (Sim.all W) hv).mono ?_
  rintro e w' ⟨r, x, g1, st1, rfl, e1, e2, e3, e4, e5, rfl⟩
  have hB : g1.B = W.heap.size := e1.B
  have hw0 : g1.w0 = W := e1.w0
  refine ⟨?_, by have := e3.below; rw [hB, hw0] at this; exact this⟩
  cases e4; rfl

theorem VRels.nil {g : G} : VRels g [] #[] := ⟨rfl, fun i hi => by simp at hi⟩
theorem VRels.one {g : G} {v : V} {x : Value} (h : VRel g v x) : VRels g [v] #[x] := ⟨rfl, fun i hi => by simp at hi; subst hi; simpa using h⟩
theorem VRels.two {g : G} {v1 v2 : V} {x1 x2 : Value} (h1 : VRel g v1 x1) (h2 : VRel g v2 x2) : VRels g [v1, v2] #[x1, x2] := ⟨rfl, fun i hi => by
  match i, hi with
  | 0, _ => exact h1
  | 1, _ => exact h2⟩
theorem VRels.three {g : G} {v1 v2 v3 : V} {x1 x2 x3 : Value} (h1 : VRel g v1 x1) (h2 : VRel g v2 x2) (h3 : VRel g v3 x3) : VRels g [v1, v2, v3] #[x1, x2, x3] := ⟨rfl, fun i hi => by
  match i, hi with
  | 0, _ => exact h1
  | 1, _ => exact h2
  | 2, _ => exact h3⟩
end Go.Proofs.Ytmjnpfackanhlaa.AM
