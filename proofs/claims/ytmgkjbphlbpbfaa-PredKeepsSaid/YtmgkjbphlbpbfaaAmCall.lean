/- The abstract layer: calls by themselves; what the program does not do. -/
import Derived.Test.YtmgkjbphlbpbfaaAmWp4
namespace Go.Proofs.Ytmgkjbphlbpbfaa.AM
open Go Go.RowKit
set_option linter.unusedSimpArgs false
set_option linter.unusedVariables false
variable {P : Program}

mutual
/-- A value that refers to no object. -/
def V.pure : V → Bool
  | .ptr .. | .msl .. | .map .. | .it .. | .yld .. => false
  | .eptr cs _ => pureL cs
  | .sl _ _ es sp => pureLL es && pureLL sp
  | .fn _ a b => pureL a && pureL b
  | .agg cs => pureL cs
  | .tup cs => pureL cs
  | .iface _ v => v.pure
  | _ => true
def pureL : List V → Bool
  | [] => true
  | v :: l => v.pure && pureL l
def pureLL : List (List V) → Bool
  | [] => true
  | l :: r => pureL l && pureLL r
end

theorem pureL_get : ∀ {l : List V}, pureL l = true → ∀ i, (l.getD i .junk).pure = true
  | [], _, i => by simp [List.getD]; rfl
  | v :: l, h, 0 => by simp only [pureL, Bool.and_eq_true] at h; exact h.1
  | v :: l, h, i + 1 => by
    simp only [pureL, Bool.and_eq_true] at h
    have := pureL_get h.2 i
    simpa [List.getD] using this

theorem pureLL_get : ∀ {l : List (List V)}, pureLL l = true → ∀ i, pureL (l.getD i []) = true
  | [], _, i => by simp [List.getD]; rfl
  | v :: l, h, 0 => by simp only [pureLL, Bool.and_eq_true] at h; exact h.1
  | v :: l, h, i + 1 => by
    simp only [pureLL, Bool.and_eq_true] at h
    have := pureLL_get h.2 i
    simpa [List.getD] using this

theorem pureLL_append : ∀ {a b : List (List V)}, pureLL a = true → pureLL b = true → pureLL (a ++ b) = true
  | [], b, _, h => h
  | x :: a, b, h, k => by
    simp only [pureLL, Bool.and_eq_true, List.cons_append] at h ⊢
    exact ⟨h.1, pureLL_append h.2 k⟩

theorem VRel.pure {g g' : G} (hi : ∀ b o x, g.imm b o = some x → g'.imm b o = some x) {v : V} {x : Value} (h : VRel g v x) : v.pure = true → VRel g' v x := by
  induction h with
  | bool b => intro _; exact .bool b
  | int k n => intro _; exact .int k n
  | str s => intro _; exact .str s
  | nilp => intro _; exact .nilp
  | ptr => intro hp; simp [V.pure] at hp
  | eptr cs off b o vals h1 _ ih =>
    intro hp; simp only [V.pure] at hp
    exact .eptr cs off b o vals (fun j hj => hi _ _ _ (h1 j hj)) (fun j hj => ih j hj (pureL_get hp j))
  | sl k sz es sp b o cap vals hk hk0 hsz hc he h1 _ ih =>
    intro hp; simp only [V.pure, Bool.and_eq_true] at hp
    exact .sl k sz es sp b o cap vals hk hk0 hsz hc he (fun i j a b => hi _ _ _ (h1 i j a b)) (fun i j a b => ih i j a b (pureL_get (pureLL_get (pureLL_append hp.1 hp.2) i) j))
  | snil k sz hk => intro _; exact .snil k sz hk
  | semp k sz a cap hk hk0 => intro _; exact .semp k sz a cap hk hk0
  | msl => intro hp; simp [V.pure] at hp
  | mnil => intro hp; simp [V.pure] at hp
  | nilm => intro _; exact .nilm
  | map => intro hp; simp [V.pure] at hp
  | iter => intro hp; simp [V.pure] at hp
  | fn f first cap fs cs hf hc _ _ ih1 ih2 =>
    intro hp; simp only [V.pure, Bool.and_eq_true] at hp
    exact .fn f first cap fs cs hf hc (fun i h => ih1 i h (pureL_get hp.1 i)) (fun i h => ih2 i h (pureL_get hp.2 i))
  | yld => intro hp; simp [V.pure] at hp
  | nilf => intro _; exact .nilf
  | agg cs vs hl _ h1 ih => intro hp; simp only [V.pure] at hp; exact .agg cs vs hl (fun i h => ih i h (pureL_get hp i)) h1
  | tup cs vs hl _ ih => intro hp; simp only [V.pure] at hp; exact .tup cs vs hl (fun i h => ih i h (pureL_get hp i))
  | nili => intro _; exact .nili
  | iface t v x _ ih => intro hp; simp only [V.pure] at hp; exact .iface t v x (ih hp)
  | junk x => intro _; exact .junk x

def st0 : St := ⟨[], 0⟩

/-- A function by itself: it takes and gives values that refer to no object. -/
def PCalls (P : Program) (f : FuncId) (args : List V) (R : V → Prop) : Prop := ACalls P f args st0 fun r _ => r.pure = true ∧ R r

def G.alone (g : G) (w : World) : G := { B := w.heap.size, w0 := w, nv := 0, loc := fun _ => none, imm := g.imm, born := fun _ => [], clk := fun _ => 0, dfr := [] }

theorem Sim.alone {g : G} {st : St} {w : World} (h : Sim P g st w) : Sim P (g.alone w) st0 w :=
  ⟨rfl, Nat.le_refl _, .refl _ _, h.imm, fun _ _ => rfl, fun id ver o ho => by simp [st0] at ho, fun id ver o L b ho => by simp [st0] at ho, fun id id' ver ver' o o' L L' b ho => by simp [st0] at ho,
    (fun D hD => by cases hD), List.nodup_nil⟩

theorem Sim.back {g g1 : G} {st st1 : St} {w w' : World} (h : Sim P g st w) (hle : (g.alone w).le g1) (h1 : Sim P g1 st1 w') :
    let g' : G := { g with imm := g1.imm }
    g.le g' ∧ Sim P g' st w' := by
  intro g'
  have hB : g1.B = w.heap.size := hle.B
  have hw0 : g1.w0 = w := hle.w0
  have hbel : Below w.heap.size w w' := by have := h1.below; rw [hB, hw0] at this; exact this
  have himm : ∀ b o x, b < w.heap.size → g1.imm b o = some x → g.imm b o = some x := fun b o x hb hx => hle.immB b o x hb hx
  have hgle : g.le g' := ⟨rfl, rfl, Nat.le_refl _, fun _ _ h => h, fun _ _ => rfl, fun _ _ => rfl, fun b o x hx => hle.imm b o x hx, fun b o x hb hx => himm b o x (Nat.lt_of_lt_of_le hb h.B) hx⟩
  have hsame : ∀ k, k < w.heap.size → w'.heap[k]? = w.heap[k]? := hbel.block
  refine ⟨hgle, h.nv, Nat.le_trans h.B hbel.size, ⟨hbel.os.trans h.below.os, hbel.tape.trans h.below.tape, hbel.output.trans h.below.output, Nat.le_trans h.below.size hbel.size, fun k hk => (hsame k (Nat.lt_of_lt_of_le hk h.B)).trans (h.below.block k hk)⟩,
    h1.imm, h.fresh, ?_, ?_, h.dis, ?_, h.dnd⟩
  · intro id ver o ho
    obtain ⟨L, hL, h2⟩ := h.obj _ _ _ ho
    exact ⟨L, hL, h2.mono hgle (fun b hb => hsame b (h.own _ _ _ _ _ ho hL hb).2.1)⟩
  · intro id ver o L b ho hL hb
    have := h.own _ _ _ _ _ ho hL hb
    refine ⟨this.1, Nat.lt_of_lt_of_le this.2.1 hbel.size, fun off => ?_, this.2.2.2⟩
    cases hx : g1.imm b off with
    | none => rfl
    | some x => have := himm b off x this.2.1 hx; rw [(h.own _ _ _ _ _ ho hL hb).2.2.1 off] at this; cases this
  · intro D hD
    have := h.dfr D hD
    have hlt := (Array.getElem?_eq_some_iff.1 this.2.1).1
    refine ⟨this.1, (hsame D.1 hlt).trans this.2.1, fun off => ?_⟩
    show g1.imm D.1 off = none
    cases hx : g1.imm D.1 off with
    | none => rfl
    | some x => have := himm D.1 off x hlt hx; rw [(h.dfr D hD).2.2 off] at this; cases this

theorem PCalls.at {f : FuncId} {args : List V} {R : V → Prop} (h : PCalls P f args R) (hp : pureL args = true) {st : St} {K : V → St → Prop} (hk : ∀ r, R r → K r st) : ACalls P f args st K := by
  refine ⟨h.1, fun g w Args hs hA => ?_⟩
  have hA' : VRels (g.alone w) args Args := ⟨hA.1, fun i hi => VRel.pure (g := g) (g' := g.alone w) (fun _ _ _ h => h) (hA.2 i hi) (pureL_get hp i)⟩
  refine (h.2 (g.alone w) w Args hs.alone hA').mono ?_
  rintro e w' ⟨r, x, g1, st1, rfl, e1, e2, e3, e4, e5, e6⟩
  obtain ⟨q1, q2⟩ := hs.back e1 e3
  exact ⟨r, x, _, st, rfl, q1, rfl, q2, VRel.pure (g := g1) (g' := { g with imm := g1.imm }) (fun _ _ _ h => h) e4 e5, hk r e6⟩

end Go.Proofs.Ytmgkjbphlbpbfaa.AM
