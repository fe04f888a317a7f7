/- vision: who sees a tuple, and whether nobody does. -/
import Derived.Test.YtmgkjbphlbpbfaaV3
namespace Go.Proofs.Ytmgkjbphlbpbfaa.AM
open Go
set_option linter.unusedVariables false
set_option linter.unusedSimpArgs false
variable {P : Program}

structure VisR (P : Program) : Prop extends FateR P where
  counts : R_vision_look_counts P
  sees : R_vision_look_sees P
  box : R_key_box P
  key : R_key_Check P
  heap : R_heap_Check P
  check : R_vision_Check P
  Sees : R_vision_Sees P
  Dead : R_vision_Dead P

theorem FatesOk.rising {f : FatesT} (h : FatesOk f) : Rising f.list := h.2.2.2.1

/-- An answer about a tuple, or why there is none. -/
def AnsR (f : FatesT) (t : TupleT) (b : Bool) (r : V) : Prop :=
  (¬ FatesOk f ∧ r = .tup [.bool false, .int .i64 270]) ∨ (FatesOk f ∧ tupS t = false ∧ r = .tup [.bool false, .int .i64 200]) ∨ (FatesOk f ∧ tupS t = true ∧ r = .tup [.bool b, .int .i64 0])

theorem vis_Sees (h : VisR P) (f : FatesT) (e : EyeT) (t : TupleT) (hl : f.list.length < 2 ^ 40) : PCalls P n_vision_Sees [vFates f, .agg (cEye e), .agg (cTuple t)] (AnsR f t (seesS f e t)) := by
  refine A_vision_Sees h.Sees ?_
  unfold F_vision_Sees
  simp [st0]
  refine inv_p (vis_Check h.check f hl) (by simp) (by simp [pureLL]) ?_
  rintro _ ⟨ok, rfl, hok⟩
  cases ok
  · simp
    exact GhostV.refl ⟨rfl, .inl ⟨fun h => by simpa using hok.2 h, rfl⟩⟩
  · have hok := hok.1 rfl
    simp
    refine inv_p (heap_Check h.heap h.key h.box t) (by simp) (by simp) ?_
    rintro _ rfl
    cases ht : tupS t
    · simp
      exact GhostV.refl ⟨rfl, .inr (.inl ⟨hok, ht, rfl⟩)⟩
    · simp
      refine inv_p (sees h.toFateR h.counts h.sees f e t hl hok.rising) (by simp) (by simp [pureLL]) ?_
      rintro _ rfl
      simp
      exact GhostV.refl ⟨rfl, .inr (.inr ⟨hok, ht, rfl⟩)⟩

def deadS (f : FatesT) (hz : Nat) (t : TupleT) : Bool :=
  (!(fateS f t.xmin).2.1 && !(fateS f t.xmin).2.2) || ((fateS f t.xmax).2.1 && decide ((fateS f t.xmax).1 ≤ hz))

theorem vis_Dead (h : VisR P) (f : FatesT) (hz : Nat) (t : TupleT) (hl : f.list.length < 2 ^ 40) : PCalls P n_vision_Dead [vFates f, .int .u64 hz, .agg (cTuple t)] (AnsR f t (deadS f hz t)) := by
  refine A_vision_Dead h.Dead ?_
  unfold F_vision_Dead
  simp [st0]
  refine inv_p (vis_Sees h f ⟨0, false, 0⟩ t hl) (by simp) (by simp [pureLL]) ?_
  rintro _ (⟨h1, rfl⟩ | ⟨h1, ht, rfl⟩ | ⟨h1, ht, rfl⟩)
  · simp
    exact GhostV.refl ⟨rfl, .inl ⟨h1, rfl⟩⟩
  · simp
    exact GhostV.refl ⟨rfl, .inr (.inl ⟨h1, ht, rfl⟩)⟩
  · simp
    refine inv_p (fate h.toFateR f t.xmin hl h1.rising) (by simp) (by simp [pureLL]) ?_
    rintro _ rfl
    simp
    refine inv_p (fate h.toFateR f t.xmax hl h1.rising) (by simp) (by simp [pureLL]) ?_
    rintro _ rfl
    simp
    have fin : ∀ b : Bool, b = deadS f hz t → ∀ st, GhostV [.bool b, .int .i64 0] st fun vs st => (mkres vs).pure = true ∧ AnsR f t (deadS f hz t) (mkres vs) := by
      rintro _ rfl st
      exact GhostV.refl ⟨rfl, .inr (.inr ⟨h1, ht, rfl⟩)⟩
    unfold deadS at fin ⊢
    generalize fateS f t.xmin = a at *
    generalize fateS f t.xmax = b at *
    obtain ⟨a1, a2, a3⟩ := a
    obtain ⟨b1, b2, b3⟩ := b
    cases a2 <;> cases a3 <;> cases b2 <;> simp at fin ⊢ <;> exact fin _
end Go.Proofs.Ytmgkjbphlbpbfaa.AM
