/- law 18: VacuumBack. -/
import Derived.Test.YtmgkjbphlbpbfaaV9
namespace Go.Proofs.Ytmgkjbphlbpbfaa.AM
open Go
set_option linter.unusedVariables false
set_option linter.unusedSimpArgs false
variable {P : Program}

structure BackR (P : Program) : Prop extends WakeR P where
  spot : R_vacuum_Spot P
  back : R_gazetteerlaw18_VacuumBack P

theorem vacuumBack (h : BackR P) (s : SpotT) (n : Nat) (hn : n < 2 ^ 32) : PCalls P n_gazetteerlaw18_VacuumBack [.agg (cSpot s), .int .u32 n] (fun r => r = .bool true) := by
  refine A_gazetteerlaw18_VacuumBack h.back ?_
  unfold F_gazetteerlaw18_VacuumBack
  simp [st0]
  refine inv_p (wakes18 h.toWakeR) rfl rfl ?_
  rintro _ rfl
  simp
  refine inv_p (Entry h.entry s) rfl rfl ?_
  have part : ∀ r : V, EntryR s r → True := fun _ _ => trivial
  rintro _ (⟨hs, rfl⟩ | ⟨hs, rfl⟩)
  all_goals
    simp
    refine ⟨fun st => ∃ nv, st = ⟨[some (0, .mem 2 [cSpot s])], nv⟩, ?_, ?_⟩
  · simp
    exact GhostV.refl ⟨_, rfl⟩
  rotate_left
  · simp
    obtain ⟨m, hm⟩ : ∃ m : Nat, (m : Int) = s.page * 4 + s.slot + 1 := ⟨(s.page * 4 + s.slot + 1).toNat, by unfold spotOk at hs; omega⟩
    rw [← hm]
    refine inv_p (Spot h.spot m) rfl rfl ?_
    rintro _ (⟨hb, _⟩ | ⟨h1, h2, rfl⟩)
    · exfalso; unfold spotOk at hs; omega
    have e1 : ((m : Int) - 1) / 4 = s.page := by unfold spotOk at hs; omega
    have e2 : ((m : Int) - 1) % 4 = s.slot := by unfold spotOk at hs; omega
    simp [e1, e2]
    exact GhostV.take 1 ⟨_, rfl⟩
  all_goals
    rintro st ⟨nv, rfl⟩
    simp
    refine inv_p (Spot h.spot n) rfl rfl ?_
    rintro _ (⟨hb, rfl⟩ | ⟨h1, h2, rfl⟩)
    · simp
      exact GhostV.refl ⟨rfl, rfl⟩
    · simp
      refine inv_p (Entry h.entry ⟨((n : Int) - 1) / 4, ((n : Int) - 1) % 4⟩) rfl rfl ?_
      rintro _ (⟨hs, rfl⟩ | ⟨hs, rfl⟩)
      · exfalso; unfold spotOk at hs; simp at hs; omega
      · have e : ((n : Int) - 1) / 4 * 4 + ((n : Int) - 1) % 4 + 1 = n := by omega
        simp [e]
        exact GhostV.refl ⟨rfl, rfl⟩
end Go.Proofs.Ytmgkjbphlbpbfaa.AM
