/- vacuum: spots and entries lead back to one another. -/
import Derived.Test.YtmgkjbphlbpbfaaV8
namespace Go.Proofs.Ytmgkjbphlbpbfaa.AM
open Go
set_option linter.unusedVariables false
set_option linter.unusedSimpArgs false
variable {P : Program}

def spotOk (s : SpotT) : Prop := 0 ≤ s.page ∧ s.page < 32 ∧ 0 ≤ s.slot ∧ s.slot < 4
instance (s : SpotT) : Decidable (spotOk s) := by unfold spotOk; infer_instance

def EntryR (s : SpotT) (r : V) : Prop := (¬ spotOk s ∧ r = .tup [.int .u32 0, .int .i64 2]) ∨ (spotOk s ∧ r = .tup [.int .u32 (s.page * 4 + s.slot + 1), .int .i64 0])

theorem Entry (hR : R_vacuum_Entry P) (s : SpotT) : PCalls P n_vacuum_Entry [.agg (cSpot s)] (EntryR s) := by
  refine A_vacuum_Entry hR ?_
  unfold F_vacuum_Entry
  simp [st0]
  have bad : ¬ spotOk s → ∀ st, GhostV [.int .u32 0, .int .i64 2] st fun vs st => (mkres vs).pure = true ∧ EntryR s (mkres vs) := fun h st => GhostV.refl ⟨rfl, .inl ⟨h, rfl⟩⟩
  by_cases h1 : s.page < 0
  · simp [h1]; exact bad (by unfold spotOk; omega) _
  by_cases h2 : 32 ≤ s.page
  · simp [h1, h2]; exact bad (by unfold spotOk; omega) _
  by_cases h3 : s.slot < 0
  · simp [h1, h2, h3]; exact bad (by unfold spotOk; omega) _
  by_cases h4 : 4 ≤ s.slot
  · simp [h1, h2, h3, h4]; exact bad (by unfold spotOk; omega) _
  have e1 : IntKind.i64.wrap (s.page * 4) = s.page * 4 := wrap_i64 (by omega)
  have e2 : IntKind.i64.wrap (s.page * 4 + s.slot) = s.page * 4 + s.slot := wrap_i64 (by omega)
  have e3 : IntKind.i64.wrap (s.page * 4 + s.slot + 1) = s.page * 4 + s.slot + 1 := wrap_i64 (by omega)
  have e4 : IntKind.u32.wrap (s.page * 4 + s.slot + 1) = s.page * 4 + s.slot + 1 := by simp [IntKind.wrap, IntKind.signed, IntKind.bits]; omega
  simp [h1, h2, h3, h4, e1, e2, e3, e4]
  exact GhostV.refl ⟨rfl, .inr ⟨by unfold spotOk; omega, rfl⟩⟩

def SpotR (n : Nat) (r : V) : Prop := ((n < 1 ∨ 128 < n) ∧ r = .tup [.agg (cSpot ⟨0, 0⟩), .int .i64 2]) ∨ (1 ≤ n ∧ n ≤ 128 ∧ r = .tup [.agg (cSpot ⟨((n : Int) - 1) / 4, ((n : Int) - 1) % 4⟩), .int .i64 0])

theorem Spot (hR : R_vacuum_Spot P) (n : Nat) : PCalls P n_vacuum_Spot [.int .u32 n] (SpotR n) := by
  refine A_vacuum_Spot hR ?_
  unfold F_vacuum_Spot
  simp [st0]
  by_cases h1 : (n : Int) < 1
  · simp [h1]
    exact GhostV.refl ⟨rfl, .inl ⟨by omega, rfl⟩⟩
  by_cases h2 : (128 : Int) < n
  · simp [h1, h2]
    exact GhostV.refl ⟨rfl, .inl ⟨by omega, rfl⟩⟩
  have e1 : IntKind.u32.wrap ((n : Int) - 1) = (n : Int) - 1 := by simp [IntKind.wrap, IntKind.signed, IntKind.bits]; omega
  have e2 : IntKind.i64.wrap ((n : Int) - 1) = (n : Int) - 1 := wrap_i64 (by omega)
  have e3 : ((n : Int) - 1).tdiv 4 = ((n : Int) - 1) / 4 := Int.tdiv_eq_ediv_of_nonneg (by omega)
  have e4 : ((n : Int) - 1).tmod 4 = ((n : Int) - 1) % 4 := Int.tmod_eq_emod_of_nonneg (by omega)
  have e5 : IntKind.i64.wrap (((n : Int) - 1) / 4) = ((n : Int) - 1) / 4 := wrap_i64 (by omega)
  simp [h1, h2, e1, e2, e3, e4, e5]
  exact GhostV.refl ⟨rfl, .inr ⟨by omega, by omega, rfl⟩⟩

theorem first18 (hR : R_gazetteerlaw18_first P) : PCalls P n_gazetteerlaw18_first [] (fun r => r = vFates ⟨3, [⟨3, 5⟩, ⟨4, 0⟩]⟩) := by
  refine A_gazetteerlaw18_first hR ?_
  unfold F_gazetteerlaw18_first
  simp [st0]
  refine GhostV.trans (GhostV.freeze (K := fun vs st => vs = [.agg [.int .u64 3, .sl .unk 2 [[.int .u64 3, .int .u64 5], [.int .u64 4, .int .u64 0]] []]] ∧ st = ⟨[], 2⟩) (id := 1) (ver := 1) (sz := 2) (es := [[.int .u64 3, .int .u64 5], [.int .u64 4, .int .u64 0]])
    (vs' := [.agg [.int .u64 3, .sl .unk 2 [[.int .u64 3, .int .u64 5], [.int .u64 4, .int .u64 0]] []]]) (st' := ⟨[], 2⟩) rfl rfl rfl (fun i => ?_) (fun id1 ver1 o1 h => by simp at h) ⟨rfl, rfl⟩) ?_
  · cases i with
    | zero =>
      refine .agg _ _ rfl (fun i hi => ?_)
      have : i = 0 ∨ i = 1 := by simp at hi; omega
      rcases this with rfl | rfl
      · exact .refl _
      · exact .msl 1 0 2 (by simp)
    | succ i => simpa using Frz.refl _
  · rintro _ _ ⟨rfl, rfl⟩
    exact GhostV.refl ⟨rfl, rfl⟩

def wakeL : List StoredT := [⟨⟨0, 0⟩, ⟨1, 1, 3, ⟨0, 0, 0, 0⟩, 0⟩⟩, ⟨⟨0, 1⟩, ⟨1, 1, 4, ⟨0, 0, 0, 0⟩, 0⟩⟩, ⟨⟨0, 2⟩, ⟨1, 7, 0, ⟨0, 0, 0, 0⟩, 0⟩⟩]
def wakeF : FatesT := ⟨3, [⟨3, 5⟩, ⟨4, 0⟩]⟩

structure WakeR (P : Program) : Prop extends VacR P, LeftR P where
  first : R_gazetteerlaw18_first P
  entry : R_vacuum_Entry P
  wakes : R_gazetteerlaw18_wakes P

theorem wakes18 (h : WakeR P) : PCalls P n_gazetteerlaw18_wakes [] (fun r => r = .bool true) := by
  refine A_gazetteerlaw18_wakes h.wakes ?_
  unfold F_gazetteerlaw18_wakes
  refine ⟨fun v st => v = .sl .unk 10 (wakeL.map cStored) [] ∧ ∃ nv, st = ⟨[], nv⟩, ?_, ?_⟩
  · simp [st0]
    exact GhostV.row1 (sz := 10) rfl (by simp) ⟨rfl, _, rfl⟩
  rintro v st ⟨rfl, nv, rfl⟩
  simp
  refine inv_p (first18 h.first) rfl rfl ?_
  rintro _ rfl
  simp
  refine inv_p (vac_Dead h.toVacR wakeF 6 wakeL (by decide) (by decide)) rfl (by decide) ?_
  have hok : FatesOk wakeF := by
    refine ⟨by decide, by decide, ?_, ?_, ?_⟩ <;> decide
  have hall : ∀ x ∈ wakeL, tupS x.tuple = true := by decide
  have hdl : deadL wakeF 6 wakeL = [⟨0, 0⟩, ⟨0, 2⟩] := by decide
  rintro _ (⟨hn, _⟩ | ⟨_, ⟨x, hx, hx'⟩, _⟩ | ⟨_, _, rfl⟩)
  · exact absurd hok hn
  · rw [hall x hx] at hx'; cases hx'
  rw [hdl]
  simp
  refine inv_p (Entry h.entry ⟨1, 2⟩) rfl rfl ?_
  rintro _ (⟨hn, _⟩ | ⟨_, rfl⟩)
  · exact absurd (by decide) hn
  simp
  refine inv_p (vac_Left h.toLeftR wakeL [⟨0, 0⟩, ⟨0, 2⟩] (by decide) (by decide)) rfl (by decide) ?_
  have hl : leftS wakeL [⟨0, 0⟩, ⟨0, 2⟩] = [⟨⟨0, 1⟩, ⟨1, 1, 4, ⟨0, 0, 0, 0⟩, 0⟩⟩] := by decide
  rintro _ rfl
  rw [hl]
  simp
  exact GhostV.refl ⟨rfl, rfl⟩
end Go.Proofs.Ytmgkjbphlbpbfaa.AM
