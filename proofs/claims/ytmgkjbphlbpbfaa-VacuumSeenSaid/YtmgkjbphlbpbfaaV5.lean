/- rows: what is in them, copies, what is struck out. -/
import Derived.Test.YtmgkjbphlbpbfaaV4
namespace Go.Proofs.Ytmgkjbphlbpbfaa.AM
open Go
set_option linter.unusedVariables false
set_option linter.unusedSimpArgs false
variable {P : Program}

def IndexR (l : List SpotT) (s : SpotT) (r : V) : Prop := ∃ n : Int, r = .int .i64 n ∧ (0 ≤ n ↔ s ∈ l)
def IndexI (l : List SpotT) (s : SpotT) (k : Nat) (v : V) (st : St) : Prop := ∃ i nv, k = l.length - i ∧ i ≤ l.length ∧ v = .int .i64 i ∧ st = ⟨[some (0, .mem 2 [cSpot s])], nv⟩ ∧ s ∉ l.take i

theorem Index_Spot (hR : R_slices_Index_Spot_Spot P) (l : List SpotT) (s : SpotT) (hl : l.length < 2 ^ 47) : PCalls P n_slices_Index_Spot_Spot [.sl .unk 2 (l.map cSpot) [], .agg (cSpot s)] (IndexR l s) := by
  refine A_slices_Index_Spot_Spot hR ?_
  unfold F_slices_Index_Spot_Spot
  simp [st0]
  refine ⟨IndexI l s, ⟨l.length, GhostV.refl ⟨0, 1, by simp, by simp, by simp, by simp, by simp⟩⟩, ?_⟩
  rintro k1 v8 st ⟨i, nv, rfl, hi, rfl, rfl, hn⟩
  by_cases hlt : i < l.length
  · simp [hlt]
    by_cases he : s = l[i]
    · simp [← he]
      exact GhostV.refl ⟨rfl, i, rfl, by simp; rw [he]; exact List.getElem_mem hlt⟩
    · have he' : ¬ (s.page = l[i].page ∧ s.slot = l[i].slot) := fun h => he (by obtain ⟨a, b⟩ := s; generalize l[i] = x at h; obtain ⟨c, d⟩ := x; simp at h; simp [h.1, h.2])
      have e2 : IntKind.i64.wrap ((i : Int) + 1) = ((i + 1 : Nat) : Int) := by rw [wrap_i64 (by omega)]; omega
      have go : ∃ j, j < l.length - i ∧ GhostV [.int .i64 (IntKind.i64.wrap ((i : Int) + 1))] ⟨[some (0, .mem 2 [cSpot s])], nv⟩ (app (n := 1) (IndexI l s j)) :=
        ⟨l.length - (i + 1), by omega, GhostV.refl ⟨i + 1, nv, rfl, by omega, by rw [e2], rfl, fun h => by
          rw [take_snoc hlt, List.mem_append] at h
          rcases h with h | h
          · exact hn h
          · exact he (by simpa using h)⟩⟩
      by_cases hp : s.page = l[i].page
      · have hs : ¬ s.slot = l[i].slot := fun h => he' ⟨hp, h⟩
        simp [hp, hs]
        simpa [hp] using go
      · simp [hp]
        exact go
  · simp [hlt]
    exact GhostV.refl ⟨rfl, -1, rfl, by simp; rwa [List.take_of_length_le (by omega)] at hn⟩

theorem Contains_Spot (hI : R_slices_Index_Spot_Spot P) (hR : R_slices_Contains_Spot_Spot P) (l : List SpotT) (s : SpotT) (hl : l.length < 2 ^ 47) : PCalls P n_slices_Contains_Spot_Spot [.sl .unk 2 (l.map cSpot) [], .agg (cSpot s)] (fun r => r = .bool (decide (s ∈ l))) := by
  refine A_slices_Contains_Spot_Spot hR ?_
  unfold F_slices_Contains_Spot_Spot
  simp [st0]
  refine inv_p (Index_Spot hI l s hl) (by simp) (by simp [pureLL]) ?_
  rintro _ ⟨n, rfl, hn⟩
  simp
  exact GhostV.refl (by simp [hn])

theorem Left_1 (hI : R_slices_Index_Spot_Spot P) (hC : R_slices_Contains_Spot_Spot P) (hR : R_vacuum_Left_1 P) (gone : List SpotT) (x : StoredT) (hl : gone.length < 2 ^ 47) :
    PCalls P n_vacuum_Left_1 [.agg (cStored x), .eptr [.sl .unk 2 (gone.map cSpot) []] 0] (fun r => r = .bool (decide (x.spot ∈ gone))) := by
  refine A_vacuum_Left_1 hR ?_
  unfold F_vacuum_Left_1
  simp [st0]
  refine inv_p (Contains_Spot hI hC gone x.spot hl) (by simp) (by simp [pureLL]) ?_
  rintro _ rfl
  simp
  exact GhostV.refl (by simp)

def fIdx (p : StoredT → Bool) (l : List StoredT) : Int := match l.findIdx? p with | some i => i | none => -1
def IdxI (p : StoredT → Bool) (l : List StoredT) (k : Nat) (v : V) (st : St) : Prop := ∃ i nv, k = l.length - i ∧ i ≤ l.length ∧ v = .int .i64 i ∧ st = ⟨[], nv⟩ ∧ ∀ x ∈ l.take i, p x = false

theorem IndexFunc (hR : R_slices_IndexFunc_Stored_Stored P) {k : FuncId} {first cap : List V} {p : StoredT → Bool} (l : List StoredT) (hl : l.length < 2 ^ 43) (h1 : pureL first = true) (h2 : pureL cap = true)
    (hf : ∀ x, PCalls P k (first ++ [.agg (cStored x)] ++ cap) (fun r => r = .bool (p x))) : PCalls P n_slices_IndexFunc_Stored_Stored [.sl .unk 10 (l.map cStored) [], .fn (.func k) first cap] (fun r => r = .int .i64 (fIdx p l)) := by
  refine A_slices_IndexFunc_Stored_Stored hR ?_
  unfold F_slices_IndexFunc_Stored_Stored
  simp [st0]
  refine ⟨IdxI p l, ⟨l.length, GhostV.refl ⟨0, 0, by simp, by simp, by simp, by simp, by simp⟩⟩, ?_⟩
  rintro k1 v8 st ⟨i, nv, rfl, hi, rfl, rfl, hn⟩
  by_cases hlt : i < l.length
  · simp [hlt]
    refine inv_p (hf l[i]) (by simp) (by simp [pureL_append, h1, h2, pureL]) ?_
    rintro _ rfl
    cases hp : p l[i]
    · have e2 : IntKind.i64.wrap ((i : Int) + 1) = ((i + 1 : Nat) : Int) := by rw [wrap_i64 (by omega)]; omega
      simp
      exact ⟨l.length - (i + 1), by omega, GhostV.refl ⟨i + 1, nv, rfl, by omega, by rw [e2], rfl, fun x hx => by
        rw [take_snoc hlt, List.mem_append] at hx
        rcases hx with hx | hx
        · exact hn x hx
        · obtain rfl : x = l[i] := by simpa using hx
          exact hp⟩⟩
    · simp
      refine GhostV.refl ⟨rfl, ?_⟩
      have : l.findIdx? p = some i := by
        rw [List.findIdx?_eq_some_iff_getElem]
        exact ⟨hlt, hp, fun j hj => by
          have := hn l[j] (List.mem_take_iff_getElem.2 ⟨j, by omega, rfl⟩)
          simp [this]⟩
      simp [fIdx, this]
  · simp [hlt]
    refine GhostV.refl ⟨rfl, ?_⟩
    have : l.findIdx? p = none := by
      rw [List.findIdx?_eq_none_iff]
      rwa [List.take_of_length_le (by omega)] at hn
    simp [fIdx, this]

theorem Clone_Stored (hR : R_slices_Clone_Stored_Stored P) (l : List StoredT) (hl : l.length < 2 ^ 40) {L : List (Option (Nat × Obj))} {nv : Nat} {K : V → St → Prop}
    (h1 : l = [] → K (.sl .nil 0 [] []) ⟨L, nv⟩) (h2 : K (.msl L.length (nv + 1) 0 l.length) ⟨L ++ [some (nv + 1, .mem 10 (l.map cStored))], nv + 2⟩) :
    ACalls P n_slices_Clone_Stored_Stored [.sl .unk 10 (l.map cStored) []] ⟨L, nv⟩ K := by
  refine A_slices_Clone_Stored_Stored hR ?_
  unfold F_slices_Clone_Stored_Stored
  cases l with
  | nil =>
    simp
    exact ⟨GhostV.refl (by simpa using h2), GhostV.refl (by simpa using h1 rfl)⟩
  | cons x l =>
    simp
    refine ⟨by simp at hl; omega, ?_⟩
    exact GhostV.refl (by simpa using h2)
end Go.Proofs.Ytmgkjbphlbpbfaa.AM
