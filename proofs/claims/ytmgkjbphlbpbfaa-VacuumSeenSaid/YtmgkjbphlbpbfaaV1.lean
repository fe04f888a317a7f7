/- vision: which fates there are. -/
import Derived.Test.YtmgkjbphlbpbfaaVTy
import Derived.Test.YtmgkjbphlbpbfaaVCode
namespace Go.Proofs.Ytmgkjbphlbpbfaa.AM
open Go
set_option linter.unusedVariables false
set_option linter.unusedSimpArgs false
variable {P : Program}

theorem isNaN_u64 (hR : R_cmp_isNaN_uint64 P) (a : Nat) : PCalls P n_cmp_isNaN_uint64 [.int .u64 a] (fun r => r = .bool false) := by
  refine A_cmp_isNaN_uint64 hR ?_
  unfold F_cmp_isNaN_uint64
  simp
  exact GhostV.refl (by simp)

def cmpN (a b : Nat) : Int := if a < b then -1 else if b < a then 1 else 0

theorem Compare_u64 (hR : R_cmp_Compare_uint64 P) (h1 : R_cmp_isNaN_uint64 P) (a b : Nat) : PCalls P n_cmp_Compare_uint64 [.int .u64 a, .int .u64 b] (fun r => r = .int .i64 (cmpN a b)) := by
  refine A_cmp_Compare_uint64 hR ?_
  unfold F_cmp_Compare_uint64
  simp
  refine inv_p (isNaN_u64 h1 a) rfl rfl ?_
  rintro _ rfl
  simp
  refine inv_p (isNaN_u64 h1 b) rfl rfl ?_
  rintro _ rfl
  simp
  repeat' ((first | refine cd (fun h => ?_) (fun h => ?_)); all_goals simp [h])
  all_goals (refine GhostV.refl ?_; simp_all [cmpN])
  all_goals omega

theorem fate_1 (hR : R_vision_fate_1 P) (h0 : R_cmp_Compare_uint64 P) (h1 : R_cmp_isNaN_uint64 P) (x : FateT) (id : Nat) : PCalls P n_vision_fate_1 [.agg (cFate x), .int .u64 id] (fun r => r = .int .i64 (cmpN x.id id)) := by
  refine A_vision_fate_1 hR ?_
  unfold F_vision_fate_1
  simp [st0]
  refine inv_p (Compare_u64 h0 h1 x.id id) rfl rfl ?_
  rintro _ rfl
  simp
  exact GhostV.refl (by simp)

/-- What a binary search finds. -/
def BsOk (l : List FateT) (id i : Nat) : Prop := i ≤ l.length ∧ (∀ j, (h : j < l.length) → j + 1 = i → l[j].id < id) ∧ ∀ h : i < l.length, id ≤ l[i].id

def fnd (l : List FateT) (i id : Nat) : Bool := match l[i]? with | some x => decide (x.id = id) | none => false

theorem bsearch (hR : R_slices_BinarySearchFunc_Fate_Fate_uint64 P) (hf : R_vision_fate_1 P) (h0 : R_cmp_Compare_uint64 P) (h1 : R_cmp_isNaN_uint64 P) (k : SK) (l : List FateT) (sp : List (List V)) (id : Nat) (hl : l.length < 2 ^ 40) :
    PCalls P n_slices_BinarySearchFunc_Fate_Fate_uint64 [.sl k 2 (l.map cFate) sp, .int .u64 id, .fn (.func n_vision_fate_1) [] []] (fun r => ∃ i : Nat, BsOk l id i ∧ r = .tup [.int .i64 i, .bool (fnd l i id)]) := by
  refine A_slices_BinarySearchFunc_Fate_Fate_uint64 hR ?_
  unfold F_slices_BinarySearchFunc_Fate_Fate_uint64
  simp [st0]
  refine ⟨fun k v9 v10 st => ∃ i j : Nat, k = j - i ∧ i ≤ j ∧ j ≤ l.length ∧ v9 = .int .i64 i ∧ v10 = .int .i64 j ∧ st = st0 ∧ (∀ q, (h : q < l.length) → q + 1 = i → l[q].id < id) ∧ ∀ h : j < l.length, id ≤ l[j].id,
    ⟨l.length, GhostV.refl ⟨0, l.length, by omega, by omega, by omega, by simp, by simp, rfl, by omega, by omega⟩⟩, ?_⟩
  rintro k1 v9 v10 st ⟨i, j, rfl, hij, hj, rfl, rfl, rfl, hlo, hhi⟩
  simp
  by_cases hlt : i < j
  · have e1 : IntKind.i64.wrap ((i : Int) + j) = (i : Int) + j := wrap_i64 (by omega)
    have e2 : IntKind.u64.wrap ((i : Int) + j) = (i : Int) + j := by simp [IntKind.wrap, IntKind.signed, IntKind.bits]; omega
    obtain ⟨m, hm0⟩ : ∃ m, m = (i + j) / 2 := ⟨_, rfl⟩
    have e3 : IntKind.i64.wrap (((i : Int) + j).fdiv 2) = m := by rw [Int.fdiv_eq_ediv_of_nonneg _ (by omega), wrap_i64 (by omega)]; omega
    have hm : m < l.length := by omega
    simp [hlt, e1, e2, e3, IntKind.bits, hm]
    refine inv_p (fate_1 hf h0 h1 l[m] id) (by simp) (by simp) ?_
    rintro _ rfl
    simp
    by_cases hc : l[m].id < id
    · have e4 : IntKind.i64.wrap ((m : Int) + 1) = ((m + 1 : Nat) : Int) := by rw [wrap_i64 (by omega)]; omega
      simp [cmpN, hc, e4]
      exact ⟨_, by omega, GhostV.refl ⟨m + 1, j, rfl, by omega, by omega, by simp, rfl, rfl, fun q hq hq' => by
        obtain rfl : q = m := by omega
        exact hc, hhi⟩⟩
    · have hc' : ¬ cmpN l[m].id id < 0 := by unfold cmpN; rw [if_neg hc]; split <;> omega
      simp [hc']
      exact ⟨_, by omega, GhostV.refl ⟨i, m, rfl, by omega, by omega, rfl, by simp, rfl, hlo, fun _ => by omega⟩⟩
  · obtain rfl : i = j := by omega
    simp
    have fin : ∀ b : Bool, b = fnd l i id → GhostV [.int .i64 i, .bool b] st0 fun vs st => (mkres vs).pure = true ∧ ∃ i, BsOk l id i ∧ mkres vs = .tup [.int .i64 i, .bool (fnd l i id)] := by
      rintro _ rfl
      exact GhostV.refl ⟨by simp, i, ⟨hj, hlo, hhi⟩, by simp⟩
    by_cases hl2 : i < l.length
    · simp [hl2]
      refine inv_p (fate_1 hf h0 h1 l[i] id) (by simp) (by simp) ?_
      rintro _ rfl
      simp [hl2]
      refine fin _ ?_
      have := hhi hl2
      by_cases he : l[i].id = id
      · simp [fnd, hl2, he, cmpN]
      · have : cmpN l[i].id id = 1 := by unfold cmpN; rw [if_neg (by omega), if_pos (by omega)]
        simp [fnd, hl2, he, this]
    · simp [hl2]
      exact fin _ (by simp [fnd, hl2])
end Go.Proofs.Ytmgkjbphlbpbfaa.AM
