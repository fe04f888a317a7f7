/- The layer's functions, walked. -/
import Derived.Test.YthoaclojobgelaaGA
namespace Go.Proofs.Ythoaclojobgelaa.AM
open Go
set_option linter.unusedVariables false
set_option linter.unusedSimpArgs false
variable {P : Program}

def fIdx (p : EdgeT → Bool) (l : List EdgeT) : Int := match l.findIdx? p with | some i => i | none => -1
def IdxI (p : EdgeT → Bool) (l : List EdgeT) (k : Nat) (v : V) (st : St) : Prop := ∃ i nv, k = l.length - i ∧ i ≤ l.length ∧ v = .int .i64 i ∧ st = ⟨[], nv⟩ ∧ ∀ x ∈ l.take i, p x = false

theorem IndexFunc (hR : R_slices_IndexFunc_Edge_Edge P) {k : FuncId} {first cap : List V} {p : EdgeT → Bool} (l : List EdgeT) (hl : l.length < 2 ^ 43) (h1 : pureL first = true) (h2 : pureL cap = true)
    (hf : ∀ x, PCalls P k (first ++ [.agg (cEd x)] ++ cap) (fun r => r = .bool (p x))) : PCalls P n_slices_IndexFunc_Edge_Edge [.sl .unk 2 (l.map cEd) [], .fn (.func k) first cap] (fun r => r = .int .i64 (fIdx p l)) := by
  refine A_slices_IndexFunc_Edge_Edge hR ?_
  unfold F_slices_IndexFunc_Edge_Edge
  simp [st0]
  refine ⟨IdxI p l, ⟨l.length, GhostV.refl ⟨0, 0, by simp, by simp, by simp, by simp, by simp⟩⟩, ?_⟩
  rintro k1 v8 st ⟨i, nv, rfl, hi, rfl, rfl, hn⟩
  by_cases hlt : i < l.length
  · simp [hlt]
    refine inv_p (hf l[i]) (by simp) (by simp [pureL_append, h1, h2, pureL]) ?_
    rintro _ rfl
    cases hp : p l[i]
    · have e2 : IntKind.i64.wrap ((i : Int) + 1) = ((i + 1 : Nat) : Int) := by rw [wrap_i64 (by omega)]; omega
      simp
      exact ⟨l.length - (i + 1), by omega, GhostV.refl ⟨i + 1, nv, rfl, by omega, by rw [e2], rfl, fun x hx => by
        rw [take_snoc hlt, List.mem_append] at hx
        rcases hx with hx | hx
        · exact hn x hx
        · obtain rfl : x = l[i] := by simpa using hx
          exact hp⟩⟩
    · simp
      refine GhostV.refl ⟨rfl, ?_⟩
      have : l.findIdx? p = some i := by
        rw [List.findIdx?_eq_some_iff_getElem]
        exact ⟨hlt, hp, fun j hj => by
          have := hn l[j] (List.mem_take_iff_getElem.2 ⟨j, by omega, rfl⟩)
          simp [this]⟩
      simp [fIdx, this]
  · simp [hlt]
    refine GhostV.refl ⟨rfl, ?_⟩
    have : l.findIdx? p = none := by
      rw [List.findIdx?_eq_none_iff]
      rwa [List.take_of_length_le (by omega)] at hn
    simp [fIdx, this]

theorem Clone_Edge (hR : R_slices_Clone_Edge_Edge P) (l : List EdgeT) (hl : l.length < 2 ^ 40) {L : List (Option (Nat × Obj))} {nv : Nat} {K : V → St → Prop}
    (h1 : l = [] → K (.sl .nil 0 [] []) ⟨L, nv⟩) (h2 : K (.msl L.length (nv + 1) 0 l.length) ⟨L ++ [some (nv + 1, .mem 2 (l.map cEd))], nv + 2⟩) :
    ACalls P n_slices_Clone_Edge_Edge [.sl .unk 2 (l.map cEd) []] ⟨L, nv⟩ K := by
  refine A_slices_Clone_Edge_Edge hR ?_
  unfold F_slices_Clone_Edge_Edge
  cases l with
  | nil =>
    simp
    exact ⟨GhostV.refl (by simpa using h2), GhostV.refl (by simpa using h1 rfl)⟩
  | cons x l =>
    simp
    refine ⟨by simp at hl; omega, ?_⟩
    exact GhostV.refl (by simpa using h2)
/-- The rows while some are struck out: what is kept, what is left over, what is to come. -/
structure DelRows (p : EdgeT → Bool) (l : List EdgeT) (i j : Nat) (rows : List (List V)) : Prop where
  jl : j ≤ l.length
  ij : i < j
  kept : ((l.take j).filter (fun x => !p x)).length = i
  len : rows.length = l.length
  ten : ∀ e ∈ rows, e.length = 2
  lo : rows.take i = ((l.take j).filter (fun x => !p x)).map cEd
  hi : rows.drop j = (l.drop j).map cEd

theorem DelRows.get {p : EdgeT → Bool} {l : List EdgeT} {i j : Nat} {rows : List (List V)} (h : DelRows p l i j rows) (hj : j < l.length) : rows[j]? = some (cEd l[j]) := by
  have := congrArg (fun x => x[0]?) h.hi
  simp [hj] at this
  simpa using this

theorem DelRows.drop {p : EdgeT → Bool} {l : List EdgeT} {i j : Nat} {rows : List (List V)} (h : DelRows p l i j rows) (hj : j < l.length) (hp : p l[j] = true) : DelRows p l i (j + 1) rows where
  jl := hj
  ij := by have := h.ij; omega
  kept := by rw [take_snoc hj, List.filter_append]; simp [hp, h.kept]
  len := h.len
  ten := h.ten
  lo := by rw [take_snoc hj, List.filter_append]; simp [hp, h.lo]
  hi := by
    have := congrArg (List.drop 1) h.hi
    simpa [List.drop_drop, ← List.map_drop] using this

theorem DelRows.keep {p : EdgeT → Bool} {l : List EdgeT} {i j : Nat} {rows : List (List V)} (h : DelRows p l i j rows) (hj : j < l.length) (hp : p l[j] = false) : DelRows p l (i + 1) (j + 1) (rows.set i (cEd l[j])) where
  jl := hj
  ij := by have := h.ij; omega
  kept := by rw [take_snoc hj, List.filter_append]; simp [hp, h.kept]
  len := by simp [h.len]
  ten := by
    intro e he
    rcases List.mem_or_eq_of_mem_set he with h' | rfl
    · exact h.ten e h'
    · rfl
  lo := by
    have hi : i < rows.length := by have := h.ij; have := h.len; omega
    rw [take_snoc hj, List.filter_append, List.map_append, ← h.lo]
    have : (rows.set i (cEd l[j])).take (i + 1) = rows.take i ++ [cEd l[j]] := by
      rw [take_snoc (by simpa using hi), List.take_set_of_le (by omega)]; simp
    rw [this]; simp [hp]
  hi := by
    rw [List.drop_set_of_lt (by have := h.ij; omega)]
    have := congrArg (List.drop 1) h.hi
    simpa [List.drop_drop, ← List.map_drop] using this

def DelI (p : EdgeT → Bool) (l : List EdgeT) (L : List (Option (Nat × Obj))) (id ver : Nat) (k : Nat) (v5 v6 : V) (st : St) : Prop :=
  ∃ (i j nv : Nat) (rows : List (List V)), k = l.length - j ∧ v5 = .int .i64 i ∧ v6 = .int .i64 j ∧ st = ⟨L.set id (some (ver, .mem 2 rows)), nv⟩ ∧ DelRows p l i j rows

theorem DeleteFunc (hI : R_slices_IndexFunc_Edge_Edge P) (hR : R_slices_DeleteFunc_Edge_Edge P) {k : FuncId} {cap cap' : List V} {p : EdgeT → Bool} (l : List EdgeT) (hl : l.length < 2 ^ 43)
    (hpc : pureL cap' = true) (hf : ∀ x, PCalls P k ([.agg (cEd x)] ++ cap') (fun r => r = .bool (p x)))
    {L : List (Option (Nat × Obj))} {nv id ver : Nat} (hL : L[id]? = some (some (ver, .mem 2 (l.map cEd)))) (hcap : ∀ L' nv', (∀ j, j ≠ id → j < L.length → L'[j]? = L[j]?) → Bors ⟨L', nv'⟩ cap cap')
    {K : V → St → Prop} (hk : ∀ nv' rows, rows.take ((l.filter fun x => !p x).length) = (l.filter fun x => !p x).map cEd → (l.filter fun x => !p x).length ≤ rows.length → K (.msl id ver 0 (l.filter fun x => !p x).length) ⟨L.set id (some (ver, .mem 2 rows)), nv'⟩) :
    ACalls P n_slices_DeleteFunc_Edge_Edge [.msl id ver 0 l.length, .fn (.func k) [] cap] ⟨L, nv⟩ K := by
  have hid : id < L.length := (List.getElem?_eq_some_iff.1 hL).1
  have hrow : ∀ i, i < l.length → ((l.map cEd).getD i []).length = 2 := fun i hi => by rw [getD_map _ _ _ hi]; rfl
  have bslice : ∀ (st : St) rows, st.get id ver = some (.mem 2 rows) → rows = l.map cEd → Bor st (.msl id ver 0 l.length) (.sl .unk 2 (l.map cEd) []) := by
    intro st rows ho hr
    subst hr
    exact .msl id ver 0 l.length 2 _ _ ho (by simp) (by simp) (fun i hi => hrow i hi) (fun i j hi hj => by rw [Nat.zero_add]; exact .refl _)
  refine A_slices_DeleteFunc_Edge_Edge hR ?_
  unfold F_slices_DeleteFunc_Edge_Edge
  simp
  refine inv_look (IndexFunc hI (first := []) (cap := cap') (p := p) l hl rfl hpc (fun x => hf x)) ?_ (by simp [pureL, pureLL, hpc]) ?_
  · refine Bors.cons (bslice _ _ (by simp [St.get, hL]) rfl) (Bors.cons (.fn _ _ _ _ _ rfl (hcap L nv (fun _ _ _ => rfl)).1 (fun i hi => by simp at hi) (hcap L nv (fun _ _ _ => rfl)).2) Bors.nil)
  intro r hr
  refine ⟨by subst hr; rfl, ?_⟩
  cases hfi : l.findIdx? p with
  | none =>
    have hall : l.filter (fun x => !p x) = l := by
      rw [List.filter_eq_self]; rw [List.findIdx?_eq_none_iff] at hfi; intro x hx; simp [hfi x hx]
    have hr' : r = .int .i64 (-1) := by rw [hr]; simp [fIdx, hfi]
    clear hr; subst hr'
    simp
    refine GhostV.refl ?_
    have := hk nv (l.map cEd)
    rw [hall] at this
    have := this (by rw [List.take_of_length_le (by simp)]) (by simp)
    have e : L.set id (some (ver, .mem 2 (l.map cEd))) = L := by
      apply List.ext_getElem?
      intro j
      by_cases h : id = j
      · subst h; rw [List.getElem?_set_self hid, hL]
      · rw [List.getElem?_set_ne h]
    rw [e] at this
    simpa using this
  | some i0 =>
    obtain ⟨hi0, hp0, hlt0⟩ := List.findIdx?_eq_some_iff_getElem.1 hfi
    have hne : ¬ ((i0 : Int) = -1) := by omega
    have e1 : IntKind.i64.wrap ((i0 : Int) + 1) = ((i0 + 1 : Nat) : Int) := by rw [wrap_i64 (by omega)]; omega
    have hr' : r = .int .i64 i0 := by rw [hr]; simp [fIdx, hfi]
    clear hr; subst hr'
    simp [hne, e1]
    have htk : (l.take (i0 + 1)).filter (fun x => !p x) = l.take i0 := by
      rw [take_snoc hi0, List.filter_append]
      simp [hp0]
      intro x hx
      obtain ⟨j, hj, rfl⟩ := List.mem_take_iff_getElem.1 hx
      simpa using hlt0 j (by omega)
    have hLs : L.set id (some (ver, .mem 2 (l.map cEd))) = L := by
      apply List.ext_getElem?
      intro j
      by_cases h : id = j
      · subst h; rw [List.getElem?_set_self hid, hL]
      · rw [List.getElem?_set_ne h]
    refine ⟨DelI p l L id ver, ⟨l.length - (i0 + 1), GhostV.refl ⟨i0, i0 + 1, nv, l.map cEd, rfl, rfl, by simp, by rw [hLs], ⟨hi0, by omega, by rw [htk]; simp; omega, by simp, ?_, by rw [htk, List.map_take], by rw [List.map_drop]⟩⟩⟩, ?_⟩
    · intro e he
      obtain ⟨x, _, rfl⟩ := List.mem_map.1 he
      rfl
    rintro k1 v5 v6 st ⟨i, j, nv1, rows, rfl, rfl, rfl, rfl, hd⟩
    by_cases hj : j < l.length
    · have hir : i < rows.length := by have := hd.ij; have := hd.len; omega
      have hri : rows[i]? = some rows[i] := List.getElem?_eq_getElem hir
      have hr10 : rows[i].length = 2 := hd.ten _ (List.getElem_mem hir)
      have hjr : j < rows.length := by have := hd.len; omega
      have hrj : rows[j] = cEd l[j] := by have := hd.get hj; rw [List.getElem?_eq_getElem hjr] at this; simpa using this
      simp [hj, hid, hjr, hrj, hd.len]
      refine inv_look (hf l[j]) (Bors.cons (.refl _) (hcap _ _ (fun q hq hq' => ?_))) (by simp [pureL_append, pureL, hpc]) ?_
      · rw [List.getElem?_append_left (by simpa using hq'), List.getElem?_set_ne (Ne.symm hq)]
      rintro _ rfl
      refine ⟨rfl, ?_⟩
      have e2 : IntKind.i64.wrap ((i : Int) + 1) = ((i + 1 : Nat) : Int) := by rw [wrap_i64 (by have := hd.ij; omega)]; omega
      have e3 : IntKind.i64.wrap ((j : Int) + 1) = ((j + 1 : Nat) : Int) := by rw [wrap_i64 (by omega)]; omega
      have hil : i < l.length := by have := hd.ij; omega
      have hdr : List.drop 2 rows[i] = [] := List.drop_eq_nil_of_le (by omega)
      cases hp : p l[j]
      · simp [hid, hil, hir, hr10, hd.len, splice, hdr]
        have hk2 := hd.keep hj hp
        refine ⟨l.length - (j + 1), by omega, GhostV.take L.length ?_⟩
        simp
        show DelI p l L id ver _ _ _ _
        exact ⟨i + 1, j + 1, _, rows.set i (cEd l[j]), rfl, by rw [e2], by rw [e3], rfl, hk2⟩
      · simp
        have hk2 := hd.drop hj hp
        refine ⟨l.length - (j + 1), by omega, GhostV.take L.length ?_⟩
        simp
        show DelI p l L id ver _ _ _ _
        exact ⟨i, j + 1, _, rows, rfl, rfl, by rw [e3], rfl, hk2⟩
    · have hjl : j = l.length := by have := hd.jl; omega
      subst hjl
      have hlo := hd.lo
      have hkept := hd.kept
      rw [List.take_length] at hlo hkept
      have hij := hd.ij
      have hle : i ≤ l.length := by omega
      have hs : i + (l.length - i) = l.length := by omega
      simp [hid, hd.len, hle, hs]
      refine GhostV.refl ?_
      simp only [mkres1]
      rw [← hkept]
      refine hk _ _ ?_ ?_
      · rw [hkept, List.take_append_of_le_length (by simp [hd.len]; omega), List.take_take, Nat.min_self]; exact hlo
      · rw [hkept]; simp [hd.len]; omega
theorem DeleteNil (hI : R_slices_IndexFunc_Edge_Edge P) (hR : R_slices_DeleteFunc_Edge_Edge P) {k : FuncId} {cap cap' : List V} {p : EdgeT → Bool}
    (hpc : pureL cap' = true) (hf : ∀ x, PCalls P k ([.agg (cEd x)] ++ cap') (fun r => r = .bool (p x)))
    {st : St} (hcap : Bors st cap cap') {K : V → St → Prop} (hk : K (.sl .nil 0 [] []) st) :
    ACalls P n_slices_DeleteFunc_Edge_Edge [.sl .nil 0 [] [], .fn (.func k) [] cap] st K := by
  refine A_slices_DeleteFunc_Edge_Edge hR ?_
  unfold F_slices_DeleteFunc_Edge_Edge
  simp
  have h0 := IndexFunc hI (first := []) (cap := cap') (p := p) [] (by simp) rfl hpc (fun x => hf x)
  refine inv_f0 (ACalls.le (h0.look (st := st) (args := [.sl .unk 2 [] [], .fn (.func k) [] cap]) (by simp [pureL, pureLL, hpc]) (Bors.cons (.refl _) (Bors.cons (.fn _ _ _ _ _ rfl hcap.1 (fun i hi => by simp at hi) hcap.2) Bors.nil)) ?_) (LeVs.cons (.nil _ _) (LeVs.refl _)))
  rintro _ rfl
  refine ⟨rfl, ?_⟩
  have : fIdx p [] = -1 := rfl
  simp [this]
  exact GhostV.refl hk

theorem ContainsFunc (hI : R_slices_IndexFunc_Edge_Edge P) (hR : R_slices_ContainsFunc_Edge_Edge P) {k : FuncId} {p : EdgeT → Bool} (l : List EdgeT) (hl : l.length < 2 ^ 43) (hf : ∀ x, PCalls P k [.agg (cEd x)] (fun r => r = .bool (p x))) :
    PCalls P n_slices_ContainsFunc_Edge_Edge [.sl .unk 2 (l.map cEd) [], .fn (.func k) [] []] (fun r => r = .bool (l.any p)) := by
  refine A_slices_ContainsFunc_Edge_Edge hR ?_
  unfold F_slices_ContainsFunc_Edge_Edge
  simp [st0]
  refine inv_p (IndexFunc hI (first := []) (cap := []) (p := p) l hl rfl rfl (fun x => hf x)) (by simp) (by simp [pureL, pureLL]) ?_
  rintro _ rfl
  have e : l.any p = decide (0 ≤ fIdx p l) := by
    unfold fIdx
    cases h : l.findIdx? p with
    | none => simp [List.findIdx?_eq_none_iff] at h; simpa using h
    | some i =>
      have := List.findIdx?_eq_some_iff_getElem.1 h
      obtain ⟨h1, h2, _⟩ := this
      simp; exact ⟨l[i], List.getElem_mem h1, h2⟩
  simp
  exact GhostV.refl ⟨rfl, by rw [e]; rfl⟩

def IndexR (l : List EdgeT) (s : EdgeT) (r : V) : Prop := ∃ n : Int, r = .int .i64 n ∧ (0 ≤ n ↔ s ∈ l)
def IndexI (l : List EdgeT) (s : EdgeT) (k : Nat) (v : V) (st : St) : Prop := ∃ i nv, k = l.length - i ∧ i ≤ l.length ∧ v = .int .i64 i ∧ st = ⟨[some (0, .mem 2 [cEd s])], nv⟩ ∧ s ∉ l.take i

theorem Index_Edge (hR : R_slices_Index_Edge_Edge P) (l : List EdgeT) (s : EdgeT) (hl : l.length < 2 ^ 47) : PCalls P n_slices_Index_Edge_Edge [.sl .unk 2 (l.map cEd) [], .agg (cEd s)] (IndexR l s) := by
  refine A_slices_Index_Edge_Edge hR ?_
  unfold F_slices_Index_Edge_Edge
  simp [st0]
  refine ⟨IndexI l s, ⟨l.length, GhostV.refl ⟨0, 1, by simp, by simp, by simp, by simp, by simp⟩⟩, ?_⟩
  rintro k1 v8 st ⟨i, nv, rfl, hi, rfl, rfl, hn⟩
  by_cases hlt : i < l.length
  · simp [hlt]
    by_cases he : s = l[i]
    · simp [← he]
      exact GhostV.refl ⟨rfl, i, rfl, by simp; rw [he]; exact List.getElem_mem hlt⟩
    · have he' : ¬ (s.f = l[i].f ∧ s.t = l[i].t) := fun h => he (by obtain ⟨a, b⟩ := s; generalize l[i] = x at h; obtain ⟨c, d⟩ := x; simp at h; simp [h.1, h.2])
      have e2 : IntKind.i64.wrap ((i : Int) + 1) = ((i + 1 : Nat) : Int) := by rw [wrap_i64 (by omega)]; omega
      have go : ∃ j, j < l.length - i ∧ GhostV [.int .i64 (IntKind.i64.wrap ((i : Int) + 1))] ⟨[some (0, .mem 2 [cEd s])], nv⟩ (app (n := 1) (IndexI l s j)) :=
        ⟨l.length - (i + 1), by omega, GhostV.refl ⟨i + 1, nv, rfl, by omega, by rw [e2], rfl, fun h => by
          rw [take_snoc hlt, List.mem_append] at h
          rcases h with h | h
          · exact hn h
          · exact he (by simpa using h)⟩⟩
      by_cases hp : s.f = l[i].f
      · have hs : ¬ s.t = l[i].t := fun h => he' ⟨hp, h⟩
        simp [hp, hs]
        simpa [hp] using go
      · simp [hp]
        exact go
  · simp [hlt]
    exact GhostV.refl ⟨rfl, -1, rfl, by simp; rwa [List.take_of_length_le (by omega)] at hn⟩

theorem Contains_Edge (hI : R_slices_Index_Edge_Edge P) (hR : R_slices_Contains_Edge_Edge P) (l : List EdgeT) (s : EdgeT) (hl : l.length < 2 ^ 47) : PCalls P n_slices_Contains_Edge_Edge [.sl .unk 2 (l.map cEd) [], .agg (cEd s)] (fun r => r = .bool (decide (s ∈ l))) := by
  refine A_slices_Contains_Edge_Edge hR ?_
  unfold F_slices_Contains_Edge_Edge
  simp [st0]
  refine inv_p (Index_Edge hI l s hl) (by simp) (by simp [pureLL]) ?_
  rintro _ ⟨n, rfl, hn⟩
  simp
  exact GhostV.refl (by simp [hn])

end Go.Proofs.Ythoaclojobgelaa.AM

namespace Go.Proofs.Ythoaclojobgelaa.AM
open Go
set_option linter.unusedVariables false
set_option linter.unusedSimpArgs false
variable {P : Program}

theorem GhostV.keepN {L N M : List (Option (Nat × Obj))} {nv : Nat} {vs : List V} {K : List V → St → Prop} (hk : K vs ⟨L ++ N, nv⟩) : GhostV vs ⟨L ++ (N ++ M), nv⟩ K := by rw [← List.append_assoc]; exact GhostV.keep hk
/-! ### keys of maps -/
theorem mf_none {f : Nat → V} {x : Nat} : ∀ {ks : List Nat} {i : Nat}, x ∉ ks → mfind (.one .int) (.int .u64 x) (ks.map (entF f)) i = some none
  | [], i, _ => rfl
  | k :: ks, i, h => by
    have h1 : x ≠ k := fun e => h (by simp [e])
    have h2 : x ∉ ks := fun e => h (by simp [e])
    have : keyEq (.one .int) (.int .u64 (x : Int)) (.int .u64 (k : Int)) = some false := by simp [keyEq, eqL, h1]
    simp only [List.map_cons, entF, mfind, this]
    exact mf_none h2
theorem mf_some {f : Nat → V} {x : Nat} : ∀ {ks : List Nat} {i : Nat}, x ∈ ks → ∃ j, (∃ h : j < ks.length, ks[j] = x) ∧ mfind (.one .int) (.int .u64 x) (ks.map (entF f)) i = some (some (i + j, f x))
  | k :: ks, i, h => by
    by_cases h1 : x = k
    · subst h1
      have : keyEq (.one .int) (.int .u64 (x : Int)) (.int .u64 (x : Int)) = some true := by simp [keyEq, eqL]
      exact ⟨0, ⟨by simp, rfl⟩, by simp [entF, mfind, this]⟩
    · have h2 : x ∈ ks := by simpa [h1] using h
      have : keyEq (.one .int) (.int .u64 (x : Int)) (.int .u64 (k : Int)) = some false := by simp [keyEq, eqL, h1]
      obtain ⟨j, ⟨hj, hx⟩, hm⟩ := mf_some (f := f) (i := i + 1) h2
      exact ⟨j + 1, ⟨by simpa using hj, by simpa using hx⟩, by simp only [List.map_cons, entF, mfind, this]; rw [hm]; congr 3; omega⟩
theorem mk_none {f : Nat → V} {x : Nat} {ks : List Nat} (h : x ∉ ks) : mfind (.one .int) (.int .u64 (x : Int)) (ks.map (entF f)) 0 = some none := mf_none h
theorem mk_some {f : Nat → V} {x : Nat} {ks : List Nat} (h : x ∈ ks) : ∃ j, (∃ h : j < ks.length, ks[j] = x) ∧ mfind (.one .int) (.int .u64 (x : Int)) (ks.map (entF f)) 0 = some (some (j, f x)) := by
  obtain ⟨j, h1, h2⟩ := mf_some (f := f) (i := 0) h
  exact ⟨j, h1, by rw [h2]; simp⟩
theorem ent_set {f : Nat → V} {ks : List Nat} {j : Nat} (h : j < ks.length) : (ks.map (entF f)).set j (.int .u64 (ks[j] : Nat), f ks[j]) = ks.map (entF f) := by
  have : (V.int .u64 ((ks[j] : Nat) : Int), f ks[j]) = entF f ks[j] := rfl
  rw [this, ← List.map_set]
  simp
/-- A row without doubles, in another one. -/
theorem sub_len : ∀ {a b : List Nat}, a.Nodup → (∀ x ∈ a, x ∈ b) → a.length ≤ b.length
  | [], b, _, _ => by simp
  | x :: a, b, hn, hs => by
    have hx : x ∈ b := hs x (by simp)
    have h2 := List.nodup_cons.1 hn
    have := sub_len (a := a) (b := b.erase x) h2.2 (fun y hy => (List.mem_erase_of_ne (by rintro rfl; exact h2.1 hy)).2 (hs y (by simp [hy])))
    rw [List.length_erase_of_mem hx] at this
    have := List.length_pos_of_mem hx
    simp only [List.length_cons]; omega

/-! ### Check -/
structure GrR (P : Program) : Prop extends Rising_boolR P, Rising_intR P where
  check : R_graph_Check P
  check1 : R_graph_Check_1 P
  conf : R_slices_ContainsFunc_Edge_Edge P
  idxf : R_slices_IndexFunc_Edge_Edge P
  nexts : R_graph_nexts P
  gfar : R_graph_far P
  rings : R_graph_rings P
theorem gCheck_1 (h : GrR P) (e : EdgeT) : PCalls P n_graph_Check_1 [.agg (cEd e)] (fun r => r = .bool (!(e.f != 0 && e.t != 0))) := by
  refine A_graph_Check_1 h.check1 ?_
  unfold F_graph_Check_1
  simp [st0]
  by_cases h1 : e.f = 0
  · simp [h1]
    exact GhostV.refl ⟨rfl, by simp [h1]⟩
  · by_cases h2 : e.t = 0
    · simp [h1, h2]
      exact GhostV.refl ⟨rfl, by simp [h2]⟩
    · simp [h1, h2]
      exact GhostV.refl ⟨rfl, by simp [h1, h2]⟩
theorem gCheck (h : GrR P) (l : List EdgeT) (hl : l.length < 2 ^ 40) : PCalls P n_graph_Check [.sl .unk 2 (l.map cEd) []] (fun r => r = .int .i64 (wrongS l)) := by
  refine A_graph_Check h.check ?_
  unfold F_graph_Check
  simp [st0]
  by_cases h64 : 64 < l.length
  · have : (64 : Int) < l.length := by omega
    simp [this]
    exact GhostV.refl ⟨rfl, by simp [wrongS, h64]⟩
  · have : ¬ (64 : Int) < l.length := by omega
    simp [this]
    refine inv_p (ContainsFunc h.idxf h.conf (p := fun e => !(e.f != 0 && e.t != 0)) l (by omega) (fun x => gCheck_1 h x)) (by simp) (by simp [pureL, pureLL]) ?_
    rintro _ rfl
    have e : (l.any fun x => !(x.f != 0 && x.t != 0)) = !okS l := by simp [okS, List.not_all_eq_any_not]
    rw [e]
    cases ho : okS l
    · simp; exact GhostV.refl ⟨rfl, by simp [wrongS, h64, ho]⟩
    · simp; exact GhostV.refl ⟨rfl, by simp [wrongS, h64, ho]⟩

/-! ### nexts -/
def addK (ks : List Nat) (x : Nat) : List Nat := if x ∈ ks then ks else ks ++ [x]
def nextKStep (n : Nat) (ks : List Nat) (e : EdgeT) : List Nat := if e.f = n then addK ks e.t else ks
def nextK (l : List EdgeT) (n : Nat) : List Nat := l.foldl (nextKStep n) []
def nextsS (l : List EdgeT) (n : Nat) : List Nat := sortL (nextK l n)
theorem addK_nodup {ks : List Nat} (h : ks.Nodup) (x : Nat) : (addK ks x).Nodup := by
  unfold addK; split
  · exact h
  · rename_i hx; exact List.nodup_append.2 ⟨h, by simp, fun a ha b hb => by rintro rfl; simp at hb; subst hb; exact hx ha⟩
theorem nextK_fold (n : Nat) : ∀ (l : List EdgeT) (ks : List Nat), ks.Nodup → (l.foldl (nextKStep n) ks).Nodup ∧ ∀ x, x ∈ l.foldl (nextKStep n) ks ↔ x ∈ ks ∨ ∃ e ∈ l, e.f = n ∧ e.t = x
  | [], ks, h => by simp [h]
  | e :: l, ks, h => by
    have hn : (nextKStep n ks e).Nodup := by unfold nextKStep; split; exact addK_nodup h _; exact h
    obtain ⟨h1, h2⟩ := nextK_fold n l _ hn
    refine ⟨h1, fun x => ?_⟩
    rw [List.foldl_cons, h2]
    have : x ∈ nextKStep n ks e ↔ x ∈ ks ∨ (e.f = n ∧ e.t = x) := by
      unfold nextKStep addK
      by_cases h1 : e.f = n
      · by_cases h2 : e.t ∈ ks
        · simp [h1, h2]; rintro rfl; exact h2
        · simp [h1, h2, eq_comm]
      · simp [h1]
    rw [this]
    constructor
    · rintro ((a | a) | ⟨e', a, b⟩)
      · exact .inl a
      · exact .inr ⟨e, by simp, a⟩
      · exact .inr ⟨e', by simp [a], b⟩
    · rintro (a | ⟨e', a, b⟩)
      · exact .inl (.inl a)
      · rcases List.mem_cons.1 a with rfl | a
        · exact .inl (.inr b)
        · exact .inr ⟨e', a, b⟩
theorem nextK_nodup (l : List EdgeT) (n : Nat) : (nextK l n).Nodup := (nextK_fold n l [] List.nodup_nil).1
theorem nextK_mem (l : List EdgeT) (n x : Nat) : x ∈ nextK l n ↔ ∃ e ∈ l, e.f = n ∧ e.t = x := by have := (nextK_fold n l [] List.nodup_nil).2 x; simpa [nextK] using this
theorem nextsS_mem (l : List EdgeT) (n x : Nat) : x ∈ nextsS l n ↔ ∃ e ∈ l, e.f = n ∧ e.t = x := by unfold nextsS; rw [(sortL_perm _).mem_iff, nextK_mem]
theorem nextK_len (l : List EdgeT) (n : Nat) : (nextK l n).length ≤ l.length := by
  have := sub_len (nextK_nodup l n) (b := l.map (·.t)) (fun x hx => by obtain ⟨e, he, _, rfl⟩ := (nextK_mem l n x).1 hx; exact List.mem_map.2 ⟨e, he, rfl⟩)
  simpa using this
theorem nextsS_len (l : List EdgeT) (n : Nat) : (nextsS l n).length ≤ l.length := by unfold nextsS; rw [sortL_len]; exact nextK_len l n

abbrev tt : Nat → V := fun _ => .bool true
def NextI (l : List EdgeT) (n mv : Nat) (L : List (Option (Nat × Obj))) (k : Nat) (v : V) (st : St) : Prop := ∃ j ep nv ks, k = l.length - j ∧ j ≤ l.length ∧ v = .int .i64 ((j : Nat) : Int) ∧ (l.take j).foldl (nextKStep n) [] = ks ∧ st = ⟨L ++ [some (mv, .map ep (ks.map (entF tt)))], nv⟩
theorem Nexts_N (h : GrR P) (l : List EdgeT) (n : Nat) (hl : l.length < 65536) {L : List (Option (Nat × Obj))} {nv : Nat} {K : V → St → Prop}
    (hk : ∀ nv', K (.fn (.func n_slices_Values_uint64_uint64_1) [] [.ptr L.length nv' 0 0]) ⟨L ++ [some (nv', .mem 1 [[.sl .unk 1 ((nextsS l n).map cN) []]])], nv' + 1⟩) :
    ACalls P n_graph_nexts [.sl .unk 2 (l.map cEd) [], .int .u64 n] ⟨L, nv⟩ K := by
  refine A_graph_nexts h.nexts ?_
  unfold F_graph_nexts
  simp
  refine ⟨NextI l n nv L, ⟨l.length, GhostV.refl ⟨0, nv + 1, nv + 2, [], by simp, by simp, by simp, by simp, by simp⟩⟩, ?_⟩
  rintro k1 v st ⟨j, ep, nv2, ks, rfl, hj, rfl, hks, rfl⟩
  by_cases hlt : j < l.length
  · have hstep := foldl_snoc (f := nextKStep n) (b := []) hlt
    rw [hks] at hstep
    simp [hlt]
    by_cases h1 : l[j].f = n
    · simp only [nextKStep, h1, if_true] at hstep
      simp [h1]
      by_cases h2 : l[j].t ∈ ks
      · obtain ⟨i, ⟨hi, hx⟩, hm⟩ := mk_some (f := tt) h2
        simp only [addK, h2, if_true] at hstep
        have hset := ent_set (f := tt) hi
        rw [hx] at hset
        simp [hm, hset]
        exact ⟨l.length - (j + 1), by omega, GhostV.keepN (N := [_]) ⟨j + 1, ep, nv2 + 1, ks, rfl, by omega, by rw [wadd1 (by omega)], hstep, rfl⟩⟩
      · simp only [addK, h2, if_false] at hstep
        simp [mk_none h2]
        exact ⟨l.length - (j + 1), by omega, GhostV.keepN (N := [_]) ⟨j + 1, nv2 + 1, nv2 + 1 + 1, ks ++ [l[j].t], rfl, by omega, by rw [wadd1 (by omega)], hstep, by simp [entF]⟩⟩
    · simp [nextKStep, h1] at hstep
      simp [h1]
      exact ⟨l.length - (j + 1), by omega, GhostV.keepN (N := [_]) ⟨j + 1, ep, nv2 + 1, ks, rfl, by omega, by rw [wadd1 (by omega)], hstep, rfl⟩⟩
  · simp [hlt]
    rw [List.take_of_length_le (by omega)] at hks
    have e : ks = nextK l n := hks.symm
    subst e
    refine inv_f0 (rising_bool h.toRising_boolR (nextK l n) tt (ep := ep) (nextK_nodup l n) (by have := nextK_len l n; omega) (by simp) ?_)
    intro nv'
    simp
    refine inv_f0 ?_
    have hv := Values_N h.toIterR (sortL (nextK l n)) (L := L) (nv := nv') (K := fun v st => GhostV [v] st fun vs st => K (mkres vs) st) (GhostV.refl (by simpa [nextsS] using hk nv'))
    exact ACalls.gv hv.1 (GhostV.keep hv)
end Go.Proofs.Ythoaclojobgelaa.AM

namespace Go.Proofs.Ythoaclojobgelaa.AM
open Go
set_option linter.unusedVariables false
set_option linter.unusedSimpArgs false
variable {P : Program}

structure FS where
  ks : List Nat
  d : Nat → Nat
  nx : List Nat
def stepF (s : Nat) (a : FS) (m : Nat) : FS := if m ∈ a.ks then a else ⟨a.ks ++ [m], fun x => if x = m then s else a.d x, a.nx ++ [m]⟩
def inF (l : List EdgeT) (s : Nat) (a : FS) (n : Nat) : FS := (nextsS l n).foldl (stepF s) a
def levelF (l : List EdgeT) (s : Nat) (near : List Nat) (a : FS) : FS := near.foldl (inF l s) a
def goF (l : List EdgeT) : Nat → Nat → FS → FS
  | 0, _, a => a
  | f + 1, s, a => if (levelF l s a.nx ⟨a.ks, a.d, []⟩).nx = [] then levelF l s a.nx ⟨a.ks, a.d, []⟩ else goF l f (s + 1) (levelF l s a.nx ⟨a.ks, a.d, []⟩)
def farF (l : List EdgeT) (a : Nat) : FS := goF l 66 1 ⟨[], fun _ => 0, [a]⟩

/-- What has been met so far. -/
structure OutOk (l : List EdgeT) (a : FS) : Prop where
  nd : a.ks.Nodup
  sub : ∀ k ∈ a.ks, ∃ e ∈ l, e.t = k
theorem OutOk.len {l : List EdgeT} {a : FS} (h : OutOk l a) : a.ks.length ≤ l.length := by
  have := sub_len h.nd (b := l.map (·.t)) (fun x hx => by obtain ⟨e, he, rfl⟩ := h.sub x hx; exact List.mem_map.2 ⟨e, he, rfl⟩)
  simpa using this
theorem OutOk.step {l : List EdgeT} {a : FS} (h : OutOk l a) (s : Nat) {m : Nat} (hm : ∃ e ∈ l, e.t = m) : OutOk l (stepF s a m) := by
  unfold stepF; split
  · exact h
  · rename_i hx
    exact ⟨List.nodup_append.2 ⟨h.nd, by simp, fun a ha b hb => by rintro rfl; simp at hb; subst hb; exact hx ha⟩, fun k hk => by
      rcases List.mem_append.1 hk with hk | hk
      · exact h.sub k hk
      · rw [List.mem_singleton.1 hk]; exact hm⟩
theorem OutOk.fold {l : List EdgeT} (s : Nat) : ∀ (ms : List Nat) {a : FS}, OutOk l a → (∀ m ∈ ms, ∃ e ∈ l, e.t = m) → OutOk l (ms.foldl (stepF s) a)
  | [], a, h, _ => h
  | m :: ms, a, h, hm => OutOk.fold s ms (h.step s (hm m (by simp))) (fun x hx => hm x (by simp [hx]))
theorem OutOk.inF {l : List EdgeT} {a : FS} (h : OutOk l a) (s n : Nat) : OutOk l (inF l s a n) := OutOk.fold s _ h (fun m hm => by obtain ⟨e, he, _, rfl⟩ := (nextsS_mem l n m).1 hm; exact ⟨e, he, rfl⟩)
theorem OutOk.lev {l : List EdgeT} (s : Nat) : ∀ (near : List Nat) {a : FS}, OutOk l a → OutOk l (levelF l s near a)
  | [], a, h => h
  | n :: near, a, h => OutOk.lev s near (h.inF s n)
/-- How many are new. -/
theorem stepF_grow (s : Nat) (a : FS) (m : Nat) : (stepF s a m).ks.length = a.ks.length + ((stepF s a m).nx.length - a.nx.length) ∧ a.nx.length ≤ (stepF s a m).nx.length := by
  unfold stepF; split <;> simp
theorem foldF_grow (s : Nat) : ∀ (ms : List Nat) (a : FS), (ms.foldl (stepF s) a).ks.length = a.ks.length + ((ms.foldl (stepF s) a).nx.length - a.nx.length) ∧ a.nx.length ≤ (ms.foldl (stepF s) a).nx.length
  | [], a => by simp
  | m :: ms, a => by
    have h1 := stepF_grow s a m
    have h2 := foldF_grow s ms (stepF s a m)
    simp only [List.foldl_cons]; omega
theorem levF_grow (l : List EdgeT) (s : Nat) : ∀ (ms : List Nat) (a : FS), (levelF l s ms a).ks.length = a.ks.length + ((levelF l s ms a).nx.length - a.nx.length) ∧ a.nx.length ≤ (levelF l s ms a).nx.length
  | [], a => by simp [levelF]
  | m :: ms, a => by
    have h1 := foldF_grow s (nextsS l m) a
    have h2 := levF_grow l s ms (inF l s a m)
    simp only [levelF, List.foldl_cons] at *; unfold inF at *; omega

def dI (d : Nat → Nat) : Nat → V := fun m => .int .i64 ((d m : Nat) : Int)
theorem ent_step {ks : List Nat} {d : Nat → Nat} {m s : Nat} (h : m ∉ ks) : ks.map (entF (dI d)) ++ [(.int .u64 (m : Int), .int .i64 (s : Int))] = (ks ++ [m]).map (entF (dI fun x => if x = m then s else d x)) := by
  rw [List.map_append]
  congr 1
  · apply List.map_congr_left
    intro x hx
    have : x ≠ m := by rintro rfl; exact h hx
    simp [entF, dI, this]
  · simp [entF, dI]

/-- The objects of the walk: the map, its box, the box of the steps. -/
structure FarA (L : List (Option (Nat × Obj))) (i0 mv bv q sv N s ep : Nat) (a : FS) (A : List (Option (Nat × Obj))) : Prop where
  il : L.length = i0
  len : A.length = N
  pre : A.take i0 = L
  m : A[i0]? = some (some (mv, .map ep (a.ks.map (entF (dI a.d)))))
  b5 : A[i0 + 1]? = some (some (bv, .mem 1 [[.map i0 mv]]))
  qi : q ≠ i0
  b7 : A[q]? = some (some (sv, .mem 1 [[.int .i64 ((s : Nat) : Int)]]))
theorem getA {A R : List (Option (Nat × Obj))} {i : Nat} {x : Option (Nat × Obj)} (h : A[i]? = some x) : (A ++ R)[i]? = some x := by
  rw [List.getElem?_append_left (List.getElem?_eq_some_iff.1 h).1]; exact h
theorem setA {A R : List (Option (Nat × Obj))} {i : Nat} {x y : Option (Nat × Obj)} (h : A[i]? = some x) : (A ++ R).set i y = A.set i y ++ R := List.set_append_left _ _ (List.getElem?_eq_some_iff.1 h).1
theorem apN {A R : List (Option (Nat × Obj))} {N k : Nat} (h : A.length = N) : (A ++ R)[N + k]? = R[k]? := by subst h; simp
theorem apN0 {A R : List (Option (Nat × Obj))} {N : Nat} (h : A.length = N) : (A ++ R)[N]? = R[0]? := by subst h; simp
theorem spN {A R : List (Option (Nat × Obj))} {N k : Nat} {x : Option (Nat × Obj)} (h : A.length = N) : (A ++ R).set (N + k) x = A ++ R.set k x := by subst h; simp
theorem spN0 {A R : List (Option (Nat × Obj))} {N : Nat} {x : Option (Nat × Obj)} (h : A.length = N) : (A ++ R).set N x = A ++ R.set 0 x := by subst h; simp
theorem FarA.upd {L A : List (Option (Nat × Obj))} {i0 mv bv q sv N s ep ep' : Nat} {a a' : FS} (h : FarA L i0 mv bv q sv N s ep a A) : FarA L i0 mv bv q sv N s ep' a' (A.set i0 (some (mv, .map ep' (a'.ks.map (entF (dI a'.d)))))) where
  il := h.il
  len := by simp [h.len]
  pre := by rw [List.take_set_of_le (Nat.le_refl _)]; exact h.pre
  m := by rw [List.getElem?_set_self (List.getElem?_eq_some_iff.1 h.m).1]
  b5 := by rw [List.getElem?_set_ne (by omega)]; exact h.b5
  qi := h.qi
  b7 := by rw [List.getElem?_set_ne (Ne.symm h.qi)]; exact h.b7
/-- What the loop's body keeps. -/
def FarJ (L : List (Option (Nat × Obj))) (i0 mv bv q sv N s xv : Nat) (a0 : FS) (Y : List (Option (Nat × Obj))) (ys : List Nat) (L' : List (Option (Nat × Obj))) : Prop :=
  ∃ A ep va a, FarA L i0 mv bv q sv N s ep a A ∧ ys.foldl (stepF s) a0 = a ∧ L' = A ++ (some (xv, .mem 1 [[.msl (N + 1) va 0 a.nx.length]]) :: some (va, .mem 1 (a.nx.map cN)) :: Y)
def Far2 (l : List EdgeT) (L : List (Option (Nat × Obj))) (i0 mv bv q sv N s xv : Nat) (near : List Nat) (a0 : FS) (k : Nat) (v : V) (st : St) : Prop :=
  ∃ j A ep va a nv, k = near.length - j ∧ j ≤ near.length ∧ v = .int .i64 ((j : Nat) : Int) ∧ FarA L i0 mv bv q sv N s ep a A ∧ (near.take j).foldl (inF l s) a0 = a ∧ st = ⟨A ++ [some (xv, .mem 1 [[.msl (N + 1) va 0 a.nx.length]]), some (va, .mem 1 (a.nx.map cN))], nv⟩
def Far1 (l : List EdgeT) (from' : Nat) (L : List (Option (Nat × Obj))) (i0 mv bv : Nat) (k : Nat) (v6 v7 : V) (st : St) : Prop :=
  ∃ q sv s ep a A N nv, k = 66 - s ∧ s ≤ a.ks.length + 1 ∧ OutOk l a ∧ a.nx.length ≤ 100 ∧ v6 = .sl .unk 1 (a.nx.map cN) [] ∧ v7 = .ptr q sv 0 0 ∧ FarA L i0 mv bv q sv N s ep a A ∧ goF l (67 - s) s a = farF l from' ∧ st = ⟨A, nv⟩

theorem Far_N (h : GrR P) (l : List EdgeT) (n : Nat) (hl : l.length ≤ 64) {L : List (Option (Nat × Obj))} {nv : Nat} {K : V → St → Prop}
    (hk : ∀ mv ep nv', K (.map L.length mv) ⟨L ++ [some (mv, .map ep ((farF l n).ks.map (entF (dI (farF l n).d))))], nv'⟩) :
    ACalls P n_graph_far [.sl .unk 2 (l.map cEd) [], .int .u64 n] ⟨L, nv⟩ K := by
  refine A_graph_far h.gfar ?_
  unfold F_graph_far
  simp
  refine ⟨Far1 l n L L.length nv (nv + 2), ⟨65, GhostV.rowx (id := L.length + 2) (sz := 1) (es := [[.int .u64 n]]) (by simp) (by simp) ⟨L.length + 3, _, 1, nv + 1, ⟨[], fun _ => 0, [n]⟩, _, _, _, rfl, by simp, ⟨by simp, by simp⟩, by simp, by simp, rfl, ⟨rfl, rfl, by simp, by simp, by simp, by omega, by simp⟩, rfl, rfl⟩⟩, ?_⟩
  rintro k v6 v7 st ⟨q, sv, s, ep, a, A, N, nv1, rfl, hs, hok, hnx, rfl, rfl, hA, hfin, rfl⟩
  have hlen := hA.len
  simp [hlen]
  have hA0 : FarA L L.length nv (nv + 2) q sv N s ep ⟨a.ks, a.d, []⟩ A := ⟨hA.il, hA.len, hA.pre, hA.m, hA.b5, hA.qi, hA.b7⟩
  refine ⟨Far2 l L L.length nv (nv + 2) q sv N s nv1 a.nx ⟨a.ks, a.d, []⟩, ⟨a.nx.length, GhostV.ghost (ghost_nilbox (j := N) (ver := nv1) (s := 0) (sz := 1) (by decide) (by rw [apN0 hlen]; rfl)) ⟨0, A, ep, nv1 + 1, ⟨a.ks, a.d, []⟩, _, by simp, by simp, by simp, hA0, by simp, by simp [spN0 hlen, hlen]; rfl⟩⟩, ?_⟩
  rintro k2 v21 st ⟨j, A, ep, va, a1, nv2, rfl, hj, rfl, hA, hfold, rfl⟩
  have hlen := hA.len
  have hok1 : OutOk l a1 := by rw [← hfold]; exact OutOk.lev s (a.nx.take j) ⟨hok.nd, hok.sub⟩
  have hg1 : a1.ks.length = a.ks.length + (a1.nx.length - 0) ∧ 0 ≤ a1.nx.length := by rw [← hfold]; exact levF_grow l s (a.nx.take j) ⟨a.ks, a.d, []⟩
  by_cases hlt : j < a.nx.length
  · have hstep := foldl_snoc (f := inF l s) (b := ⟨a.ks, a.d, []⟩) hlt
    rw [hfold] at hstep
    simp [hlt]
    refine inv_f0 (Nexts_N h l a.nx[j] (by omega) ?_)
    intro nv3
    intro LP HY
    have eN : N + (0 + 1 + 1) + (0 + 1) = N + 3 := rfl
    simp only [List.length_append, List.length_cons, List.length_nil, hlen, eN] at HY
    have hb3 := nextsS_len l a.nx[j]
    simp only [St.push, List.length_append, List.length_cons, List.length_nil, hlen, eN]
    refine values_iter h.toRising_boolR.toIterR (nextsS l a.nx[j]) (by omega) _ (N + 4) (FarJ L L.length nv (nv + 2) q sv N s nv1 a1 [some (nv3, .mem 1 [[.sl .unk 1 ((nextsS l a.nx[j]).map cN) []]]), some (nv3 + 1, LP .ready)]) (fun _ _ => False) _ _ _ ?_ (fun _ _ h => h.elim) ?_ ?_ ?_ (fun _ _ _ h => h.elim)
    · rintro ys L' ⟨A, ep, va, a, hA, hf, rfl⟩
      exact ⟨by simp [hA.len], by dsimp only; rw [apN hA.len]; rfl⟩
    · rintro ys x L' G nv4 ⟨K'⟩ ⟨A', ep', va', a', hA', hf', rfl⟩ ⟨rest, hd⟩ h1 _
      have f1 : ∀ R, (A' ++ R)[L.length]? = _ := fun R => getA hA'.m
      have f2 : ∀ R, (A' ++ R)[L.length + 1]? = _ := fun R => getA hA'.b5
      have f3 : ∀ R, (A' ++ R)[q]? = _ := fun R => getA hA'.b7
      have f4 : ∀ R k, (A' ++ R)[N + k]? = R[k]? := fun R k => apN hA'.len
      have f5 : ∀ R, (A' ++ R)[N]? = R[0]? := fun R => apN0 hA'.len
      have f6 : ∀ R x, (A' ++ R).set L.length x = A'.set L.length x ++ R := fun R x => setA hA'.m
      have f7 : ∀ R k x, (A' ++ R).set (N + k) x = A' ++ R.set k x := fun R k x => spN hA'.len
      have f8 : ∀ R x, (A' ++ R).set N x = A' ++ R.set 0 x := fun R x => spN0 hA'.len
      have g4 : ∀ y R k, (A'.set L.length y ++ R)[N + k]? = R[k]? := fun y R k => apN (by simpa using hA'.len)
      have g5 : ∀ y R, (A'.set L.length y ++ R)[N]? = R[0]? := fun y R => apN0 (by simpa using hA'.len)
      have g7 : ∀ y R k x, (A'.set L.length y ++ R).set (N + k) x = A'.set L.length y ++ R.set k x := fun y R k x => spN (by simpa using hA'.len)
      have g8 : ∀ y R x, (A'.set L.length y ++ R).set N x = A'.set L.length y ++ R.set 0 x := fun y R x => spN0 (by simpa using hA'.len)
      have hsn : (ys ++ [x]).foldl (stepF s) a1 = stepF s a' x := by rw [List.foldl_append, hf']; rfl
      refine HY ⟨(A' ++ (some (nv1, .mem 1 [[.msl (N + 1) va' 0 a'.nx.length]]) :: some (va', .mem 1 (a'.nx.map cN)) :: [some (nv3, .mem 1 [[.sl .unk 1 ((nextsS l a.nx[j]).map cN) []]]), some (nv3 + 1, LP .ready)])) ++ G, nv4⟩ K' (.int .u64 x) (by simp [f4]) ?_
      refine ⟨by simp [f4], ?_⟩
      by_cases hx : x ∈ a'.ks
      · obtain ⟨i, _, hm⟩ := mk_some (f := dI a'.d) hx
        simp [f1, f2, f3, f4, f5, f6, f7, f8, g4, g5, g7, g8, hm, hlen]
        have key := h1 _ [] nv4 ⟨A', ep', va', a', hA', by rw [hsn]; simp [stepF, hx], rfl⟩
        simpa using key
      · have hok' : OutOk l a' := by
          rw [← hf']
          exact OutOk.fold s ys hok1 (fun m hm => by
            have : m ∈ nextsS l a.nx[j] := by rw [← hd]; simp [hm]
            obtain ⟨e, he, _, ht⟩ := (nextsS_mem l _ m).1 this
            exact ⟨e, he, ht⟩)
        have hg' := foldF_grow s ys a1
        rw [hf'] at hg'
        have hl' := hok'.len
        simp [f1, f2, f3, f4, f5, f6, f7, f8, g4, g5, g7, g8, mk_none hx, hlen]
        have hst : stepF s a' x = ⟨a'.ks ++ [x], fun y => if y = x then s else a'.d y, a'.nx ++ [x]⟩ := by simp [stepF, hx]
        have hup := hA'.upd (a' := ⟨a'.ks ++ [x], fun y => if y = x then s else a'.d y, a'.nx ++ [x]⟩) (ep' := nv4)
        have key := h1 _ [some (nv4 + 1, .mem 1 [[.int .u64 x]])] (nv4 + 1 + 1 + 1) ⟨_, nv4, nv4 + 1 + 1, _, hup, by rw [hsn, hst], rfl⟩
        rw [← ent_step hx] at key
        refine ⟨by omega, ?_⟩
        simpa using key
    · exact ⟨A, ep, va, a1, hA, rfl, by simp⟩
    · rintro ys L' nv4 ⟨A', ep', va', a', hA', hf', rfl⟩ rfl
      have f4 : ∀ R k, (A' ++ R)[N + k]? = R[k]? := fun R k => apN hA'.len
      have f7 : ∀ R k x, (A' ++ R).set (N + k) x = A' ++ R.set k x := fun R k x => spN hA'.len
      refine ⟨.ready, by simp [f4], ?_⟩
      simp [hend, f7]
      exact ⟨a.nx.length - (j + 1), by omega, GhostV.keepN (N := [_, _]) ⟨j + 1, A', ep', va', a', nv4, rfl, by omega, by rw [wadd1 (by omega)], hA', by rw [hstep]; exact hf', rfl⟩⟩
  · have hjn : j = a.nx.length := by omega
    subst hjn
    rw [List.take_length] at hfold
    have hfold : levelF l s a.nx ⟨a.ks, a.d, []⟩ = a1 := hfold
    have hl1 := hok1.len
    have hs2 : 67 - s = (66 - s) + 1 := by have := hok.len; omega
    rw [hs2, goF, hfold] at hfin
    have f1 : ∀ R, (A ++ R)[L.length]? = _ := fun R => getA hA.m
    have f2 : ∀ R, (A ++ R)[L.length + 1]? = _ := fun R => getA hA.b5
    have f3 : ∀ R, (A ++ R)[q]? = _ := fun R => getA hA.b7
    have f4 : ∀ R k, (A ++ R)[N + k]? = R[k]? := fun R k => apN hA.len
    have f5 : ∀ R, (A ++ R)[N]? = R[0]? := fun R => apN0 hA.len
    have f7 : ∀ R k x, (A ++ R).set (N + k) x = A ++ R.set k x := fun R k x => spN hA.len
    by_cases hz : a1.nx = []
    · simp [hz] at hfin
      simp [f1, f2, f3, f4, f5, f7, hlen, hz]
      have htk : A.take (L.length + 1) = L ++ [some (nv, .map ep (a1.ks.map (entF (dI a1.d))))] := by
        have hm := hA.m
        obtain ⟨hi, hm⟩ := List.getElem?_eq_some_iff.1 hm
        rw [List.take_succ_eq_append_getElem hi, hA.pre, hm]
      refine GhostV.take (L.length + 1) ?_
      rw [List.take_append_of_le_length (by have := (List.getElem?_eq_some_iff.1 hA.m).1; omega), htk, hfin]
      simpa using hk nv ep nv2
    · have hz2 : ¬ a1.nx.length = 0 := by simpa using hz
      simp [hz] at hfin
      have hws : IntKind.i64.wrap ((s : Int) + 1) = ((s + 1 : Nat) : Int) := wadd1 (by omega)
      simp [f1, f2, f3, f4, f5, f7, hlen, hz, hws]
      have hi0 := (List.getElem?_eq_some_iff.1 hA.m).1
      have hp : 0 < a1.nx.length := by omega
      refine ⟨66 - (s + 1), by omega, GhostV.rowx (id := N + 1) (sz := 1) (es := a1.nx.map cN) (by simp [f4]) (by simp) ?_⟩
      refine ⟨N + 2, nv2, s + 1, ep, a1, A ++ [some (nv1, .mem 1 [[.msl (N + 1) va 0 a1.nx.length]]), none, some (nv2, .mem 1 [[.int .i64 ((s + 1 : Nat) : Int)]])], N + 3, nv2 + 1, rfl, by omega, hok1, by omega, by simp, rfl, ?_, by rw [show 67 - (s + 1) = 66 - s by omega]; exact hfin, by simp [f7]⟩
      exact ⟨rfl, by simp [hlen], by rw [List.take_append_of_le_length (by omega)]; exact hA.pre, getA hA.m, getA hA.b5, by omega, by rw [f4]; rfl⟩
end Go.Proofs.Ythoaclojobgelaa.AM

namespace Go.Proofs.Ythoaclojobgelaa.AM
open Go
set_option linter.unusedVariables false
set_option linter.unusedSimpArgs false
variable {P : Program}

structure GrR2 (P : Program) : Prop extends GrR P where
  gon : R_graph_On P
  greach : R_graph_Reach P
  gwo : R_graph_Without P
  gwo1 : R_graph_Without_1 P
  del : R_slices_DeleteFunc_Edge_Edge P
  clone : R_slices_Clone_Edge_Edge P

theorem wrong_len {l : List EdgeT} (h : wrongS l = 0) : l.length ≤ 64 := by
  unfold wrongS at h
  by_cases h1 : 64 < l.length
  · simp [h1] at h
  · omega
theorem farF_ok (l : List EdgeT) : ∀ f s a, OutOk l a → OutOk l (goF l f s a)
  | 0, s, a, h => h
  | f + 1, s, a, h => by
    have h2 : OutOk l (levelF l s a.nx ⟨a.ks, a.d, []⟩) := OutOk.lev s a.nx ⟨h.nd, h.sub⟩
    unfold goF; split
    · exact h2
    · exact farF_ok l f (s + 1) _ h2
theorem farF_out (l : List EdgeT) (n : Nat) : OutOk l (farF l n) := farF_ok l _ _ _ ⟨List.nodup_nil, fun k hk => by cases hk⟩

theorem gRings (h : GrR P) (l : List EdgeT) (n : Nat) (hl : l.length ≤ 64) : PCalls P n_graph_rings [.sl .unk 2 (l.map cEd) [], .int .u64 n] (fun r => r = .bool (decide (n ∈ (farF l n).ks))) := by
  refine A_graph_rings h.rings ?_
  unfold F_graph_rings
  simp [st0]
  refine inv_f0 (Far_N h l n hl ?_)
  intro mv ep nv'
  by_cases hm : n ∈ (farF l n).ks
  · obtain ⟨j, _, hj⟩ := mk_some (f := dI (farF l n).d) hm
    simp [hj]
    exact GhostV.refl ⟨rfl, by simp [hm]⟩
  · simp [mk_none hm]
    exact GhostV.refl ⟨rfl, by simp [hm]⟩

def reachG (l : List EdgeT) (a : Nat) : List Nat := if wrongS l = 0 then sortL (farF l a).ks else []
theorem gReach (h : GrR2 P) (l : List EdgeT) (n : Nat) (hl : l.length < 2 ^ 40) : PCalls P n_graph_Reach [.sl .unk 2 (l.map cEd) [], .int .u64 n] (fun r => r = .tup [.sl .unk 1 ((reachG l n).map cN) [], .int .i64 (wrongS l)]) := by
  refine A_graph_Reach h.greach ?_
  unfold F_graph_Reach
  simp [st0]
  refine inv_p (gCheck h.toGrR l hl) (by simp) (by simp [pureL, pureLL]) ?_
  rintro _ rfl
  by_cases hw : wrongS l = 0
  · simp [hw]
    refine inv_f0 (Far_N h.toGrR l n (wrong_len hw) ?_)
    intro mv ep nv'
    simp
    refine inv_f0 (rising_int h.toRising_intR (farF l n).ks (dI (farF l n).d) (L := [some (mv, .map ep ((farF l n).ks.map (entF (dI (farF l n).d))))]) (id := 0) (ver := mv) (ep := ep) (farF_out l n).nd (by have := (farF_out l n).len; have := wrong_len hw; omega) rfl ?_)
    intro nv2
    exact GhostV.refl ⟨by simp [pureL, pureLL], by simp [reachG, hw]⟩
  · simp [hw]
    exact GhostV.le (LeVs.nilrow (sz := 1)) ⟨by simp [pureL, pureLL], by simp [reachG, hw]⟩

/-! ### On -/
def onKStep (l : List EdgeT) (ks : List Nat) (e : EdgeT) : List Nat := if e.f ∈ (farF l e.f).ks then addK ks e.f else ks
def onK (l : List EdgeT) : List Nat := l.foldl (onKStep l) []
def onG (l : List EdgeT) : List Nat := if wrongS l = 0 then sortL (onK l) else []
theorem onK_fold (l : List EdgeT) : ∀ (m : List EdgeT) (ks : List Nat), ks.Nodup → (m.foldl (onKStep l) ks).Nodup ∧ ∀ x, x ∈ m.foldl (onKStep l) ks ↔ x ∈ ks ∨ ∃ e ∈ m, e.f = x ∧ x ∈ (farF l x).ks
  | [], ks, h => by simp [h]
  | e :: m, ks, h => by
    have hn : (onKStep l ks e).Nodup := by unfold onKStep; split; exact addK_nodup h _; exact h
    obtain ⟨h1, h2⟩ := onK_fold l m _ hn
    refine ⟨h1, fun x => ?_⟩
    rw [List.foldl_cons, h2]
    have : x ∈ onKStep l ks e ↔ x ∈ ks ∨ (e.f = x ∧ x ∈ (farF l x).ks) := by
      unfold onKStep addK
      by_cases h1 : e.f ∈ (farF l e.f).ks
      · by_cases h2 : e.f ∈ ks
        · simp [h1, h2]; rintro rfl _; exact h2
        · simp [h1, h2]
          constructor
          · rintro (a | rfl)
            · exact .inl a
            · exact .inr ⟨rfl, h1⟩
          · rintro (a | ⟨rfl, _⟩)
            · exact .inl a
            · exact .inr rfl
      · simp [h1]
        rintro rfl hx; exact absurd hx h1
    rw [this]
    constructor
    · rintro ((a | a) | ⟨e', a, b⟩)
      · exact .inl a
      · exact .inr ⟨e, by simp, a⟩
      · exact .inr ⟨e', by simp [a], b⟩
    · rintro (a | ⟨e', a, b⟩)
      · exact .inl (.inl a)
      · rcases List.mem_cons.1 a with rfl | a
        · exact .inl (.inr b)
        · exact .inr ⟨e', a, b⟩
theorem onK_nodup (l : List EdgeT) : (onK l).Nodup := (onK_fold l l [] List.nodup_nil).1
theorem onK_mem (l : List EdgeT) (x : Nat) : x ∈ onK l ↔ (∃ e ∈ l, e.f = x) ∧ x ∈ (farF l x).ks := by
  have := (onK_fold l l [] List.nodup_nil).2 x
  unfold onK
  rw [this]
  simp
  constructor
  · rintro ⟨e, h1, h2, h3⟩; exact ⟨⟨e, h1, h2⟩, h3⟩
  · rintro ⟨⟨e, h1, h2⟩, h3⟩; exact ⟨e, h1, h2, h3⟩
theorem onK_len (l : List EdgeT) : (onK l).length ≤ l.length := by
  have := sub_len (onK_nodup l) (b := l.map (·.f)) (fun x hx => by obtain ⟨⟨e, he, rfl⟩, _⟩ := (onK_mem l x).1 hx; exact List.mem_map.2 ⟨e, he, rfl⟩)
  simpa using this
def OnI (l : List EdgeT) (mv : Nat) (k : Nat) (v : V) (st : St) : Prop := ∃ j ep nv ks, k = l.length - j ∧ j ≤ l.length ∧ v = .int .i64 ((j : Nat) : Int) ∧ (l.take j).foldl (onKStep l) [] = ks ∧ st = ⟨[some (mv, .map ep (ks.map (entF tt)))], nv⟩
theorem gOn (h : GrR2 P) (l : List EdgeT) (hl : l.length < 2 ^ 40) : PCalls P n_graph_On [.sl .unk 2 (l.map cEd) []] (fun r => r = .tup [.sl .unk 1 ((onG l).map cN) [], .int .i64 (wrongS l)]) := by
  refine A_graph_On h.gon ?_
  unfold F_graph_On
  simp [st0]
  refine inv_p (gCheck h.toGrR l hl) (by simp) (by simp [pureL, pureLL]) ?_
  rintro _ rfl
  by_cases hw : wrongS l = 0
  · have hl := wrong_len hw
    simp [hw]
    refine ⟨OnI l 0, ⟨l.length, GhostV.refl ⟨0, 1, 2, [], by simp, by simp, by simp, by simp, by simp⟩⟩, ?_⟩
    rintro k1 v st ⟨j, ep, nv2, ks, rfl, hj, rfl, hks, rfl⟩
    by_cases hlt : j < l.length
    · have hstep := foldl_snoc (f := onKStep l) (b := []) hlt
      rw [hks] at hstep
      simp [hlt]
      refine inv_p (gRings h.toGrR l l[j].f hl) (by simp) (by simp [pureL, pureLL]) ?_
      rintro _ rfl
      by_cases h1 : l[j].f ∈ (farF l l[j].f).ks
      · simp only [onKStep, h1, if_true] at hstep
        simp [h1]
        by_cases h2 : l[j].f ∈ ks
        · obtain ⟨i, ⟨hi, hx⟩, hm⟩ := mk_some (f := tt) h2
          simp only [addK, h2, if_true] at hstep
          have hset := ent_set (f := tt) hi
          rw [hx] at hset
          simp [hm, hset]
          exact ⟨l.length - (j + 1), by omega, GhostV.keep (L := [_]) ⟨j + 1, ep, nv2 + 1, ks, rfl, by omega, by rw [wadd1 (by omega)], hstep, rfl⟩⟩
        · simp only [addK, h2, if_false] at hstep
          simp [mk_none h2]
          exact ⟨l.length - (j + 1), by omega, GhostV.keep (L := [_]) ⟨j + 1, nv2 + 1, nv2 + 1 + 1, ks ++ [l[j].f], rfl, by omega, by rw [wadd1 (by omega)], hstep, by simp [entF]⟩⟩
      · simp [onKStep, h1] at hstep
        simp [h1]
        exact ⟨l.length - (j + 1), by omega, GhostV.keep (L := [_]) ⟨j + 1, ep, nv2 + 1, ks, rfl, by omega, by rw [wadd1 (by omega)], hstep, rfl⟩⟩
    · simp [hlt]
      rw [List.take_of_length_le (by omega)] at hks
      have e : ks = onK l := hks.symm
      subst e
      refine inv_f0 (rising_bool h.toRising_boolR (onK l) tt (ep := ep) (onK_nodup l) (by have := onK_len l; omega) (by simp) ?_)
      intro nv'
      exact GhostV.refl ⟨by simp [pureL, pureLL], by simp [onG, hw]⟩
  · simp [hw]
    exact GhostV.le (LeVs.nilrow (sz := 1)) ⟨by simp [pureL, pureLL], by simp [onG, hw]⟩

/-! ### Without -/
theorem gWithout_1 (h : GrR2 P) (e : EdgeT) (n : Nat) : PCalls P n_graph_Without_1 [.agg (cEd e), .eptr [.int .u64 n] 0] (fun r => r = .bool (!(e.f != n && e.t != n))) := by
  refine A_graph_Without_1 h.gwo1 ?_
  unfold F_graph_Without_1
  simp [st0]
  by_cases h1 : e.f = n
  · simp [h1]
    exact GhostV.refl ⟨rfl, by simp [h1]⟩
  · by_cases h2 : e.t = n
    · simp [h1, h2]
      exact GhostV.refl ⟨rfl, by simp [h2]⟩
    · simp [h1, h2]
      exact GhostV.refl ⟨rfl, by simp [h1, h2]⟩
theorem Without_N (h : GrR2 P) (l : List EdgeT) (n : Nat) (hl : l.length < 2 ^ 40) {L : List (Option (Nat × Obj))} {nv : Nat} {K : V → St → Prop}
    (hk1 : ∀ nv', wrongS l ≠ 0 ∨ (wrongS l = 0 ∧ woS l n = []) → K (.tup [.sl .nil 0 [] [], .int .i64 (wrongS l)]) ⟨L, nv'⟩)
    (hk3 : wrongS l = 0 → ∀ nv' va X rows, rows.take (woS l n).length = (woS l n).map cEd → (woS l n).length ≤ rows.length → K (.tup [.msl (L.length + 1) va 0 (woS l n).length, .int .i64 0]) ⟨L ++ [X, some (va, .mem 2 rows)], nv'⟩) :
    ACalls P n_graph_Without [.sl .unk 2 (l.map cEd) [], .int .u64 n] ⟨L, nv⟩ K := by
  refine A_graph_Without h.gwo ?_
  unfold F_graph_Without
  simp
  refine inv_p (gCheck h.toGrR l hl) (by simp) (by simp [pureL, pureLL]) ?_
  rintro _ rfl
  by_cases hw : wrongS l = 0
  · simp [hw]
    have hf : ∀ x, PCalls P n_graph_Without_1 ([.agg (cEd x)] ++ [.eptr [.int .u64 n] 0]) (fun r => r = .bool (!(x.f != n && x.t != n))) := fun x => gWithout_1 h x n
    have hw2 : l.filter (fun x => !!(x.f != n && x.t != n)) = woS l n := by simp [woS]
    refine inv_f0 (Clone_Edge h.clone l hl ?_ ?_)
    · rintro rfl
      simp
      refine inv_f0 (DeleteNil h.idxf h.del (by simp [pureL, pureLL]) hf (Bors.cons (.box1 (by simp [St.get])) Bors.nil) ?_)
      exact GhostV.keep (by simpa [hw] using hk1 (nv + 1) (.inr ⟨hw, by simp [woS]⟩))
    · simp
      refine inv_f0 (DeleteFunc h.idxf h.del (L := L ++ [some (nv, .mem 1 [[.int .u64 n]]), some (nv + 1 + 1, .mem 2 (l.map cEd))]) (cap := [.ptr L.length nv 0 0]) l (by omega) (by simp [pureL, pureLL]) hf (by simp) ?_ ?_)
      · intro L' nv' hL'
        have := hL' L.length (by omega) (by simp)
        exact Bors.cons (.box1 (by simp [St.get, this])) Bors.nil
      · intro nv' rows h1 h2
        rw [hw2] at h1 h2 ⊢
        simp
        exact GhostV.refl (by simpa using hk3 hw nv' _ _ rows h1 h2)
  · simp [hw]
    exact GhostV.keep (by simpa using hk1 _ (.inl hw))
end Go.Proofs.Ythoaclojobgelaa.AM

namespace Go.Proofs.Ythoaclojobgelaa.AM
open Go
set_option linter.unusedVariables false
set_option linter.unusedSimpArgs false
variable {P : Program}

structure GrR3 (P : Program) : Prop extends GrR2 P where
  back : R_slices_Backward_uint64_uint64 P
  back1 : R_slices_Backward_uint64_uint64_1 P
  gvic : R_graph_Victim P

/-! ### slices.Backward -/
def bk (l : List Nat) (k : Nat) : Nat × Nat := (l.length - 1 - k, l.getD (l.length - 1 - k) 0)
def backL (l : List Nat) : List (Nat × Nat) := (List.range l.length).map (bk l)
@[simp] theorem backL_len (l : List Nat) : (backL l).length = l.length := by simp [backL]
theorem backL_snd (l : List Nat) : (backL l).map (·.2) = l.reverse := by
  apply List.ext_getElem (by simp)
  intro i h1 h2
  have hi : i < l.length := by simpa using h2
  have hj : l.length - 1 - i < l.length := by omega
  simp [backL, bk, List.getElem?_eq_getElem hj]
@[simp] def cP (p : Nat × Nat) : List V := [.int .i64 p.1, .int .u64 p.2]
def BackI (l : List Nat) (J : List (Nat × Nat) → List (Option (Nat × Obj)) → Prop) (k : Nat) (v : V) (st : St) : Prop :=
  ∃ i L' nv, k = l.length - i ∧ i ≤ l.length ∧ v = .int .i64 (((l.length - i : Nat) : Int) - 1) ∧ J ((backL l).take i) L' ∧ st = ⟨L', nv⟩
theorem back_iter (h : GrR3 P) (l : List Nat) (hl : l.length < 2 ^ 40) {b bv : Nat} :
    IterC P cP (.fn (.func n_slices_Backward_uint64_uint64_1) [] [.ptr b bv 0 0]) (fun L => L[b]? = some (some (bv, .mem 1 [[.sl .unk 1 (l.map cN) []]]))) (· = backL l) := by
  intro yv N J S L0 nv0 K hJ hS hy h0 hk hks
  refine AInvE_fn (first := []) ?_
  refine A_slices_Backward_uint64_uint64_1 h.back1 ?_
  unfold F_slices_Backward_uint64_uint64_1
  have hbJ : ∀ ys L', J ys L' → L'[b]? = some (some (bv, .mem 1 [[.sl .unk 1 (l.map cN) []]])) := fun ys L' h => (hJ ys L' h).2
  have e1 : IntKind.i64.wrap ((l.length : Int) - 1) = (l.length : Int) - 1 := wrap_i64 (by omega)
  simp [hbJ _ _ h0, e1]
  refine ⟨BackI l J, ⟨l.length, GhostV.refl ⟨0, L0, nv0, rfl, by omega, by simp, by simpa using h0, rfl⟩⟩, ?_⟩
  rintro k v st ⟨i, L', nv, rfl, hi, rfl, hJi, rfl⟩
  by_cases hlt : i < l.length
  · obtain ⟨p, hp⟩ : ∃ p, p = l.length - 1 - i := ⟨_, rfl⟩
    have hpl : p < l.length := by omega
    have e2 : ((l.length - i : Nat) : Int) - 1 = (p : Int) := by omega
    have hb : i < (backL l).length := by simpa using hlt
    have hbi : (backL l)[i] = (p, l[p]) := by simp [backL, bk, ← hp, hpl]
    rw [e2]
    simp [hbJ _ _ hJi, hpl]
    have hx := hy ((backL l).take i) (p, l[p]) L' [] nv
    rw [List.append_nil] at hx
    refine hx _ hJi ⟨(backL l).drop (i + 1), by rw [← hbi, List.getElem_cons_drop]; simp⟩ ?_ ?_
    · intro L'' H nv' hJ'
      simp
      rw [← hbi, ← take_snoc hb] at hJ'
      refine ⟨l.length - (i + 1), by omega, GhostV.keep ⟨i + 1, L'', nv', rfl, by omega, ?_, hJ', rfl⟩⟩
      rw [wrap_i64 (by omega)]; congr 1; omega
    · intro L'' H nv' hS'
      simp
      exact GhostV.keep (hks _ _ _ hS')
  · have e3 : l.length - i = 0 := by omega
    rw [e3]
    simp
    have e : (backL l).take i = backL l := List.take_of_length_le (by simp; omega)
    rw [e] at hJi
    exact GhostV.refl (hk _ _ _ hJi rfl)

/-! ### Victim -/
def vicG (l : List EdgeT) (order : List Nat) : Nat × Bool := if wrongS l = 0 then vicS (fun x => decide (x ∈ (farF l x).ks)) order else (0, false)
theorem gVictim (h : GrR3 P) (l : List EdgeT) (order : List Nat) (hl : l.length < 2 ^ 40) (ho : order.length < 2 ^ 40) : PCalls P n_graph_Victim [.sl .unk 2 (l.map cEd) [], .sl .unk 1 (order.map cN) []] (fun r => r = .tup [.int .u64 (vicG l order).1, .bool (vicG l order).2, .int .i64 (wrongS l)]) := by
  refine A_graph_Victim h.gvic ?_
  unfold F_graph_Victim
  simp [st0]
  refine inv_p (gCheck h.toGrR l hl) (by simp) (by simp [pureL, pureLL]) ?_
  rintro _ rfl
  by_cases hw : wrongS l = 0
  · have hl := wrong_len hw
    simp [hw]
    refine inv_f0 (A_slices_Backward_uint64_uint64 h.back ?_)
    unfold F_slices_Backward_uint64_uint64
    simp
    refine GhostV.refl ?_
    intro LP HY
    simp only [List.length_append, List.length_cons, List.length_nil, Nat.zero_add, Nat.reduceAdd] at HY
    simp
    refine back_iter h order ho _ 6 (fun ys L' => (∀ y ∈ ys, y.2 ∉ (farF l y.2).ks) ∧ L' = [some (0, .mem 1 [[.sl .unk 2 (l.map cEd) []]]), some (1, .mem 1 [[.int .u64 0]]), some (2, .mem 1 [[.bool false]]), some (3, .mem 1 [[.int .i64 0]]), some (4, .mem 1 [[.sl .unk 1 (order.map cN) []]]), some (5, LP .ready)])
      (fun ys L' => ∃ x : Nat, vicG l order = (x, true) ∧ L' = [some (0, .mem 1 [[.sl .unk 2 (l.map cEd) []]]), some (1, .mem 1 [[.int .u64 (x : Int)]]), some (2, .mem 1 [[.bool true]]), some (3, .mem 1 [[.int .i64 0]]), some (4, .mem 1 [[.sl .unk 1 (order.map cN) []]]), some (5, LP (.done .ret))]) _ _ _ ?_ ?_ ?_ ?_ ?_ ?_
    · rintro ys L' ⟨_, rfl⟩
      exact ⟨rfl, rfl⟩
    · rintro ys L' ⟨x, _, rfl⟩
      rfl
    · rintro ys ⟨i, x⟩ L' G nv4 ⟨K'⟩ ⟨hno, rfl⟩ ⟨rest, hd⟩ h1 h2
      refine HY ⟨_, nv4⟩ K' (.int .i64 i) (.int .u64 x) (by simp) ?_
      refine ⟨by simp, ?_⟩
      simp
      refine inv_p (gRings h.toGrR l x hl) (by simp) (by simp [pureL, pureLL]) ?_
      rintro _ rfl
      by_cases hx : x ∈ (farF l x).ks
      · simp [hx]
        have key := h2 _ [] nv4 ⟨x, ?_, rfl⟩
        · simpa using key
        · have hr : order.reverse = ys.map (·.2) ++ x :: rest.map (·.2) := by rw [← backL_snd, ← hd]; simp
          have hn : (ys.map (·.2)).find? (fun x => decide (x ∈ (farF l x).ks)) = none := by
            rw [List.find?_eq_none]
            intro z hz
            obtain ⟨y, hy, rfl⟩ := List.mem_map.1 hz
            simpa using hno y hy
          simp [vicG, hw, vicS, hr, hn, hx]
      · simp [hx]
        have key := h1 _ [] nv4 ⟨fun y hy => ?_, rfl⟩
        · simpa using key
        · rcases List.mem_append.1 hy with hy | hy
          · exact hno y hy
          · rw [List.mem_singleton.1 hy]; exact hx
    · exact ⟨by simp, by simp⟩
    · rintro ys L' nv4 ⟨hno, rfl⟩ rfl
      refine ⟨.ready, by simp, ?_⟩
      simp [hend]
      have hn : vicG l order = (0, false) := by
        have : order.reverse.find? (fun x => decide (x ∈ (farF l x).ks)) = none := by
          rw [← backL_snd, List.find?_eq_none]
          intro z hz
          obtain ⟨y, hy, rfl⟩ := List.mem_map.1 hz
          simpa using hno y hy
        simp [vicG, hw, vicS, this]
      exact GhostV.refl ⟨by simp [pureL], by simp [hn, hw]⟩
    · rintro ys L' nv4 ⟨x, hx, rfl⟩
      refine ⟨.done .ret, by simp, ?_⟩
      simp [hend]
      exact GhostV.refl ⟨by simp [pureL], by simp [hx, hw]⟩
  · simp [hw]
    exact GhostV.refl ⟨by simp [pureL], by simp [vicG, hw]⟩
end Go.Proofs.Ythoaclojobgelaa.AM

namespace Go.Proofs.Ythoaclojobgelaa.AM
open Go
set_option linter.unusedVariables false
set_option linter.unusedSimpArgs false
variable {P : Program}

structure GrR4 (P : Program) : Prop extends GrR3 P where
  gcirc : R_graph_Circle P

/-! how far at most -/
def DLe (B : Nat) (a : FS) : Prop := ∀ m ∈ a.ks, a.d m ≤ B
theorem DLe.step {B s : Nat} {a : FS} (h : DLe B a) (hs : s ≤ B) (m : Nat) : DLe B (stepF s a m) := by
  unfold stepF; split
  · exact h
  · intro x hx
    simp only at hx ⊢
    split
    · exact hs
    · rename_i hne
      rcases List.mem_append.1 hx with hx | hx
      · exact h x hx
      · exact absurd (List.mem_singleton.1 hx) hne
theorem DLe.fold {B s : Nat} (hs : s ≤ B) : ∀ (ms : List Nat) {a : FS}, DLe B a → DLe B (ms.foldl (stepF s) a)
  | [], a, h => h
  | m :: ms, a, h => DLe.fold hs ms (h.step hs m)
theorem DLe.lev {B s : Nat} (l : List EdgeT) (hs : s ≤ B) : ∀ (near : List Nat) {a : FS}, DLe B a → DLe B (levelF l s near a)
  | [], a, h => h
  | n :: near, a, h => DLe.lev l hs near (DLe.fold hs (nextsS l n) h)
theorem DLe.go {B : Nat} (l : List EdgeT) : ∀ f s a, s + f ≤ B + 1 → DLe B a → DLe B (goF l f s a)
  | 0, s, a, _, h => h
  | f + 1, s, a, hb, h => by
    have h2 : DLe B (levelF l s a.nx ⟨a.ks, a.d, []⟩) := DLe.lev l (by omega) a.nx h
    unfold goF; split
    · exact h2
    · exact DLe.go l f (s + 1) _ (by omega) h2
theorem farF_d (l : List EdgeT) (n : Nat) : DLe 70 (farF l n) := DLe.go l _ _ _ (by omega) (fun m hm => by cases hm)

def pickQ (l : List EdgeT) (n s m : Nat) : Bool := decide (n ∈ (farF l m).ks) && decide ((farF l m).d n = s)
def pickG (l : List EdgeT) (n s at' : Nat) : Nat := ((nextsS l at').find? (pickQ l n s)).getD at'
def circLp (l : List EdgeT) (n : Nat) : Nat → Nat → List Nat
  | 0, _ => []
  | s + 1, at' => pickG l n (s + 1) at' :: circLp l n s (pickG l n (s + 1) at')
theorem circLp_pos (l : List EdgeT) (n : Nat) : ∀ {p at' : Nat}, 0 < p → circLp l n p at' = pickG l n p at' :: circLp l n (p - 1) (pickG l n p at')
  | p + 1, at', _ => rfl
def circO (l : List EdgeT) (n : Nat) : List Nat := n :: circLp l n ((farF l n).d n - 1) n
def circG (l : List EdgeT) (n : Nat) : List Nat := if wrongS l = 0 ∧ n ∈ (farF l n).ks then circO l n else []
def circE (l : List EdgeT) (n : Nat) : Int := if wrongS l = 0 then (if n ∈ (farF l n).ks then 0 else 4) else wrongS l

structure CircA (l : List EdgeT) (n w7 q qv va N s at' : Nat) (out : List Nat) (A : List (Option (Nat × Obj))) : Prop where
  len : A.length = N
  b0 : A[0]? = some (some (0, .mem 1 [[.sl .unk 2 (l.map cEd) []]]))
  b1 : A[1]? = some (some (1, .mem 1 [[.int .u64 (n : Int)]]))
  b3 : A[3]? = some (some (w7, .mem 1 [[.int .i64 ((s : Nat) : Int)]]))
  b4 : A[4]? = some (some (va, .mem 1 (out.map cN)))
  bq : A[q]? = some (some (qv, .mem 1 [[.int .u64 ((at' : Nat) : Int)]]))
  q4 : 4 < q
theorem CircA.set3 {l : List EdgeT} {n w7 q qv va N s s' at' : Nat} {out : List Nat} {A : List (Option (Nat × Obj))} (h : CircA l n w7 q qv va N s at' out A) : CircA l n w7 q qv va N s' at' out (A.set 3 (some (w7, .mem 1 [[.int .i64 ((s' : Nat) : Int)]]))) where
  len := by simp [h.len]
  b0 := by rw [List.getElem?_set_ne (by omega)]; exact h.b0
  b1 := by rw [List.getElem?_set_ne (by omega)]; exact h.b1
  b3 := by rw [List.getElem?_set_self (List.getElem?_eq_some_iff.1 h.b3).1]
  b4 := by rw [List.getElem?_set_ne (by omega)]; exact h.b4
  bq := by rw [List.getElem?_set_ne (by have := h.q4; omega)]; exact h.bq
  q4 := h.q4
theorem CircA.setq {l : List EdgeT} {n w7 q qv va N s at' a2 : Nat} {out : List Nat} {A : List (Option (Nat × Obj))} (h : CircA l n w7 q qv va N s at' out A) : CircA l n w7 q qv va N s a2 out (A.set q (some (qv, .mem 1 [[.int .u64 ((a2 : Nat) : Int)]]))) where
  len := by simp [h.len]
  b0 := by rw [List.getElem?_set_ne (by have := h.q4; omega)]; exact h.b0
  b1 := by rw [List.getElem?_set_ne (by have := h.q4; omega)]; exact h.b1
  b3 := by rw [List.getElem?_set_ne (by have := h.q4; omega)]; exact h.b3
  b4 := by rw [List.getElem?_set_ne (by have := h.q4; omega)]; exact h.b4
  bq := by rw [List.getElem?_set_self (List.getElem?_eq_some_iff.1 h.bq).1]
  q4 := h.q4
theorem CircA.set4 {l : List EdgeT} {n w7 q qv va va' N s at' : Nat} {out out' : List Nat} {A : List (Option (Nat × Obj))} (h : CircA l n w7 q qv va N s at' out A) : CircA l n w7 q qv va' N s at' out' (A.set 4 (some (va', .mem 1 (out'.map cN)))) where
  len := by simp [h.len]
  b0 := by rw [List.getElem?_set_ne (by omega)]; exact h.b0
  b1 := by rw [List.getElem?_set_ne (by omega)]; exact h.b1
  b3 := by rw [List.getElem?_set_ne (by omega)]; exact h.b3
  b4 := by rw [List.getElem?_set_self (List.getElem?_eq_some_iff.1 h.b4).1]
  bq := by rw [List.getElem?_set_ne (by have := h.q4; omega)]; exact h.bq
  q4 := h.q4
def Circ1 (l : List EdgeT) (n w7 : Nat) (k : Nat) (v9 v10 : V) (st : St) : Prop :=
  ∃ s at' q qv va N out A nv, k = s - 1 ∧ s ≤ 70 ∧ v9 = .msl 4 va 0 (out : List Nat).length ∧ v10 = .ptr q qv 0 0 ∧ CircA l n w7 q qv va N s at' out A ∧ out.length + s ≤ 100 ∧ out ++ circLp l n (s - 1) at' = circO l n ∧ st = ⟨A, nv⟩

theorem gCircle (h : GrR4 P) (l : List EdgeT) (n : Nat) (hl : l.length < 2 ^ 40) : PCalls P n_graph_Circle [.sl .unk 2 (l.map cEd) [], .int .u64 n] (fun r => r = .tup [.sl .unk 1 ((circG l n).map cN) [], .int .i64 (circE l n)]) := by
  refine A_graph_Circle h.gcirc ?_
  unfold F_graph_Circle
  simp [st0]
  refine inv_p (gCheck h.toGrR l hl) (by simp) (by simp [pureL, pureLL]) ?_
  rintro _ rfl
  by_cases hw : wrongS l = 0
  · have hl := wrong_len hw
    simp [hw]
    refine inv_f0 (Far_N h.toGrR l n hl ?_)
    intro mv ep nv'
    by_cases hm : n ∈ (farF l n).ks
    · obtain ⟨j, _, hj⟩ := mk_some (f := dI (farF l n).d) hm
      have hd := farF_d l n n hm
      simp [hj, dI]
      refine ⟨Circ1 l n nv', ⟨(farF l n).d n - 1, GhostV.refl ⟨(farF l n).d n, n, 5, nv' + 2, nv' + 1, 6, [n], _, _, rfl, hd, by simp, by simp, ⟨rfl, rfl, rfl, rfl, rfl, rfl, by omega⟩, by simp; omega, rfl, rfl⟩⟩, ?_⟩
      rintro _ v9 v10 st ⟨s, at', q, qv, va, N, out, A, nv1, rfl, hs, rfl, rfl, hA, hol, hfin, rfl⟩
      by_cases h1 : 1 < s
      · obtain ⟨p, hp⟩ : ∃ p, p = s - 1 := ⟨_, rfl⟩
        have e1 : IntKind.i64.wrap ((s : Int) - 1) = (p : Int) := by rw [wrap_i64 (by omega)]; omega
        rw [← hp, circLp_pos l n (by omega)] at hfin
        have hA2 := hA.set3 (s' := p)
        have h1' : (1 : Int) < s := by omega
        simp [hA.b3, h1', e1, hA2.b0, hA2.bq]
        generalize hA2e : A.set 3 (some (nv', .mem 1 [[.int .i64 ((p : Nat) : Int)]])) = A2 at hA2 ⊢
        refine inv_f0 (Nexts_N h.toGrR l at' (by omega) ?_)
        intro nv3
        intro LP HY
        have hlen := hA2.len
        have eN : N + (0 + 1) = N + 1 := rfl
        simp only [List.length_append, List.length_cons, List.length_nil, hlen, eN] at HY
        have hb3 := nextsS_len l at'
        simp only [St.push, List.length_append, List.length_cons, List.length_nil, hlen, eN]
        have f0 : ∀ R, (A2 ++ R)[0]? = _ := fun R => getA hA2.b0
        have f1 : ∀ R, (A2 ++ R)[1]? = _ := fun R => getA hA2.b1
        have f3 : ∀ R, (A2 ++ R)[3]? = _ := fun R => getA hA2.b3
        have fq : ∀ R, (A2 ++ R)[q]? = _ := fun R => getA hA2.bq
        have f4 : ∀ R k, (A2 ++ R)[N + k]? = R[k]? := fun R k => apN hA2.len
        have f5 : ∀ R, (A2 ++ R)[N]? = R[0]? := fun R => apN0 hA2.len
        have f6 : ∀ R x, (A2 ++ R).set q x = A2.set q x ++ R := fun R x => setA hA2.bq
        have f7 : ∀ R k x, (A2 ++ R).set (N + k) x = A2 ++ R.set k x := fun R k x => spN hA2.len
        have f8 : ∀ R x, (A2 ++ R).set N x = A2 ++ R.set 0 x := fun R x => spN0 hA2.len
        have g4 : ∀ y R k, (A2.set q y ++ R)[N + k]? = R[k]? := fun y R k => apN (by simpa using hA2.len)
        have g7 : ∀ y R k x, (A2.set q y ++ R).set (N + k) x = A2.set q y ++ R.set k x := fun y R k x => spN (by simpa using hA2.len)
        have fin : ∀ (A3 : List (Option (Nat × Obj))) (at2 nv4 : Nat) (it : Option (Nat × Obj)), CircA l n nv' q qv va N p at2 out A3 → pickG l n p at' = at2 →
            @stp P (.ld none (.c (.ptr q qv 0 0))) ⟨A3 ++ [it, none], nv4⟩ ⟨fun v56 st =>
            @stp P (.mkSl 1 1 [(.int .u64 0)] [(0, (.c v56))]) st ⟨fun v57 st =>
            @stp P (.append 1 8 (.c (.msl 4 va 0 out.length)) (.c v57)) st ⟨fun v58 st =>
            @stp P (.ld none (.c (.ptr q qv 0 0))) st ⟨fun v59 st =>
            @stp P (.alloc [(.int .u64 0)]) st ⟨fun v10_1 st =>
            @stp P (.st 1 (.c v10_1) (.c v59)) st ⟨fun _v st =>
            ∃ j, j < s - 1 ∧ GhostV [v58, v10_1] st (app (n := 2) (Circ1 l n nv' j))⟩⟩⟩⟩⟩⟩ := by
          intro A3 at2 nv4 it hA3 hpk
          have hA4 := hA3.set4 (va' := nv4 + 1) (out' := out ++ [at2])
          have k4 : ∀ R, (A3 ++ R)[4]? = _ := fun R => getA hA3.b4
          have kq : ∀ R, (A3 ++ R)[q]? = _ := fun R => getA hA3.bq
          have ks : ∀ R x, (A3 ++ R).set 4 x = A3.set 4 x ++ R := fun R x => setA hA3.b4
          have mq : ∀ R, (A3.set 4 (some (nv4 + 1, .mem 1 ((out ++ [at2]).map cN))) ++ R)[q]? = _ := fun R => getA hA4.bq
          have ml : ∀ y : Option (Nat × Obj), (A3.set 4 y).length = N := fun y => by simpa using hA3.len
          have mN : ∀ y R k, (A3.set 4 y ++ R)[N + k]? = R[k]? := fun y R k => apN (ml y)
          have mS : ∀ y R k x, (A3.set 4 y ++ R).set (N + k) x = A3.set 4 y ++ R.set k x := fun y R k x => spN (ml y)
          simp at mq
          simp [k4, kq, ks, hA3.len, mq, ml, mN, mS]
          refine ⟨by omega, p - 1, by omega, GhostV.refl ⟨p, at2, N + 3, nv4 + 1 + 1, nv4 + 1, N + 4, out ++ [at2], _, nv4 + 1 + 1 + 1, rfl, by omega, by simp, rfl, ?_, by simp; omega, ?_, rfl⟩⟩
          · refine ⟨by simp [ml], ?_, ?_, ?_, ?_, ?_, by have := hA3.q4; have := (List.getElem?_eq_some_iff.1 hA3.bq).1; have := hA3.len; omega⟩
            · exact getA (by simpa using hA4.b0)
            · exact getA (by simpa using hA4.b1)
            · exact getA (by simpa using hA4.b3)
            · exact getA (by simpa using hA4.b4)
            · rw [mN]; rfl
          · rw [hpk] at hfin
            simpa using hfin
        refine values_iter h.toRising_boolR.toIterR (nextsS l at') (by omega) _ (N + 2)
          (fun ys L' => (∀ y ∈ ys, pickQ l n p y = false) ∧ L' = A2 ++ [some (nv3, .mem 1 [[.sl .unk 1 ((nextsS l at').map cN) []]]), some (nv3 + 1, LP .ready)])
          (fun ys L' => ∃ x : Nat, pickG l n p at' = x ∧ L' = A2.set q (some (qv, .mem 1 [[.int .u64 (x : Int)]])) ++ [some (nv3, .mem 1 [[.sl .unk 1 ((nextsS l at').map cN) []]]), some (nv3 + 1, LP (.done (.exit 2)))]) _ _ _ ?_ ?_ ?_ ?_ ?_ ?_
        · rintro ys L' ⟨_, rfl⟩
          exact ⟨by simp [hlen], by dsimp only; rw [f5]; rfl⟩
        · rintro ys L' ⟨x, _, rfl⟩
          simp [hlen]
        · rintro ys x L' G nv4 ⟨K'⟩ ⟨hno, rfl⟩ ⟨rest, hd'⟩ h2 h3
          refine HY ⟨(A2 ++ [some (nv3, .mem 1 [[.sl .unk 1 ((nextsS l at').map cN) []]]), some (nv3 + 1, LP .ready)]) ++ G, nv4⟩ K' (.int .u64 x) (by simp [f4]) ?_
          refine ⟨by simp [f4], ?_⟩
          simp [f0, f1, f3, f4, f7]
          refine inv_f0 (Far_N h.toGrR l x hl ?_)
          intro mv2 ep2 nv5
          simp [f0, f1, f3, f4, f7, hlen]
          by_cases hx : n ∈ (farF l x).ks
          · obtain ⟨i, _, hm2⟩ := mk_some (f := dI (farF l x).d) hx
            by_cases hdx : (farF l x).d n = p
            · simp [f0, f1, f3, f4, f5, f6, f7, g4, g7, fq, hlen, hm2, dI, hdx]
              have hg : pickQ l n p x = true := by simp [pickQ, hx, hdx]
              have key := h3 _ [some (mv2, .map ep2 ((farF l x).ks.map (entF (dI (farF l x).d))))] nv5 ⟨x, ?_, rfl⟩
              · simpa using key
              · have hn : ys.find? (pickQ l n p) = none := by
                  rw [List.find?_eq_none]
                  intro z hz
                  simp [hno z hz]
                simp [pickG, ← hd', hn, hg]
            · simp [f0, f1, f3, f4, f5, f6, f7, g4, g7, fq, hlen, hm2, dI, hdx]
              have key := h2 _ [some (mv2, .map ep2 ((farF l x).ks.map (entF (dI (farF l x).d))))] nv5 ⟨fun y hy => ?_, rfl⟩
              · simpa using key
              · rcases List.mem_append.1 hy with hy | hy
                · exact hno y hy
                · rw [List.mem_singleton.1 hy]; simp [pickQ, hdx]
          · simp [f0, f1, f3, f4, f5, f6, f7, g4, g7, fq, hlen, mk_none hx]
            have key := h2 _ [some (mv2, .map ep2 ((farF l x).ks.map (entF (dI (farF l x).d))))] nv5 ⟨fun y hy => ?_, rfl⟩
            · simpa using key
            · rcases List.mem_append.1 hy with hy | hy
              · exact hno y hy
              · rw [List.mem_singleton.1 hy]; simp [pickQ, hx]
        · exact ⟨by simp, by simp⟩
        · rintro ys L' nv4 ⟨hno, rfl⟩ rfl
          refine ⟨.ready, by simp [f4], ?_⟩
          have e : (St.gone ⟨A2 ++ [some (nv3, .mem 1 [[.sl .unk 1 ((nextsS l at').map cN) []]]), some (nv3 + 1, LP .ready)], nv4⟩ (N + 1)) = ⟨A2 ++ [some (nv3, .mem 1 [[.sl .unk 1 ((nextsS l at').map cN) []]]), none], nv4⟩ := by simp [St.gone, f7]
          rw [e]
          refine fin A2 at' nv4 _ hA2 ?_
          have hn : (nextsS l at').find? (pickQ l n p) = none := by
            rw [List.find?_eq_none]
            intro z hz
            simp [hno z hz]
          simp [pickG, hn]
        · rintro ys L' nv4 ⟨x, hx, rfl⟩
          refine ⟨.done (.exit 2), by simp [g4], ?_⟩
          have e : (St.gone ⟨A2.set q (some (qv, .mem 1 [[.int .u64 (x : Int)]])) ++ [some (nv3, .mem 1 [[.sl .unk 1 ((nextsS l at').map cN) []]]), some (nv3 + 1, LP (.done (.exit 2)))], nv4⟩ (N + 1)) = ⟨A2.set q (some (qv, .mem 1 [[.int .u64 (x : Int)]])) ++ [some (nv3, .mem 1 [[.sl .unk 1 ((nextsS l at').map cN) []]]), none], nv4⟩ := by simp [St.gone, g7]
          rw [e]
          exact fin _ x nv4 _ hA2.setq hx
      · have hs1 : s - 1 = 0 := by omega
        rw [hs1, circLp, List.append_nil] at hfin
        have h1' : ¬ (1 : Int) < s := by omega
        simp [hA.b3, h1']
        refine GhostV.rowc (st := ⟨A, nv1⟩) (id := 4) (ver := va) (off := 0) (len := out.length) (sz := 1) (es := out.map cN) (by simp [St.get, hA.b4]) (by simp) ?_
        subst hfin
        exact ⟨by simp [pureL, pureLL], by simp [circG, circE, hw, hm]⟩
    · simp [mk_none hm]
      exact GhostV.le (LeVs.nilrow (sz := 1)) ⟨by simp [pureL, pureLL], by simp [circG, circE, hw, hm]⟩
  · simp [hw]
    exact GhostV.le (LeVs.nilrow (sz := 1)) ⟨by simp [pureL, pureLL], by simp [circG, circE, hw]⟩
end Go.Proofs.Ythoaclojobgelaa.AM
