/- rows: what is struck out. -/
import Derived.Test.YtmgkjbphlbpbfaaV5
namespace Go.Proofs.Ytmgkjbphlbpbfaa.AM
open Go
set_option linter.unusedVariables false
set_option linter.unusedSimpArgs false
variable {P : Program}

/-- The rows while some are struck out: what is kept, what is left over, what is to come. -/
structure DelRows (p : StoredT → Bool) (l : List StoredT) (i j : Nat) (rows : List (List V)) : Prop where
  jl : j ≤ l.length
  ij : i < j
  kept : ((l.take j).filter (fun x => !p x)).length = i
  len : rows.length = l.length
  ten : ∀ e ∈ rows, e.length = 10
  lo : rows.take i = ((l.take j).filter (fun x => !p x)).map cStored
  hi : rows.drop j = (l.drop j).map cStored

theorem DelRows.get {p : StoredT → Bool} {l : List StoredT} {i j : Nat} {rows : List (List V)} (h : DelRows p l i j rows) (hj : j < l.length) : rows[j]? = some (cStored l[j]) := by
  have := congrArg (fun x => x[0]?) h.hi
  simp [hj] at this
  simpa using this

theorem DelRows.drop {p : StoredT → Bool} {l : List StoredT} {i j : Nat} {rows : List (List V)} (h : DelRows p l i j rows) (hj : j < l.length) (hp : p l[j] = true) : DelRows p l i (j + 1) rows where
  jl := hj
  ij := by have := h.ij; omega
  kept := by rw [take_snoc hj, List.filter_append]; simp [hp, h.kept]
  len := h.len
  ten := h.ten
  lo := by rw [take_snoc hj, List.filter_append]; simp [hp, h.lo]
  hi := by
    have := congrArg (List.drop 1) h.hi
    simpa [List.drop_drop, ← List.map_drop] using this

theorem DelRows.keep {p : StoredT → Bool} {l : List StoredT} {i j : Nat} {rows : List (List V)} (h : DelRows p l i j rows) (hj : j < l.length) (hp : p l[j] = false) : DelRows p l (i + 1) (j + 1) (rows.set i (cStored l[j])) where
  jl := hj
  ij := by have := h.ij; omega
  kept := by rw [take_snoc hj, List.filter_append]; simp [hp, h.kept]
  len := by simp [h.len]
  ten := by
    intro e he
    rcases List.mem_or_eq_of_mem_set he with h' | rfl
    · exact h.ten e h'
    · rfl
  lo := by
    have hi : i < rows.length := by have := h.ij; have := h.len; omega
    rw [take_snoc hj, List.filter_append, List.map_append, ← h.lo]
    have : (rows.set i (cStored l[j])).take (i + 1) = rows.take i ++ [cStored l[j]] := by
      rw [take_snoc (by simpa using hi), List.take_set_of_le (by omega)]; simp
    rw [this]; simp [hp]
  hi := by
    rw [List.drop_set_of_lt (by have := h.ij; omega)]
    have := congrArg (List.drop 1) h.hi
    simpa [List.drop_drop, ← List.map_drop] using this

def DelI (p : StoredT → Bool) (l : List StoredT) (L : List (Option (Nat × Obj))) (id ver : Nat) (k : Nat) (v5 v6 : V) (st : St) : Prop :=
  ∃ (i j nv : Nat) (rows : List (List V)), k = l.length - j ∧ v5 = .int .i64 i ∧ v6 = .int .i64 j ∧ st = ⟨L.set id (some (ver, .mem 10 rows)), nv⟩ ∧ DelRows p l i j rows

theorem DeleteFunc (hI : R_slices_IndexFunc_Stored_Stored P) (hR : R_slices_DeleteFunc_Stored_Stored P) {k : FuncId} {cap cap' : List V} {p : StoredT → Bool} (l : List StoredT) (hl : l.length < 2 ^ 43)
    (hpc : pureL cap' = true) (hf : ∀ x, PCalls P k ([.agg (cStored x)] ++ cap') (fun r => r = .bool (p x)))
    {L : List (Option (Nat × Obj))} {nv id ver : Nat} (hL : L[id]? = some (some (ver, .mem 10 (l.map cStored)))) (hcap : ∀ L' nv', (∀ j, j ≠ id → j < L.length → L'[j]? = L[j]?) → Bors ⟨L', nv'⟩ cap cap')
    {K : V → St → Prop} (hk : ∀ nv' rows, rows.take ((l.filter fun x => !p x).length) = (l.filter fun x => !p x).map cStored → (l.filter fun x => !p x).length ≤ rows.length → K (.msl id ver 0 (l.filter fun x => !p x).length) ⟨L.set id (some (ver, .mem 10 rows)), nv'⟩) :
    ACalls P n_slices_DeleteFunc_Stored_Stored [.msl id ver 0 l.length, .fn (.func k) [] cap] ⟨L, nv⟩ K := by
  have hid : id < L.length := (List.getElem?_eq_some_iff.1 hL).1
  have hrow : ∀ i, i < l.length → ((l.map cStored).getD i []).length = 10 := fun i hi => by rw [getD_map _ _ _ hi]; rfl
  have bslice : ∀ (st : St) rows, st.get id ver = some (.mem 10 rows) → rows = l.map cStored → Bor st (.msl id ver 0 l.length) (.sl .unk 10 (l.map cStored) []) := by
    intro st rows ho hr
    subst hr
    exact .msl id ver 0 l.length 10 _ _ ho (by simp) (by simp) (fun i hi => hrow i hi) (fun i j hi hj => by rw [Nat.zero_add]; exact .refl _)
  refine A_slices_DeleteFunc_Stored_Stored hR ?_
  unfold F_slices_DeleteFunc_Stored_Stored
  simp
  refine inv_look (IndexFunc hI (first := []) (cap := cap') (p := p) l hl rfl hpc (fun x => hf x)) ?_ (by simp [pureL, pureLL, hpc]) ?_
  · refine Bors.cons (bslice _ _ (by simp [St.get, hL]) rfl) (Bors.cons (.fn _ _ _ _ _ rfl (hcap L nv (fun _ _ _ => rfl)).1 (fun i hi => by simp at hi) (hcap L nv (fun _ _ _ => rfl)).2) Bors.nil)
  intro r hr
  refine ⟨by subst hr; rfl, ?_⟩
  cases hfi : l.findIdx? p with
  | none =>
    have hall : l.filter (fun x => !p x) = l := by
      rw [List.filter_eq_self]; rw [List.findIdx?_eq_none_iff] at hfi; intro x hx; simp [hfi x hx]
    have hr' : r = .int .i64 (-1) := by rw [hr]; simp [fIdx, hfi]
    clear hr; subst hr'
    simp
    refine GhostV.refl ?_
    have := hk nv (l.map cStored)
    rw [hall] at this
    have := this (by rw [List.take_of_length_le (by simp)]) (by simp)
    have e : L.set id (some (ver, .mem 10 (l.map cStored))) = L := by
      apply List.ext_getElem?
      intro j
      by_cases h : id = j
      · subst h; rw [List.getElem?_set_self hid, hL]
      · rw [List.getElem?_set_ne h]
    rw [e] at this
    simpa using this
  | some i0 =>
    obtain ⟨hi0, hp0, hlt0⟩ := List.findIdx?_eq_some_iff_getElem.1 hfi
    have hne : ¬ ((i0 : Int) = -1) := by omega
    have e1 : IntKind.i64.wrap ((i0 : Int) + 1) = ((i0 + 1 : Nat) : Int) := by rw [wrap_i64 (by omega)]; omega
    have hr' : r = .int .i64 i0 := by rw [hr]; simp [fIdx, hfi]
    clear hr; subst hr'
    simp [hne, e1]
    have htk : (l.take (i0 + 1)).filter (fun x => !p x) = l.take i0 := by
      rw [take_snoc hi0, List.filter_append]
      simp [hp0]
      intro x hx
      obtain ⟨j, hj, rfl⟩ := List.mem_take_iff_getElem.1 hx
      simpa using hlt0 j (by omega)
    have hLs : L.set id (some (ver, .mem 10 (l.map cStored))) = L := by
      apply List.ext_getElem?
      intro j
      by_cases h : id = j
      · subst h; rw [List.getElem?_set_self hid, hL]
      · rw [List.getElem?_set_ne h]
    refine ⟨DelI p l L id ver, ⟨l.length - (i0 + 1), GhostV.refl ⟨i0, i0 + 1, nv, l.map cStored, rfl, rfl, by simp, by rw [hLs], ⟨hi0, by omega, by rw [htk]; simp; omega, by simp, ?_, by rw [htk, List.map_take], by rw [List.map_drop]⟩⟩⟩, ?_⟩
    · intro e he
      obtain ⟨x, _, rfl⟩ := List.mem_map.1 he
      rfl
    rintro k1 v5 v6 st ⟨i, j, nv1, rows, rfl, rfl, rfl, rfl, hd⟩
    by_cases hj : j < l.length
    · have hir : i < rows.length := by have := hd.ij; have := hd.len; omega
      have hri : rows[i]? = some rows[i] := List.getElem?_eq_getElem hir
      have hr10 : rows[i].length = 10 := hd.ten _ (List.getElem_mem hir)
      have hjr : j < rows.length := by have := hd.len; omega
      have hrj : rows[j] = cStored l[j] := by have := hd.get hj; rw [List.getElem?_eq_getElem hjr] at this; simpa using this
      simp [hj, hid, hjr, hrj, hd.len]
      refine inv_look (hf l[j]) (Bors.cons (.refl _) (hcap _ _ (fun q hq hq' => ?_))) (by simp [pureL_append, pureL, hpc]) ?_
      · rw [List.getElem?_append_left (by simpa using hq'), List.getElem?_set_ne (Ne.symm hq)]
      rintro _ rfl
      refine ⟨rfl, ?_⟩
      have e2 : IntKind.i64.wrap ((i : Int) + 1) = ((i + 1 : Nat) : Int) := by rw [wrap_i64 (by have := hd.ij; omega)]; omega
      have e3 : IntKind.i64.wrap ((j : Int) + 1) = ((j + 1 : Nat) : Int) := by rw [wrap_i64 (by omega)]; omega
      have hil : i < l.length := by have := hd.ij; omega
      have hdr : List.drop 10 rows[i] = [] := List.drop_eq_nil_of_le (by omega)
      cases hp : p l[j]
      · simp [hid, hil, hir, hr10, hd.len, splice, hdr]
        have hk2 := hd.keep hj hp
        refine ⟨l.length - (j + 1), by omega, GhostV.take L.length ?_⟩
        simp
        show DelI p l L id ver _ _ _ _
        exact ⟨i + 1, j + 1, _, rows.set i (cStored l[j]), rfl, by rw [e2], by rw [e3], rfl, hk2⟩
      · simp
        have hk2 := hd.drop hj hp
        refine ⟨l.length - (j + 1), by omega, GhostV.take L.length ?_⟩
        simp
        show DelI p l L id ver _ _ _ _
        exact ⟨i, j + 1, _, rows, rfl, rfl, by rw [e3], rfl, hk2⟩
    · have hjl : j = l.length := by have := hd.jl; omega
      subst hjl
      have hlo := hd.lo
      have hkept := hd.kept
      rw [List.take_length] at hlo hkept
      have hij := hd.ij
      have hle : i ≤ l.length := by omega
      have hs : i + (l.length - i) = l.length := by omega
      simp [hid, hd.len, hle, hs]
      refine GhostV.refl ?_
      simp only [mkres1]
      rw [← hkept]
      refine hk _ _ ?_ ?_
      · rw [hkept, List.take_append_of_le_length (by simp [hd.len]; omega), List.take_take, Nat.min_self]; exact hlo
      · rw [hkept]; simp [hd.len]; omega
theorem DeleteNil (hI : R_slices_IndexFunc_Stored_Stored P) (hR : R_slices_DeleteFunc_Stored_Stored P) {k : FuncId} {cap cap' : List V} {p : StoredT → Bool}
    (hpc : pureL cap' = true) (hf : ∀ x, PCalls P k ([.agg (cStored x)] ++ cap') (fun r => r = .bool (p x)))
    {st : St} (hcap : Bors st cap cap') {K : V → St → Prop} (hk : K (.sl .nil 0 [] []) st) :
    ACalls P n_slices_DeleteFunc_Stored_Stored [.sl .nil 0 [] [], .fn (.func k) [] cap] st K := by
  refine A_slices_DeleteFunc_Stored_Stored hR ?_
  unfold F_slices_DeleteFunc_Stored_Stored
  simp
  have h0 := IndexFunc hI (first := []) (cap := cap') (p := p) [] (by simp) rfl hpc (fun x => hf x)
  refine inv_f0 (ACalls.le (h0.look (st := st) (args := [.sl .unk 10 [] [], .fn (.func k) [] cap]) (by simp [pureL, pureLL, hpc]) (Bors.cons (.refl _) (Bors.cons (.fn _ _ _ _ _ rfl hcap.1 (fun i hi => by simp at hi) hcap.2) Bors.nil)) ?_) (LeVs.cons (.nil _ _) (LeVs.refl _)))
  rintro _ rfl
  refine ⟨rfl, ?_⟩
  have : fIdx p [] = -1 := rfl
  simp [this]
  exact GhostV.refl hk

def leftS (l : List StoredT) (gone : List SpotT) : List StoredT := l.filter fun x => !decide (x.spot ∈ gone)

structure LeftR (P : Program) : Prop where
  idx : R_slices_Index_Spot_Spot P
  con : R_slices_Contains_Spot_Spot P
  fn : R_vacuum_Left_1 P
  idxf : R_slices_IndexFunc_Stored_Stored P
  del : R_slices_DeleteFunc_Stored_Stored P
  clone : R_slices_Clone_Stored_Stored P
  left : R_vacuum_Left P

theorem vac_Left (h : LeftR P) (l : List StoredT) (gone : List SpotT) (hl : l.length < 2 ^ 40) (hg : gone.length < 2 ^ 40) :
    PCalls P n_vacuum_Left [.sl .unk 10 (l.map cStored) [], .sl .unk 2 (gone.map cSpot) []] (fun r => r = .sl .unk 10 ((leftS l gone).map cStored) []) := by
  refine A_vacuum_Left h.left ?_
  unfold F_vacuum_Left
  simp [st0]
  have hf : ∀ x, PCalls P n_vacuum_Left_1 ([.agg (cStored x)] ++ [.eptr [.sl .unk 2 (gone.map cSpot) []] 0]) (fun r => r = .bool (decide (x.spot ∈ gone))) := fun x => Left_1 h.idx h.con h.fn gone x (by omega)
  refine inv_f0 (Clone_Stored h.clone l hl ?_ ?_)
  · rintro rfl
    simp
    refine inv_f0 (DeleteNil h.idxf h.del (by simp [pureL, pureLL]) hf (Bors.cons (.box1 (by simp [St.get])) Bors.nil) ?_)
    simp
    exact GhostV.le (LeVs.cons (.nil _ _) LeVs.nil) ⟨by simp [V.pure, pureLL], rfl⟩
  · simp
    refine inv_f0 (DeleteFunc h.idxf h.del (L := [some (0, .mem 1 [[.sl .unk 2 (gone.map cSpot) []]]), some (2, .mem 10 (l.map cStored))]) (cap := [.ptr 0 0 0 0]) l (by omega) (by simp [pureL, pureLL]) hf (by rfl) ?_ ?_)
    · intro L' nv' hL'
      have := hL' 0 (by decide) (by simp)
      exact Bors.cons (.box1 (by simp [St.get, this])) Bors.nil
    · intro nv' rows h1 h2
      simp
      refine GhostV.row1 (by simp [St.get]; exact ⟨rfl, rfl⟩) (by simpa using h2) ?_
      simp only [mkres1, List.drop_zero, h1]
      exact ⟨by simp [V.pure, pureLL], rfl⟩

end Go.Proofs.Ytmgkjbphlbpbfaa.AM
