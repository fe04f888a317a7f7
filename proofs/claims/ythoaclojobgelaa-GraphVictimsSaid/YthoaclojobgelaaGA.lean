/- Iterators over numbers; the second answer's functions. -/
import Derived.Test.YthoaclojobgelaaGS
namespace Go.Proofs.Ythoaclojobgelaa.AM
open Go
set_option linter.unusedVariables false
set_option linter.unusedSimpArgs false
variable {P : Program}

structure IterR (P : Program) : Prop extends SortR P where
  val : R_slices_Values_uint64_uint64 P
  val1 : R_slices_Values_uint64_uint64_1 P
  app : R_slices_AppendSeq_uint64_uint64 P
  coll : R_slices_Collect_uint64 P
  sorted : R_slices_Sorted_uint64 P

/-! ### slices.Values -/
def ValI (l : List Nat) (N : Nat) (J : List Nat → List (Option (Nat × Obj)) → Prop) (k : Nat) (v : V) (st : St) : Prop :=
  ∃ i L' nv, k = l.length - i ∧ i ≤ l.length ∧ v = .int .i64 ((i : Nat) : Int) ∧ J (l.take i) L' ∧ st = ⟨L', nv⟩
theorem values_iter (h : IterR P) (l : List Nat) (hl : l.length < 2 ^ 40) {b bv : Nat} :
    IterC P cN (.fn (.func n_slices_Values_uint64_uint64_1) [] [.ptr b bv 0 0]) (fun L => L[b]? = some (some (bv, .mem 1 [[.sl .unk 1 (l.map cN) []]]))) (· = l) := by
  intro yv N J S L0 nv0 K hJ hS hy h0 hk hks
  refine AInvE_fn (first := []) ?_
  refine A_slices_Values_uint64_uint64_1 h.val1 ?_
  unfold F_slices_Values_uint64_uint64_1
  have hbJ : ∀ ys L', J ys L' → L'[b]? = some (some (bv, .mem 1 [[.sl .unk 1 (l.map cN) []]])) := fun ys L' h => (hJ ys L' h).2
  simp [hbJ _ _ h0]
  refine ⟨ValI l N J, ⟨l.length, GhostV.refl ⟨0, L0, nv0, rfl, by omega, by simp, by simpa using h0, rfl⟩⟩, ?_⟩
  rintro k v st ⟨i, L', nv, rfl, hi, rfl, hJi, rfl⟩
  by_cases hlt : i < l.length
  · simp [hlt]
    have hx := hy (l.take i) l[i] L' [] nv
    rw [List.append_nil] at hx
    refine hx _ hJi ⟨l.drop (i + 1), by rw [List.getElem_cons_drop]; simp⟩ ?_ ?_
    · intro L'' H nv' hJ'
      simp
      rw [← take_snoc hlt] at hJ'
      refine ⟨l.length - (i + 1), by omega, GhostV.keep ⟨i + 1, L'', nv', rfl, by omega, by rw [wadd1 (by omega)], hJ', rfl⟩⟩
    · intro L'' H nv' hS'
      simp
      exact GhostV.keep (hks _ _ _ hS')
  · simp [hlt]
    have e : l.take i = l := List.take_of_length_le (by omega)
    rw [e] at hJi
    exact GhostV.refl (hk _ _ _ hJi rfl)
theorem Values_N (h : IterR P) (l : List Nat) {L : List (Option (Nat × Obj))} {nv : Nat} {K : V → St → Prop}
    (hk : K (.fn (.func n_slices_Values_uint64_uint64_1) [] [.ptr L.length nv 0 0]) ⟨L ++ [some (nv, .mem 1 [[.sl .unk 1 (l.map cN) []]])], nv + 1⟩) :
    ACalls P n_slices_Values_uint64_uint64 [.sl .unk 1 (l.map cN) []] ⟨L, nv⟩ K := by
  refine A_slices_Values_uint64_uint64 h.val ?_
  unfold F_slices_Values_uint64_uint64
  simp
  exact GhostV.refl (by simpa using hk)

/-! ### slices.Collect -/
def AppJ (L : List (Option (Nat × Obj))) (b : Nat) (LP : LSt → Obj) (nv : Nat) (ys : List Nat) (L' : List (Option (Nat × Obj))) : Prop :=
  ∃ va, L' = L ++ [some (nv, .mem 1 [[.msl (L.length + 2) va 0 ys.length]]), some (nv + 1, LP .ready), some (va, .mem 1 (ys.map cN))]
theorem AppendSeq_N (h : IterR P) {sq : V} {L : List (Option (Nat × Obj))} {Q : List (Option (Nat × Obj)) → Prop} (hQ : ∀ M, Q (L ++ M)) {dom : List Nat → Prop} (hi : IterC P cN sq Q dom) (hb : ∀ ys rest, dom (ys ++ rest) → ys.length < 2 ^ 40) {nv : Nat} {K : V → St → Prop}
    (hk : ∀ ys va nv' M, dom ys → (L ++ M)[L.length + 2]? = some (some (va, .mem 1 (ys.map cN))) → K (.msl (L.length + 2) va 0 ys.length) ⟨L ++ M, nv'⟩) :
    ACalls P n_slices_AppendSeq_uint64_uint64 [.sl .nil 0 [] [], sq] ⟨L, nv⟩ K := by
  refine A_slices_AppendSeq_uint64_uint64 h.app ?_
  unfold F_slices_AppendSeq_uint64_uint64
  simp
  intro LP HY
  simp only [List.length_append, List.length_cons, List.length_nil, Nat.zero_add] at HY
  simp
  refine AInvE.ghost (ghost_nilbox (j := L.length) (ver := nv) (s := 0) (sz := 1) (by decide) (by simp)) ?_
  simp
  refine hi _ (L.length + 3) (AppJ L 0 LP nv) (fun _ _ => False) _ _ _ ?_ (fun _ _ h => h.elim) ?_ ?_ ?_ (fun _ _ _ h => h.elim)
  · rintro ys L' ⟨va, rfl⟩
    exact ⟨by simp, hQ _⟩
  · rintro ys x L' G nv2 ⟨K'⟩ ⟨va, rfl⟩ ⟨rest, hd⟩ h1 _
    have hlen := hb (ys ++ [x]) rest (by simpa using hd)
    simp only [List.length_append, List.length_cons, List.length_nil] at hlen
    refine HY ⟨(L ++ [some (nv, .mem 1 [[.msl (L.length + 2) va 0 ys.length]]), some (nv + 1, LP .ready), some (va, .mem 1 (ys.map cN))]) ++ G, nv2⟩ K' (.int .u64 x) (by simp) ?_
    have key := h1 (L ++ [some (nv, .mem 1 [[.msl (L.length + 2) (nv2 + 1) 0 (ys.length + 1)]]), some (nv + 1, LP .ready), some (nv2 + 1, .mem 1 ((ys ++ [x]).map cN))]) [some (nv2, .mem 1 [cN x])] (nv2 + 1 + 1) ⟨nv2 + 1, by simp⟩
    simp
    simp at key
    exact ⟨by omega, key⟩
  · exact ⟨nv + 1 + 1, by simp⟩
  · rintro ys L' nv2 ⟨va, rfl⟩ hd
    refine ⟨.ready, by simp, ?_⟩
    simp [hend]
    have := hk ys va nv2 [some (nv, .mem 1 [[.msl (L.length + 2) va 0 ys.length]]), none, some (va, .mem 1 (ys.map cN))] hd (by simp)
    exact GhostV.refl (by simpa using this)
end Go.Proofs.Ythoaclojobgelaa.AM

namespace Go.Proofs.Ythoaclojobgelaa.AM
open Go
set_option linter.unusedVariables false
set_option linter.unusedSimpArgs false
variable {P : Program}

theorem Collect_N (h : IterR P) {sq : V} {L : List (Option (Nat × Obj))} {Q : List (Option (Nat × Obj)) → Prop} (hQ : ∀ M, Q (L ++ M)) {dom : List Nat → Prop} (hi : IterC P cN sq Q dom) (hb : ∀ ys rest, dom (ys ++ rest) → ys.length < 2 ^ 40) {nv : Nat} {K : V → St → Prop}
    (hk : ∀ ys va nv' M, dom ys → (L ++ M)[L.length + 2]? = some (some (va, .mem 1 (ys.map cN))) → K (.msl (L.length + 2) va 0 ys.length) ⟨L ++ M, nv'⟩) :
    ACalls P n_slices_Collect_uint64 [sq] ⟨L, nv⟩ K := by
  refine A_slices_Collect_uint64 h.coll ?_
  unfold F_slices_Collect_uint64
  simp
  refine inv_f0 (AppendSeq_N h hQ hi hb ?_)
  intro ys va nv' M hd hg
  exact GhostV.refl (hk ys va nv' M hd hg)
theorem rowsN_toArray (l : List Nat) : rowsN l.toArray = l.map cN := by simp [rowsN]
theorem Sorted_N (h : IterR P) {sq : V} {L : List (Option (Nat × Obj))} {Q : List (Option (Nat × Obj)) → Prop} (hQ : ∀ M, Q (L ++ M)) {dom : List Nat → Prop} (hi : IterC P cN sq Q dom) (hb : ∀ ys rest, dom (ys ++ rest) → ys.length < 65536) {nv : Nat} {K : V → St → Prop}
    (hk : ∀ ys nv', dom ys → K (.sl .unk 1 ((sortL ys).map cN) []) ⟨L, nv'⟩) :
    ACalls P n_slices_Sorted_uint64 [sq] ⟨L, nv⟩ K := by
  refine A_slices_Sorted_uint64 h.sorted ?_
  unfold F_slices_Sorted_uint64
  simp
  refine inv_f0 (Collect_N h hQ hi (fun ys rest hd => by have := hb ys rest hd; omega) ?_)
  intro ys va nv' M hd hg
  have hlt : L.length + 2 < (L ++ M).length := (List.getElem?_eq_some_iff.1 hg).1
  have hset : (L ++ M) = (L ++ M).set (L.length + 2) (some (va, .mem 1 (rowsN ys.toArray))) := by rw [rowsN_toArray, set_self hg]
  have hsz : ys.toArray.size < 65536 := by have := hb ys [] (by simpa using hd); simpa using this
  simp
  refine inv_f0 ?_
  rw [hset, show ys.length = ys.toArray.size by simp]
  refine Sort_N h.toSortR hlt ys.toArray hsz ?_
  intro nv2
  have hM : (L ++ M).set (L.length + 2) (some (va, .mem 1 (rowsN (Go.Sort.sort ltN ys.toArray)))) = L ++ M.set 2 (some (va, .mem 1 (rowsN (Go.Sort.sort ltN ys.toArray)))) := by simp
  rw [hM]
  have hm2 : 2 < M.length := by simp at hlt; omega
  have hl : (Go.Sort.sort ltN ys.toArray).size = ys.toArray.size := by have := sortL_len ys; simp only [sortL, Array.length_toList] at this; simpa using this
  refine GhostV.rowk (sz := 1) (es := rowsN (Go.Sort.sort ltN ys.toArray)) (by omega) (by simp [hm2]) (by simp [hl]) ?_
  have e : List.take ys.toArray.size (List.drop 0 (rowsN (Go.Sort.sort ltN ys.toArray))) = (sortL ys).map cN := by
    rw [List.drop_zero, List.take_of_length_le (by simp [hl])]; rfl
  rw [e]
  exact hk ys nv2 hd

def entF (f : Nat → V) (m : Nat) : V × V := (.int .u64 m, f m)
def KeyI (ks : List Nat) (N id ver ep iv : Nat) (J : List Nat → List (Option (Nat × Obj)) → Prop) (k : Nat) (st : St) : Prop :=
  ∃ ys seen L' nv, k = ks.length - seen.length ∧ ys = seen.reverse.map (fun i => ks.getD i 0) ∧ seen.Nodup ∧ (∀ i ∈ seen, i < ks.length) ∧ J ys L' ∧ st = ⟨L' ++ [some (iv, .iter id ver ep seen)], nv⟩
theorem nodup_rev {seen : List Nat} (hn : seen.Nodup) : seen.reverse.Nodup := (List.reverse_perm seen).nodup_iff.2 hn
theorem nodup_full {seen : List Nat} {n : Nat} (hn : seen.Nodup) (hl : ∀ i ∈ seen, i < n) (ha : ∀ i, i < n → i ∈ seen) : seen.reverse.Perm (List.range n) := by
  refine (List.perm_ext_iff_of_nodup (nodup_rev hn) List.nodup_range).2 (fun i => ?_)
  simp only [List.mem_reverse, List.mem_range]
  exact ⟨hl i, ha i⟩
theorem nodup_rest {seen : List Nat} {n : Nat} (hn : seen.Nodup) (hl : ∀ i ∈ seen, i < n) : (seen.reverse ++ (List.range n).filter (fun j => !decide (j ∈ seen))).Perm (List.range n) := by
  refine (List.perm_ext_iff_of_nodup ?_ List.nodup_range).2 (fun j => ?_)
  · rw [List.nodup_append]
    refine ⟨nodup_rev hn, List.nodup_range.filter _, ?_⟩
    intro x hx y hy hxy
    subst hxy
    simp only [List.mem_reverse] at hx
    simp [hx] at hy
  · simp only [List.mem_append, List.mem_reverse, List.mem_filter, List.mem_range, Bool.not_eq_true', decide_eq_false_iff_not]
    constructor
    · rintro (h | h)
      · exact hl j h
      · exact h.1
    · intro hj
      by_cases h1 : j ∈ seen
      · exact .inl h1
      · exact .inr ⟨hj, h1⟩
theorem nodup_le {seen : List Nat} {n : Nat} (hn : seen.Nodup) (hl : ∀ i ∈ seen, i < n) : seen.length ≤ n := by
  have := (nodup_rest hn hl).length_eq
  simp at this
  omega
structure Rising_boolR (P : Program) : Prop extends IterR P where
  keysFbool : R_maps_Keys_map_uint64_bool_uint64_bool P
  keys1Fbool : R_maps_Keys_map_uint64_bool_uint64_bool_1 P
  risingFbool : R_graph_rising_uint64_bool P
theorem keys_bool (h : Rising_boolR P) (ks : List Nat) (f : Nat → V) {b bv id ver ep : Nat} (hnd : ks.Nodup) :
    IterC P cN (.fn (.func n_maps_Keys_map_uint64_bool_uint64_bool_1) [] [.ptr b bv 0 0]) (fun L => L[b]? = some (some (bv, .mem 1 [[.map id ver]])) ∧ L[id]? = some (some (ver, .map ep (ks.map (entF f))))) (fun ys => ys.Perm ks) := by
  intro yv N J S L0 nv0 K hJ hS hy h0 hk hks
  refine AInvE_fn (first := []) ?_
  refine A_maps_Keys_map_uint64_bool_uint64_bool_1 h.keys1Fbool ?_
  unfold F_maps_Keys_map_uint64_bool_uint64_bool_1
  have hbJ : ∀ ys L', J ys L' → L'[b]? = some (some (bv, .mem 1 [[.map id ver]])) := fun ys L' h => (hJ ys L' h).2.1
  have hmJ : ∀ ys L', J ys L' → L'[id]? = some (some (ver, .map ep (ks.map (entF f)))) := fun ys L' h => (hJ ys L' h).2.2
  have hN : ∀ ys L', J ys L' → L'.length = N := fun ys L' h => (hJ ys L' h).1
  simp [hbJ _ _ h0, hmJ _ _ h0]
  refine ⟨KeyI ks N id ver ep nv0 J, ⟨ks.length, GhostV.refl ⟨[], [], L0, nv0 + 1, by simp, rfl, List.nodup_nil, fun i hi => (by cases hi), h0, rfl⟩⟩, ?_⟩
  rintro k st ⟨ys, seen, L', nv, rfl, rfl, hsn, hsl, hJi, rfl⟩
  have hLN := hN _ _ hJi
  have hLN0 := hN _ _ h0
  have gi : ∀ (X : List (Option (Nat × Obj))) o, X.length = N → (X ++ [o])[N]? = some o := fun X o hX => by rw [List.getElem?_append_right (by omega), hX]; simp
  have gm : (⟨L' ++ [some (nv0, .iter id ver ep seen)], nv⟩ : St).get id ver = some (.map ep (ks.map (entF f))) := by
    simp only [St.get]
    rw [List.getElem?_append_left (by have := (List.getElem?_eq_some_iff.1 (hmJ _ _ hJi)).1; exact this), hmJ _ _ hJi]; simp
  rw [hLN0]
  refine op_next (id := N) (ver := nv0) (mid := id) (mver := ver) (ep := ep) (seen := seen) (es := ks.map (entF f)) (by simp only [St.get]; rw [gi _ _ hLN]; simp) gm ?_ ?_
  · intro hall
    simp
    refine GhostV.keep (hk _ _ _ hJi ?_)
    have hp := nodup_full hsn hsl (fun i hi => hall i (by simpa using hi))
    have := hp.map (fun i => ks.getD i 0)
    refine this.trans ?_
    have e : (List.range ks.length).map (fun i => ks.getD i 0) = ks := by
      apply List.ext_getElem (by simp)
      intro i h1 h2
      simp [List.getD, h2]
    rw [e]
  · intro i hi hns
    have hi : i < ks.length := by simpa using hi
    have hset : (L' ++ [some (nv0, Obj.iter id ver ep seen)]).set N (some (nv0, .iter id ver ep (i :: seen))) = L' ++ [some (nv0, .iter id ver ep (i :: seen))] := by
      rw [List.set_append_right _ _ (by omega), hLN]; simp
    have hgd : (ks.map (entF f)).getD i (.junk, .junk) = entF f ks[i] := by simp [List.getD, hi]
    have gm2 : (L' ++ [some (nv0, Obj.iter id ver ep (i :: seen))])[id]? = some (some (ver, .map ep (ks.map (entF f)))) := by
      rw [List.getElem?_append_left (by have := (List.getElem?_eq_some_iff.1 (hmJ _ _ hJi)).1; exact this), hmJ _ _ hJi]
    have gm3 := gi L' (some (nv0, .iter id ver ep (i :: seen))) hLN
    rw [hgd]
    simp [hset, gm2, gm3, hi, entF]
    have hstep : (i :: seen).reverse.map (fun i => ks.getD i 0) = seen.reverse.map (fun i => ks.getD i 0) ++ [ks[i]] := by simp [hi]
    have hle : seen.length + 1 ≤ ks.length := nodup_le (seen := i :: seen) (List.nodup_cons.2 ⟨hns, hsn⟩) (fun j hj => by rcases List.mem_cons.1 hj with rfl | hj; exact hi; exact hsl j hj)
    refine hy _ ks[i] L' [some (nv0, .iter id ver ep (i :: seen))] nv _ hJi ?_ ?_ ?_
    · -- what is left
      refine ⟨((List.range ks.length).filter (fun j => !decide (j ∈ i :: seen))).map (fun i => ks.getD i 0), ?_⟩
      have h1 := nodup_rest (seen := i :: seen) (List.nodup_cons.2 ⟨hns, hsn⟩) (fun j hj => by rcases List.mem_cons.1 hj with rfl | hj; exact hi; exact hsl j hj)
      rw [List.reverse_cons, List.append_assoc, List.singleton_append] at h1
      have h2 := h1.map (fun i => ks.getD i 0)
      have e : (List.range ks.length).map (fun i => ks.getD i 0) = ks := by
        apply List.ext_getElem (by simp)
        intro i h1 h2
        simp [List.getD, h2]
      rw [e] at h2
      simpa [hi] using h2
    · intro L'' H nv' hJ'
      simp
      refine ⟨ks.length - (seen.length + 1), by omega, ?_⟩
      have : L'' ++ (some (nv0, Obj.iter id ver ep (i :: seen)) :: H) = (L'' ++ [some (nv0, .iter id ver ep (i :: seen))]) ++ H := by simp
      rw [this]
      exact GhostV.keep ⟨_, i :: seen, L'', nv', by simp, hstep.symm, List.nodup_cons.2 ⟨hns, hsn⟩, fun j hj => by rcases List.mem_cons.1 hj with rfl | hj; exact hi; exact hsl j hj, hJ', rfl⟩
    · intro L'' H nv' hS'
      simp
      exact GhostV.keep (hks _ _ _ hS')
/-- The keys of a map, rising. -/
theorem rising_bool (h : Rising_boolR P) (ks : List Nat) (f : Nat → V) {L : List (Option (Nat × Obj))} {id ver ep nv : Nat} (hnd : ks.Nodup) (hl : ks.length < 65536) (hm : L[id]? = some (some (ver, .map ep (ks.map (entF f))))) {K : V → St → Prop}
    (hk : ∀ nv', K (.sl .unk 1 ((sortL ks).map cN) []) ⟨L, nv'⟩) : ACalls P n_graph_rising_uint64_bool [.map id ver] ⟨L, nv⟩ K := by
  refine A_graph_rising_uint64_bool h.risingFbool ?_
  unfold F_graph_rising_uint64_bool
  simp
  refine inv_f0 (A_maps_Keys_map_uint64_bool_uint64_bool h.keysFbool ?_)
  unfold F_maps_Keys_map_uint64_bool_uint64_bool
  simp
  refine GhostV.refl ?_
  simp
  have hml : id < L.length := (List.getElem?_eq_some_iff.1 hm).1
  have hit := keys_bool h ks f (b := L.length) (bv := nv) (id := id) (ver := ver) (ep := ep) hnd
  refine inv_f0 (Sorted_N h.toIterR (L := L ++ [some (nv, .mem 1 [[.map id ver]])]) (fun M => ⟨by simp, by rw [List.append_assoc, List.getElem?_append_left hml]; exact hm⟩) hit (fun ys rest hd => by have := hd.length_eq; simp at this; omega) ?_)
  intro ys nv' hd
  have : sortL ys = sortL ks := by
    rw [sortL_eq, sortL_eq]
    refine List.Perm.eq_of_pairwise (le := fun x y : Nat => x ≤ y) (fun a b _ _ h1 h2 => by omega) ?_ ?_ ?_
    · have := sortL_sorted ys; rwa [sortL_eq] at this
    · have := sortL_sorted ks; rwa [sortL_eq] at this
    · exact ((List.mergeSort_perm _ _).trans hd).trans (List.mergeSort_perm _ _).symm
  rw [this]
  exact GhostV.keep (hk nv')
structure Rising_intR (P : Program) : Prop extends IterR P where
  keysFint : R_maps_Keys_map_uint64_int_uint64_int P
  keys1Fint : R_maps_Keys_map_uint64_int_uint64_int_1 P
  risingFint : R_graph_rising_uint64_int P
theorem keys_int (h : Rising_intR P) (ks : List Nat) (f : Nat → V) {b bv id ver ep : Nat} (hnd : ks.Nodup) :
    IterC P cN (.fn (.func n_maps_Keys_map_uint64_int_uint64_int_1) [] [.ptr b bv 0 0]) (fun L => L[b]? = some (some (bv, .mem 1 [[.map id ver]])) ∧ L[id]? = some (some (ver, .map ep (ks.map (entF f))))) (fun ys => ys.Perm ks) := by
  intro yv N J S L0 nv0 K hJ hS hy h0 hk hks
  refine AInvE_fn (first := []) ?_
  refine A_maps_Keys_map_uint64_int_uint64_int_1 h.keys1Fint ?_
  unfold F_maps_Keys_map_uint64_int_uint64_int_1
  have hbJ : ∀ ys L', J ys L' → L'[b]? = some (some (bv, .mem 1 [[.map id ver]])) := fun ys L' h => (hJ ys L' h).2.1
  have hmJ : ∀ ys L', J ys L' → L'[id]? = some (some (ver, .map ep (ks.map (entF f)))) := fun ys L' h => (hJ ys L' h).2.2
  have hN : ∀ ys L', J ys L' → L'.length = N := fun ys L' h => (hJ ys L' h).1
  simp [hbJ _ _ h0, hmJ _ _ h0]
  refine ⟨KeyI ks N id ver ep nv0 J, ⟨ks.length, GhostV.refl ⟨[], [], L0, nv0 + 1, by simp, rfl, List.nodup_nil, fun i hi => (by cases hi), h0, rfl⟩⟩, ?_⟩
  rintro k st ⟨ys, seen, L', nv, rfl, rfl, hsn, hsl, hJi, rfl⟩
  have hLN := hN _ _ hJi
  have hLN0 := hN _ _ h0
  have gi : ∀ (X : List (Option (Nat × Obj))) o, X.length = N → (X ++ [o])[N]? = some o := fun X o hX => by rw [List.getElem?_append_right (by omega), hX]; simp
  have gm : (⟨L' ++ [some (nv0, .iter id ver ep seen)], nv⟩ : St).get id ver = some (.map ep (ks.map (entF f))) := by
    simp only [St.get]
    rw [List.getElem?_append_left (by have := (List.getElem?_eq_some_iff.1 (hmJ _ _ hJi)).1; exact this), hmJ _ _ hJi]; simp
  rw [hLN0]
  refine op_next (id := N) (ver := nv0) (mid := id) (mver := ver) (ep := ep) (seen := seen) (es := ks.map (entF f)) (by simp only [St.get]; rw [gi _ _ hLN]; simp) gm ?_ ?_
  · intro hall
    simp
    refine GhostV.keep (hk _ _ _ hJi ?_)
    have hp := nodup_full hsn hsl (fun i hi => hall i (by simpa using hi))
    have := hp.map (fun i => ks.getD i 0)
    refine this.trans ?_
    have e : (List.range ks.length).map (fun i => ks.getD i 0) = ks := by
      apply List.ext_getElem (by simp)
      intro i h1 h2
      simp [List.getD, h2]
    rw [e]
  · intro i hi hns
    have hi : i < ks.length := by simpa using hi
    have hset : (L' ++ [some (nv0, Obj.iter id ver ep seen)]).set N (some (nv0, .iter id ver ep (i :: seen))) = L' ++ [some (nv0, .iter id ver ep (i :: seen))] := by
      rw [List.set_append_right _ _ (by omega), hLN]; simp
    have hgd : (ks.map (entF f)).getD i (.junk, .junk) = entF f ks[i] := by simp [List.getD, hi]
    have gm2 : (L' ++ [some (nv0, Obj.iter id ver ep (i :: seen))])[id]? = some (some (ver, .map ep (ks.map (entF f)))) := by
      rw [List.getElem?_append_left (by have := (List.getElem?_eq_some_iff.1 (hmJ _ _ hJi)).1; exact this), hmJ _ _ hJi]
    have gm3 := gi L' (some (nv0, .iter id ver ep (i :: seen))) hLN
    rw [hgd]
    simp [hset, gm2, gm3, hi, entF]
    have hstep : (i :: seen).reverse.map (fun i => ks.getD i 0) = seen.reverse.map (fun i => ks.getD i 0) ++ [ks[i]] := by simp [hi]
    have hle : seen.length + 1 ≤ ks.length := nodup_le (seen := i :: seen) (List.nodup_cons.2 ⟨hns, hsn⟩) (fun j hj => by rcases List.mem_cons.1 hj with rfl | hj; exact hi; exact hsl j hj)
    refine hy _ ks[i] L' [some (nv0, .iter id ver ep (i :: seen))] nv _ hJi ?_ ?_ ?_
    · -- what is left
      refine ⟨((List.range ks.length).filter (fun j => !decide (j ∈ i :: seen))).map (fun i => ks.getD i 0), ?_⟩
      have h1 := nodup_rest (seen := i :: seen) (List.nodup_cons.2 ⟨hns, hsn⟩) (fun j hj => by rcases List.mem_cons.1 hj with rfl | hj; exact hi; exact hsl j hj)
      rw [List.reverse_cons, List.append_assoc, List.singleton_append] at h1
      have h2 := h1.map (fun i => ks.getD i 0)
      have e : (List.range ks.length).map (fun i => ks.getD i 0) = ks := by
        apply List.ext_getElem (by simp)
        intro i h1 h2
        simp [List.getD, h2]
      rw [e] at h2
      simpa [hi] using h2
    · intro L'' H nv' hJ'
      simp
      refine ⟨ks.length - (seen.length + 1), by omega, ?_⟩
      have : L'' ++ (some (nv0, Obj.iter id ver ep (i :: seen)) :: H) = (L'' ++ [some (nv0, .iter id ver ep (i :: seen))]) ++ H := by simp
      rw [this]
      exact GhostV.keep ⟨_, i :: seen, L'', nv', by simp, hstep.symm, List.nodup_cons.2 ⟨hns, hsn⟩, fun j hj => by rcases List.mem_cons.1 hj with rfl | hj; exact hi; exact hsl j hj, hJ', rfl⟩
    · intro L'' H nv' hS'
      simp
      exact GhostV.keep (hks _ _ _ hS')
/-- The keys of a map, rising. -/
theorem rising_int (h : Rising_intR P) (ks : List Nat) (f : Nat → V) {L : List (Option (Nat × Obj))} {id ver ep nv : Nat} (hnd : ks.Nodup) (hl : ks.length < 65536) (hm : L[id]? = some (some (ver, .map ep (ks.map (entF f))))) {K : V → St → Prop}
    (hk : ∀ nv', K (.sl .unk 1 ((sortL ks).map cN) []) ⟨L, nv'⟩) : ACalls P n_graph_rising_uint64_int [.map id ver] ⟨L, nv⟩ K := by
  refine A_graph_rising_uint64_int h.risingFint ?_
  unfold F_graph_rising_uint64_int
  simp
  refine inv_f0 (A_maps_Keys_map_uint64_int_uint64_int h.keysFint ?_)
  unfold F_maps_Keys_map_uint64_int_uint64_int
  simp
  refine GhostV.refl ?_
  simp
  have hml : id < L.length := (List.getElem?_eq_some_iff.1 hm).1
  have hit := keys_int h ks f (b := L.length) (bv := nv) (id := id) (ver := ver) (ep := ep) hnd
  refine inv_f0 (Sorted_N h.toIterR (L := L ++ [some (nv, .mem 1 [[.map id ver]])]) (fun M => ⟨by simp, by rw [List.append_assoc, List.getElem?_append_left hml]; exact hm⟩) hit (fun ys rest hd => by have := hd.length_eq; simp at this; omega) ?_)
  intro ys nv' hd
  have : sortL ys = sortL ks := by
    rw [sortL_eq, sortL_eq]
    refine List.Perm.eq_of_pairwise (le := fun x y : Nat => x ≤ y) (fun a b _ _ h1 h2 => by omega) ?_ ?_ ?_
    · have := sortL_sorted ys; rwa [sortL_eq] at this
    · have := sortL_sorted ks; rwa [sortL_eq] at this
    · exact ((List.mergeSort_perm _ _).trans hd).trans (List.mergeSort_perm _ _).symm
  rw [this]
  exact GhostV.keep (hk nv')

end Go.Proofs.Ythoaclojobgelaa.AM

namespace Go.Proofs.Ythoaclojobgelaa.AM
open Go
set_option linter.unusedVariables false
set_option linter.unusedSimpArgs false
variable {P : Program}

structure EdgeT where
  (f t : Nat)
  deriving DecidableEq
@[simp] def cEd (e : EdgeT) : List V := [.int .u64 e.f, .int .u64 e.t]
@[simp] theorem p_ed (l : List EdgeT) : pureLL (l.map cEd) = true := pureLL_map (fun _ => rfl) l
@[simp] theorem take_map_len {α : Type} {f : α → List V} {l : List α} : List.take l.length (l.map f) = l.map f := List.take_of_length_le (by simp)
@[simp] theorem p_N (l : List Nat) : pureLL (l.map cN) = true := pureLL_map (fun _ => rfl) l
theorem PCalls.le {f : FuncId} {as bs : List V} {R : V → Prop} (hl : LeVs as bs) (h : PCalls P f bs R) : PCalls P f as R := ACalls.gv h.1 (GhostV.le hl h)
theorem GhostV.nilr {vs : List V} {st : St} {K : List V → St → Prop} (sz : Nat) (h0 : 0 < sz) (hk : K (.msl st.objs.length st.nv 0 0 :: vs) ⟨st.objs ++ [some (st.nv, .mem sz [])], st.nv + 1⟩) : GhostV (.sl .nil 0 [] [] :: vs) st K :=
  GhostV.nils (vs' := .msl st.objs.length st.nv 0 0 :: vs) (st' := st.push (.mem sz [])) h0 rfl rfl (fun i => by
    cases i with
    | zero => exact .nil _
    | succ i => simpa using Nz.refl _) hk
/-- A row that is built from nothing. -/
theorem GhostV.nil0 {n : Int} {nv sz : Nat} {vs : List V} {K : List V → St → Prop} (h0 : 0 < sz) (hk : K (.msl 0 nv 0 0 :: vs) ⟨[some (nv, .mem sz [])], nv + 1⟩) : GhostV (.sl .nil 0 [] [] :: vs) ⟨[], nv⟩ K := GhostV.nilr sz h0 hk

def WalkI (n : Nat) (q : Nat → Prop) (k : Nat) (v : V) (st : St) : Prop := ∃ i nv, k = n - i ∧ i ≤ n ∧ v = .int .i64 ((i : Nat) : Int) ∧ q i ∧ st = ⟨[], nv⟩

structure RefR (P : Program) : Prop where
  has : R_gazetteerref16_Has P
  wrong : R_gazetteerref16_Wrong P
  same : R_gazetteerref16_Same P
  sameE : R_gazetteerref16_SameEdges P
  wo : R_gazetteerref16_Without P
  wi : R_gazetteerref16_With P

theorem rHas (h : RefR P) (l : List Nat) (n : Nat) (hl : l.length < 2 ^ 40) : PCalls P n_gazetteerref16_Has [.sl .unk 1 (l.map cN) [], .int .u64 n] (fun r => r = .bool (decide (n ∈ l))) := by
  refine A_gazetteerref16_Has h.has ?_
  unfold F_gazetteerref16_Has
  simp [st0]
  refine ⟨WalkI l.length (fun i => n ∉ l.take i), ⟨l.length, GhostV.refl ⟨0, 0, by simp, by simp, by simp, by simp, by simp⟩⟩, ?_⟩
  rintro k1 v8 st ⟨i, nv, rfl, hi, rfl, hn, rfl⟩
  by_cases hlt : i < l.length
  · simp [hlt]
    by_cases he : l[i] = n
    · simp [he]
      exact GhostV.refl ⟨rfl, by simp; rw [← he]; exact List.getElem_mem hlt⟩
    · simp [he]
      refine ⟨l.length - (i + 1), by omega, GhostV.refl ⟨i + 1, nv, rfl, by omega, by rw [wadd1 (by omega)], ?_, rfl⟩⟩
      dsimp only
      rw [take_snoc hlt, List.mem_append]
      rintro (h | h)
      · exact hn h
      · exact he (List.mem_singleton.1 h).symm
  · simp [hlt]
    rw [List.take_of_length_le (by omega)] at hn
    exact GhostV.refl ⟨rfl, by simp [hn]⟩

def okS (l : List EdgeT) : Bool := l.all (fun e => e.f != 0 && e.t != 0)
def wrongS (l : List EdgeT) : Int := if 64 < l.length then 3 else if okS l then 0 else 2
theorem rWrong (h : RefR P) (l : List EdgeT) (hl : l.length < 2 ^ 40) : PCalls P n_gazetteerref16_Wrong [.sl .unk 2 (l.map cEd) []] (fun r => r = .int .i64 (wrongS l)) := by
  refine A_gazetteerref16_Wrong h.wrong ?_
  unfold F_gazetteerref16_Wrong
  simp [st0]
  by_cases h64 : 64 < l.length
  · have : (64 : Int) < l.length := by omega
    simp [this]
    exact GhostV.refl ⟨rfl, by simp [wrongS, h64]⟩
  · have : ¬ (64 : Int) < l.length := by omega
    simp [this]
    refine ⟨WalkI l.length (fun i => okS (l.take i) = true), ⟨l.length, GhostV.refl ⟨0, 0, by simp, by simp, by simp, by simp [okS], by simp⟩⟩, ?_⟩
    rintro k1 v8 st ⟨i, nv, rfl, hi, rfl, hn, rfl⟩
    by_cases hlt : i < l.length
    · simp [hlt]
      have hsplit : ∀ x : EdgeT, x = l[i] → (x.f != 0 && x.t != 0) = false → wrongS l = 2 := by
        rintro x rfl h2
        have : okS l = false := by
          unfold okS; rw [List.all_eq_false]; exact ⟨_, List.getElem_mem hlt, by simp [h2]⟩
        simp [wrongS, h64, this]
      by_cases h1 : l[i].f = 0
      · simp [h1]
        exact GhostV.refl ⟨rfl, by simp [hsplit _ rfl (by simp [h1])]⟩
      · by_cases h2 : l[i].t = 0
        · simp [h1, h2]
          exact GhostV.refl ⟨rfl, by simp [hsplit _ rfl (by simp [h2])]⟩
        · simp [h1, h2]
          refine ⟨l.length - (i + 1), by omega, GhostV.bare ⟨i + 1, _, rfl, by omega, by rw [wadd1 (by omega)], ?_, rfl⟩⟩
          dsimp only
          unfold okS at hn ⊢
          rw [take_snoc hlt, List.all_append, hn]
          simp [h1, h2]
    · simp [hlt]
      rw [List.take_of_length_le (by omega)] at hn
      exact GhostV.refl ⟨rfl, by simp [wrongS, h64, hn]⟩

theorem rSame (h : RefR P) (a b : List Nat) (ha : a.length < 2 ^ 40) : PCalls P n_gazetteerref16_Same [.sl .unk 1 (a.map cN) [], .sl .unk 1 (b.map cN) []] (fun r => r = .bool (decide (a = b))) := by
  refine A_gazetteerref16_Same h.same ?_
  unfold F_gazetteerref16_Same
  simp [st0]
  by_cases hlen : a.length = b.length
  · simp [hlen]
    refine ⟨WalkI a.length (fun i => a.take i = b.take i), ⟨a.length, GhostV.refl ⟨0, 0, by simp, by simp, by simp, by simp, by simp⟩⟩, ?_⟩
    rintro k1 v8 st ⟨i, nv, rfl, hi, rfl, hn, rfl⟩
    by_cases hlt : i < a.length
    · have hlt2 : i < b.length := by omega
      simp [hlt, hlt2]
      by_cases he : a[i] = b[i]
      · simp [he]
        refine ⟨a.length - (i + 1), by omega, GhostV.refl ⟨i + 1, nv, rfl, by omega, by rw [wadd1 (by omega)], ?_, rfl⟩⟩
        dsimp only
        rw [take_snoc hlt, take_snoc hlt2, hn, he]
      · simp [he]
        refine GhostV.refl ⟨rfl, ?_⟩
        have : a ≠ b := fun e => he (by subst e; rfl)
        simp [this]
    · have hlt2 : ¬ i < b.length := by omega
      simp [hlt, hlt2]
      rw [List.take_of_length_le (by omega), List.take_of_length_le (by omega)] at hn
      exact GhostV.refl ⟨rfl, by simp [hn]⟩
  · simp [hlen]
    refine GhostV.refl ⟨rfl, ?_⟩
    have : a ≠ b := fun e => hlen (by rw [e])
    simp [this]

theorem rSameE (h : RefR P) (a b : List EdgeT) (ha : a.length < 2 ^ 40) : PCalls P n_gazetteerref16_SameEdges [.sl .unk 2 (a.map cEd) [], .sl .unk 2 (b.map cEd) []] (fun r => r = .bool (decide (a = b))) := by
  refine A_gazetteerref16_SameEdges h.sameE ?_
  unfold F_gazetteerref16_SameEdges
  simp [st0]
  by_cases hlen : a.length = b.length
  · simp [hlen]
    refine ⟨WalkI a.length (fun i => a.take i = b.take i), ⟨a.length, GhostV.refl ⟨0, 0, by simp, by simp, by simp, by simp, by simp⟩⟩, ?_⟩
    rintro k1 v8 st ⟨i, nv, rfl, hi, rfl, hn, rfl⟩
    by_cases hlt : i < a.length
    · have hlt2 : i < b.length := by omega
      simp [hlt, hlt2]
      by_cases he : a[i] = b[i]
      · simp [he]
        refine ⟨a.length - (i + 1), by omega, GhostV.refl ⟨i + 1, nv, rfl, by omega, by rw [wadd1 (by omega)], ?_, rfl⟩⟩
        dsimp only
        rw [take_snoc hlt, take_snoc hlt2, hn, he]
      · have he' : ¬ (a[i].f = b[i].f ∧ a[i].t = b[i].t) := fun h => he (by generalize a[i] = x at h; generalize b[i] = y at h; obtain ⟨_, _⟩ := x; obtain ⟨_, _⟩ := y; simpa using h)
        have : a ≠ b := fun e => he (by subst e; rfl)
        by_cases h1 : a[i].f = b[i].f
        · have h2 : ¬ a[i].t = b[i].t := fun h => he' ⟨h1, h⟩
          simp [h1, h2]
          exact GhostV.refl ⟨rfl, by simp [this]⟩
        · simp [h1]
          exact GhostV.refl ⟨rfl, by simp [this]⟩
    · have hlt2 : ¬ i < b.length := by omega
      simp [hlt, hlt2]
      rw [List.take_of_length_le (by omega), List.take_of_length_le (by omega)] at hn
      exact GhostV.refl ⟨rfl, by simp [hn]⟩
  · simp [hlen]
    refine GhostV.refl ⟨rfl, ?_⟩
    have : a ≠ b := fun e => hlen (by rw [e])
    simp [this]

def woS (l : List EdgeT) (n : Nat) : List EdgeT := l.filter fun e => e.f != n && e.t != n
def WoI {α : Type} (sz n : Nat) (enc : α → List V) (r : Nat → List α) (k : Nat) (v5 v : V) (st : St) : Prop := ∃ i va nv, k = n - i ∧ i ≤ n ∧ v = .int .i64 ((i : Nat) : Int) ∧ v5 = .msl 0 va 0 (r i).length ∧ st = ⟨[some (va, .mem sz ((r i).map enc))], nv⟩
theorem rWithout (h : RefR P) (l : List EdgeT) (n : Nat) (hl : l.length < 2 ^ 40) : PCalls P n_gazetteerref16_Without [.sl .unk 2 (l.map cEd) [], .int .u64 n] (fun r => r = .sl .unk 2 ((woS l n).map cEd) []) := by
  refine A_gazetteerref16_Without h.wo ?_
  unfold F_gazetteerref16_Without
  simp [st0]
  refine ⟨WoI 2 l.length cEd (fun i => woS (l.take i) n), ⟨l.length, GhostV.nilr 2 (by decide) ⟨0, 0, 1, by simp, by simp, by simp, by simp [woS], by simp [woS]⟩⟩, ?_⟩
  rintro k1 v5 v8 st ⟨i, va, nv, rfl, hi, rfl, rfl, rfl⟩
  by_cases hlt : i < l.length
  · have hle : (woS (l.take i) n).length ≤ i := by
      have := List.length_filter_le (fun e : EdgeT => e.f != n && e.t != n) (l.take i)
      simp only [List.length_take] at this
      unfold woS; omega
    have hstep : woS (l.take (i + 1)) n = woS (l.take i) n ++ (if l[i].f != n && l[i].t != n then [l[i]] else []) := by
      rw [take_snoc hlt]; unfold woS; rw [List.filter_append]; congr 1
      simp only [List.filter_cons, List.filter_nil]
    simp [hlt]
    by_cases h1 : l[i].f = n
    · simp [h1] at hstep
      simp [h1]
      exact ⟨l.length - (i + 1), by omega, GhostV.keep (L := [_]) ⟨i + 1, va, _, rfl, by omega, by rw [wadd1 (by omega)], by dsimp only; rw [hstep], by dsimp only; rw [hstep]⟩⟩
    · by_cases h2 : l[i].t = n
      · simp [h1, h2] at hstep
        simp [h1, h2]
        exact ⟨l.length - (i + 1), by omega, GhostV.keep (L := [_]) ⟨i + 1, va, _, rfl, by omega, by rw [wadd1 (by omega)], by dsimp only; rw [hstep], by dsimp only; rw [hstep]⟩⟩
      · simp [h1, h2] at hstep
        simp [h1, h2]
        refine ⟨by omega, l.length - (i + 1), by omega, GhostV.keep (L := [_]) ⟨i + 1, nv + 1 + 1, nv + 1 + 1 + 1, rfl, by omega, by rw [wadd1 (by omega)], by dsimp only; rw [hstep]; simp, by dsimp only; rw [hstep]; simp⟩⟩
  · simp [hlt]
    rw [List.take_of_length_le (by omega)]
    refine GhostV.row1 (sz := 2) (es := (woS l n).map cEd) (by simp [St.get]) (by simp) ?_
    exact ⟨by simp, by simp⟩

def insG (n : Nat) : List Nat → List Nat
  | [] => [n]
  | x :: l => if n < x then n :: x :: l else x :: insG n l
def withS (l : List Nat) (n : Nat) : List Nat := if n ∈ l then l else insG n l
def WithI (l : List Nat) (n : Nat) (k : Nat) (v5 v6 v11 : V) (st : St) : Prop := ∃ i va nv out done, k = l.length - i ∧ i ≤ l.length ∧ v11 = .int .i64 ((i : Nat) : Int) ∧ v6 = .bool done ∧ v5 = .msl 0 va 0 (out : List Nat).length ∧ st = ⟨[some (va, .mem 1 (out.map cN))], nv⟩ ∧ out.length ≤ 2 * i ∧ n ∉ l.take i ∧ out ++ (if done = true then l.drop i else insG n (l.drop i)) = insG n l
theorem rWith (h : RefR P) (l : List Nat) (n : Nat) (hl : l.length < 2 ^ 40) : PCalls P n_gazetteerref16_With [.sl .unk 1 (l.map cN) [], .int .u64 n] (fun r => r = .sl .unk 1 ((withS l n).map cN) []) := by
  refine A_gazetteerref16_With h.wi ?_
  unfold F_gazetteerref16_With
  simp [st0]
  refine ⟨WithI l n, ⟨l.length, GhostV.nilr 1 (by decide) ⟨0, 0, 1, [], false, by simp, by simp, by simp, rfl, by simp, by simp, by simp, by simp, by simp⟩⟩, ?_⟩
  rintro k1 v5 v6 v8 st ⟨i, va, nv, out, done, rfl, hi, rfl, rfl, rfl, rfl, ho, hn, hfin⟩
  by_cases hlt : i < l.length
  · have hd : l.drop i = l[i] :: l.drop (i + 1) := List.drop_eq_getElem_cons hlt
    rw [hd] at hfin
    simp [hlt]
    by_cases he : l[i] = n
    · have hm : n ∈ l := by rw [← he]; exact List.getElem_mem hlt
      simp [he]
      exact GhostV.refl ⟨by simp, by simp [withS, hm]⟩
    · have hn' : n ∉ l.take (i + 1) := by
        rw [take_snoc hlt, List.mem_append]
        rintro (h | h)
        · exact hn h
        · exact he (List.mem_singleton.1 h).symm
      simp [he]
      by_cases hg : n < l[i]
      · cases done
        · simp [hg, insG] at hfin
          simp [hg]
          refine ⟨by omega, by omega, l.length - (i + 1), by omega, GhostV.keep (L := [_]) ⟨i + 1, nv + 1 + 1 + 1, nv + 1 + 1 + 1 + 1, out ++ [n, l[i]], true, rfl, by omega, by rw [wadd1 (by omega)], rfl, by simp, by simp, by simp; omega, hn', by simpa using hfin⟩⟩
        · simp at hfin
          simp [hg]
          refine ⟨by omega, l.length - (i + 1), by omega, GhostV.keep (L := [_]) ⟨i + 1, nv + 1, nv + 1 + 1, out ++ [l[i]], true, rfl, by omega, by rw [wadd1 (by omega)], rfl, by simp, by simp, by simp; omega, hn', by simpa using hfin⟩⟩
      · cases done
        · simp [hg, insG] at hfin
          simp [hg]
          refine ⟨by omega, l.length - (i + 1), by omega, GhostV.keep (L := [_]) ⟨i + 1, nv + 1, nv + 1 + 1, out ++ [l[i]], false, rfl, by omega, by rw [wadd1 (by omega)], rfl, by simp, by simp, by simp; omega, hn', by simpa using hfin⟩⟩
        · simp at hfin
          simp [hg]
          refine ⟨by omega, l.length - (i + 1), by omega, GhostV.keep (L := [_]) ⟨i + 1, nv + 1, nv + 1 + 1, out ++ [l[i]], true, rfl, by omega, by rw [wadd1 (by omega)], rfl, by simp, by simp, by simp; omega, hn', by simpa using hfin⟩⟩
  · rw [List.take_of_length_le (by omega)] at hn
    rw [List.drop_eq_nil_of_le (by omega)] at hfin
    have hw : withS l n = insG n l := by simp [withS, hn]
    simp [hlt]
    cases done
    · simp [insG] at hfin
      simp
      refine ⟨by omega, GhostV.row1 (sz := 1) (es := (withS l n).map cN) (by rw [hw, ← hfin]; simp [St.get]) (by rw [hw, ← hfin]; simp) ?_⟩
      have : out.length + 1 = (withS l n).length := by rw [hw, ← hfin]; simp
      rw [this]
      exact ⟨by simp, by simp⟩
    · simp at hfin
      simp
      refine GhostV.row1 (sz := 1) (es := (withS l n).map cN) (by rw [hw, ← hfin]; simp [St.get]) (by rw [hw, ← hfin]; simp) ?_
      have : out.length = (withS l n).length := by rw [hw, ← hfin]
      rw [this]
      exact ⟨by simp, by simp⟩
end Go.Proofs.Ythoaclojobgelaa.AM

namespace Go.Proofs.Ythoaclojobgelaa.AM
open Go
set_option linter.unusedVariables false
set_option linter.unusedSimpArgs false
variable {P : Program}

theorem insG_len (n : Nat) : ∀ l, (insG n l).length = l.length + 1
  | [] => rfl
  | x :: l => by simp only [insG]; split <;> simp [insG_len n l]
theorem withS_len (l : List Nat) (n : Nat) : (withS l n).length ≤ l.length + 1 := by unfold withS; split <;> simp [insG_len]
theorem foldl_snoc {α β : Type} {f : β → α → β} {b : β} {l : List α} {i : Nat} (h : i < l.length) : (l.take (i + 1)).foldl f b = f ((l.take i).foldl f b) l[i] := by rw [take_snoc h, List.foldl_append]; rfl
theorem foldl_grow {α : Type} {f : List Nat → α → List Nat} (hf : ∀ b x, (f b x).length ≤ b.length + 1) : ∀ (l : List α) (b : List Nat), (l.foldl f b).length ≤ b.length + l.length
  | [], b => by simp
  | x :: l, b => by have := foldl_grow hf l (f b x); have := hf b x; simp only [List.foldl_cons, List.length_cons]; omega

structure RefR2 (P : Program) : Prop extends RefR P where
  reach : R_gazetteerref16_Reach P
  on : R_gazetteerref16_On P
  far : R_gazetteerref16_Far P
  circ : R_gazetteerref16_Circle P
  vic : R_gazetteerref16_Victim P

theorem LeVs.nilrow {vs : List V} {sz : Nat} : LeVs (.sl .nil 0 [] [] :: vs) (.sl .unk sz [] [] :: vs) := .cons (.nil 0 sz) (.refl _)

/-! ### Reach -/
def reachStep (a : Nat) (out : List Nat) (e : EdgeT) : List Nat := if e.f = a ∨ e.f ∈ out then withS out e.t else out
def reachPass (l : List EdgeT) (a : Nat) (out : List Nat) : List Nat := l.foldl (reachStep a) out
def reachN (l : List EdgeT) (a : Nat) : Nat → List Nat
  | 0 => []
  | k + 1 => reachPass l a (reachN l a k)
def reachS (l : List EdgeT) (a : Nat) : List Nat := reachN l a 65
theorem reachStep_len (a : Nat) (b : List Nat) (e : EdgeT) : (reachStep a b e).length ≤ b.length + 1 := by unfold reachStep; split; exact withS_len _ _; omega
theorem reachN_len (l : List EdgeT) (a : Nat) : ∀ k, (reachN l a k).length ≤ k * l.length
  | 0 => by simp [reachN]
  | k + 1 => by
    have := foldl_grow (reachStep_len a) l (reachN l a k)
    have := reachN_len l a k
    simp only [reachN, reachPass, Nat.succ_mul]; omega
def RowI {α : Type} (sz n : Nat) (enc : α → List V) (r : Nat → List α) (k : Nat) (v5 v : V) (st : St) : Prop := ∃ i nv, k = n - i ∧ i ≤ n ∧ v = .int .i64 ((i : Nat) : Int) ∧ v5 = .sl .unk sz ((r i).map enc) [] ∧ st = ⟨[], nv⟩

theorem rReach (h : RefR2 P) (l : List EdgeT) (a : Nat) (hl : l.length ≤ 100) : PCalls P n_gazetteerref16_Reach [.sl .unk 2 (l.map cEd) [], .int .u64 a] (fun r => r = .sl .unk 1 ((reachS l a).map cN) []) := by
  refine A_gazetteerref16_Reach h.reach ?_
  unfold F_gazetteerref16_Reach
  refine ⟨RowI 1 65 cN (reachN l a), ⟨65, GhostV.le (LeVs.nilrow (sz := 1)) ⟨0, 0, by simp, by simp, by simp, by simp [reachN], rfl⟩⟩, ?_⟩
  rintro k1 v5 v8 st ⟨i, nv, rfl, hi, rfl, rfl, rfl⟩
  by_cases hlt : i < 65
  · have : (i : Int) < 65 := by omega
    simp [this]
    have hb := reachN_len l a i
    refine ⟨RowI 1 l.length cN (fun j => (l.take j).foldl (reachStep a) (reachN l a i)), ⟨l.length, GhostV.refl ⟨0, nv, by simp, by simp, by simp, by simp, rfl⟩⟩, ?_⟩
    rintro k2 v5 v12 st ⟨j, nv2, rfl, hj, rfl, rfl, rfl⟩
    by_cases hlt2 : j < l.length
    · have hb2 := foldl_grow (reachStep_len a) (l.take j) (reachN l a i)
      have hb3 : (reachN l a i).length ≤ 65 * 100 := Nat.le_trans hb (Nat.mul_le_mul (by omega) hl)
      have hb4 : ((l.take j).foldl (reachStep a) (reachN l a i)).length ≤ 65 * 100 + 100 := by simp only [List.length_take] at hb2; omega
      have hstep := foldl_snoc (f := reachStep a) (b := reachN l a i) hlt2
      simp [hlt2]
      generalize ho : (l.take j).foldl (reachStep a) (reachN l a i) = out at hb4 hstep ⊢
      by_cases h1 : l[j].f = a
      · simp [reachStep, h1] at hstep
        simp [h1]
        refine inv_p (rWith h.toRefR out l[j].t (by omega)) (by first | (simp; done) | simp [*]) (by simp [pureL, pureLL]) ?_
        rintro _ rfl
        simp
        exact ⟨l.length - (j + 1), by omega, GhostV.bare ⟨j + 1, _, rfl, by omega, by rw [wadd1 (by omega)], by simp [hstep, ho], rfl⟩⟩
      · simp [h1]
        refine inv_p (rHas h.toRefR out l[j].f (by omega)) (by first | (simp; done) | simp [*]) (by simp [pureL, pureLL]) ?_
        rintro _ rfl
        by_cases h2 : l[j].f ∈ out
        · simp [reachStep, h1, h2] at hstep
          simp [h1, h2]
          refine inv_p (rWith h.toRefR out l[j].t (by omega)) (by first | (simp; done) | simp [*]) (by simp [pureL, pureLL]) ?_
          rintro _ rfl
          simp
          exact ⟨l.length - (j + 1), by omega, GhostV.bare ⟨j + 1, _, rfl, by omega, by rw [wadd1 (by omega)], by simp [hstep, ho], rfl⟩⟩
        · simp [reachStep, h1, h2] at hstep
          simp [h1, h2]
          exact ⟨l.length - (j + 1), by omega, GhostV.bare ⟨j + 1, _, rfl, by omega, by rw [wadd1 (by omega)], by simp [hstep, ho], rfl⟩⟩
    · simp [hlt2]
      rw [List.take_of_length_le (by omega)]
      exact ⟨65 - (i + 1), by omega, GhostV.refl ⟨i + 1, nv2, rfl, by omega, by rw [wadd1 (by omega)], by simp [reachN, reachPass], rfl⟩⟩
  · have : ¬ (i : Int) < 65 := by omega
    obtain rfl : i = 65 := by omega
    simp
    exact GhostV.refl ⟨by simp, by simp [reachS]⟩
theorem reachS_len (l : List EdgeT) (a : Nat) (hl : l.length ≤ 100) : (reachS l a).length ≤ 6500 := Nat.le_trans (reachN_len l a 65) (Nat.mul_le_mul (Nat.le_refl 65) hl)

/-! ### On -/
def onStep (l : List EdgeT) (out : List Nat) (e : EdgeT) : List Nat := if e.f ∈ reachS l e.f then withS out e.f else out
def onS (l : List EdgeT) : List Nat := l.foldl (onStep l) []
theorem onStep_len (l : List EdgeT) (b : List Nat) (e : EdgeT) : (onStep l b e).length ≤ b.length + 1 := by unfold onStep; split; exact withS_len _ _; omega
theorem rOn (h : RefR2 P) (l : List EdgeT) (hl : l.length ≤ 100) : PCalls P n_gazetteerref16_On [.sl .unk 2 (l.map cEd) []] (fun r => r = .sl .unk 1 ((onS l).map cN) []) := by
  refine A_gazetteerref16_On h.on ?_
  unfold F_gazetteerref16_On
  simp [st0]
  refine ⟨RowI 1 l.length cN (fun j => (l.take j).foldl (onStep l) []), ⟨l.length, GhostV.le (LeVs.nilrow (sz := 1)) ⟨0, 0, by simp, by simp, by simp, by simp, rfl⟩⟩, ?_⟩
  rintro k1 v5 v8 st ⟨j, nv, rfl, hj, rfl, rfl, rfl⟩
  by_cases hlt : j < l.length
  · have hb := foldl_grow (onStep_len l) (l.take j) []
    have hb4 : ((l.take j).foldl (onStep l) []).length ≤ 100 := by simp only [List.length_take, List.length_nil] at hb; omega
    have hstep := foldl_snoc (f := onStep l) (b := []) hlt
    simp [hlt]
    generalize ho : (l.take j).foldl (onStep l) [] = out at hb4 hstep ⊢
    refine inv_p (rReach h l l[j].f hl) (by first | (simp; done) | simp [*]) (by simp [pureL, pureLL]) ?_
    rintro _ rfl
    simp
    refine inv_p (rHas h.toRefR (reachS l l[j].f) l[j].f (by have := reachS_len l l[j].f hl; omega)) (by first | (simp; done) | simp [*]) (by simp [pureL, pureLL]) ?_
    rintro _ rfl
    by_cases h2 : l[j].f ∈ reachS l l[j].f
    · simp [onStep, h2] at hstep
      simp [h2]
      refine inv_p (rWith h.toRefR out l[j].f (by omega)) (by first | (simp; done) | simp [*]) (by simp [pureL, pureLL]) ?_
      rintro _ rfl
      simp
      exact ⟨l.length - (j + 1), by omega, GhostV.bare ⟨j + 1, _, rfl, by omega, by rw [wadd1 (by omega)], by simp [hstep, ho], rfl⟩⟩
    · simp [onStep, h2] at hstep
      simp [h2]
      exact ⟨l.length - (j + 1), by omega, GhostV.bare ⟨j + 1, _, rfl, by omega, by rw [wadd1 (by omega)], by simp [hstep, ho], rfl⟩⟩
  · simp [hlt]
    rw [List.take_of_length_le (by omega)]
    exact GhostV.refl ⟨by simp, by simp [onS]⟩
theorem onS_len (l : List EdgeT) : (onS l).length ≤ l.length := by have := foldl_grow (onStep_len l) l []; simpa [onS] using this

/-! ### Far -/
def nextStep (near : List Nat) (nx : List Nat) (e : EdgeT) : List Nat := if e.f ∈ near then withS nx e.t else nx
def nextS (l : List EdgeT) (near : List Nat) : List Nat := l.foldl (nextStep near) []
def levS (l : List EdgeT) (a : Nat) : Nat → List Nat
  | 0 => [a]
  | k + 1 => nextS l (levS l a k)
def farGo (q : Nat → Bool) : Nat → Nat → Int
  | 0, _ => -1
  | f + 1, n => if q n then n else farGo q f (n + 1)
def farS (l : List EdgeT) (a b : Nat) : Int := farGo (fun n => decide (b ∈ levS l a n)) 64 1
theorem nextStep_len (near : List Nat) (b : List Nat) (e : EdgeT) : (nextStep near b e).length ≤ b.length + 1 := by unfold nextStep; split; exact withS_len _ _; omega
theorem nextS_len (l : List EdgeT) (near : List Nat) : (nextS l near).length ≤ l.length := by have := foldl_grow (nextStep_len near) l []; simpa [nextS] using this
theorem levS_len (l : List EdgeT) (a : Nat) : ∀ k, (levS l a k).length ≤ l.length + 1
  | 0 => by simp [levS]
  | k + 1 => by have := nextS_len l (levS l a k); simp only [levS]; omega
def FarI (l : List EdgeT) (a b : Nat) (k : Nat) (v7 v8 : V) (st : St) : Prop := ∃ n nv, k = 65 - (n + 1) ∧ n ≤ 64 ∧ v8 = .int .i64 ((n + 1 : Nat) : Int) ∧ (v7 = .sl .unk 1 ((levS l a n).map cN) []) ∧ farGo (fun n => decide (b ∈ levS l a n)) (64 - n) (n + 1) = farS l a b ∧ st = ⟨[], nv⟩
theorem rFar (h : RefR2 P) (l : List EdgeT) (a b : Nat) (hl : l.length ≤ 100) : PCalls P n_gazetteerref16_Far [.sl .unk 2 (l.map cEd) [], .int .u64 a, .int .u64 b] (fun r => r = .int .i64 (farS l a b)) := by
  refine A_gazetteerref16_Far h.far ?_
  unfold F_gazetteerref16_Far
  simp [st0]
  refine ⟨FarI l a b, ⟨64, GhostV.rowc (sz := 1) (es := [[.int .u64 a]]) (by simp [St.get]) (by simp) ⟨0, 1, by simp, by simp, by simp, by simp [levS], by simp [farS], by simp⟩⟩, ?_⟩
  rintro k1 v7 v8 st ⟨n, nv, rfl, hn, rfl, rfl, hfin, rfl⟩
  by_cases hlt : n < 64
  · have : (n : Int) + 1 ≤ 64 := by omega
    simp [this]
    have e64 : 64 - n = (64 - (n + 1)) + 1 := by omega
    rw [e64, farGo] at hfin
    have hlv := levS_len l a n
    refine ⟨RowI 1 l.length cN (fun j => (l.take j).foldl (nextStep (levS l a n)) []), ⟨l.length, GhostV.le (LeVs.nilrow (sz := 1)) ⟨0, nv, by simp, by simp, by simp, by simp, rfl⟩⟩, ?_⟩
    rintro k2 v5 v12 st ⟨j, nv2, rfl, hj, rfl, rfl, rfl⟩
    by_cases hlt2 : j < l.length
    · have hb := foldl_grow (nextStep_len (levS l a n)) (l.take j) []
      have hb4 : ((l.take j).foldl (nextStep (levS l a n)) []).length ≤ 100 := by simp only [List.length_take, List.length_nil] at hb; omega
      have hstep := foldl_snoc (f := nextStep (levS l a n)) (b := []) hlt2
      simp [hlt2]
      generalize ho : (l.take j).foldl (nextStep (levS l a n)) [] = out at hb4 hstep ⊢
      refine inv_p (rHas h.toRefR (levS l a n) l[j].f (by omega)) (by first | (simp; done) | simp [*]) (by simp [pureL, pureLL]) ?_
      rintro _ rfl
      by_cases h2 : l[j].f ∈ levS l a n
      · simp [nextStep, h2] at hstep
        simp [h2]
        refine inv_p (rWith h.toRefR out l[j].t (by omega)) (by first | (simp; done) | simp [*]) (by simp [pureL, pureLL]) ?_
        rintro _ rfl
        simp
        exact ⟨l.length - (j + 1), by omega, GhostV.bare ⟨j + 1, _, rfl, by omega, by rw [wadd1 (by omega)], by simp [hstep, ho], rfl⟩⟩
      · simp [nextStep, h2] at hstep
        simp [h2]
        exact ⟨l.length - (j + 1), by omega, GhostV.bare ⟨j + 1, _, rfl, by omega, by rw [wadd1 (by omega)], by simp [hstep, ho], rfl⟩⟩
    · simp [hlt2]
      rw [List.take_of_length_le (by omega)]
      have elv : l.foldl (nextStep (levS l a n)) [] = levS l a (n + 1) := rfl
      rw [elv]
      refine inv_p (rHas h.toRefR (levS l a (n + 1)) b (by have := levS_len l a (n + 1); omega)) (by first | (simp; done) | simp [*]) (by simp [pureL, pureLL]) ?_
      rintro _ rfl
      by_cases h2 : b ∈ levS l a (n + 1)
      · simp [h2] at hfin
        simp [h2]
        exact GhostV.refl ⟨by simp, by simp [← hfin]⟩
      · simp [h2] at hfin
        simp [h2]
        exact ⟨65 - (n + 1 + 1), by omega, GhostV.refl ⟨n + 1, nv2, rfl, by omega, by rw [show ((n : Int) + 1) = ((n + 1 : Nat) : Int) by simp, wadd1 (by omega)], by simp [show l.take j = l from List.take_of_length_le (by omega), elv], by rw [show 64 - (n + 1) = 63 - n by omega]; exact hfin, rfl⟩⟩
  · obtain rfl : n = 64 := by omega
    simp
    exact GhostV.refl ⟨by simp, by simpa [farGo] using hfin⟩

/-! ### Circle -/
def bestStep (l : List EdgeT) (n at' left : Nat) (b : Nat × Bool) (e : EdgeT) : Nat × Bool := if (e.f = at' ∧ (b.2 = false ∨ e.t < b.1)) ∧ farS l e.t n = left then (e.t, true) else b
def bestS (l : List EdgeT) (n at' left : Nat) : Nat := (l.foldl (bestStep l n at' left) (0, false)).1
def circGo (l : List EdgeT) (n : Nat) : Nat → Nat → List Nat
  | 0, _ => []
  | left + 1, at' => bestS l n at' (left + 1) :: circGo l n left (bestS l n at' (left + 1))
def circS (l : List EdgeT) (n : Nat) : List Nat := n :: circGo l n (farS l n n - 1).toNat n
theorem farGo_le (q : Nat → Bool) : ∀ f n, -1 ≤ farGo q f n ∧ farGo q f n ≤ n + f
  | 0, n => by simp [farGo]; try omega
  | f + 1, n => by
    have := farGo_le q f (n + 1)
    unfold farGo; split
    · omega
    · omega
theorem farGo_pos (q : Nat → Bool) : ∀ f n, 0 < n → farGo q f n ≠ 0
  | 0, n, h => by simp [farGo]
  | f + 1, n, h => by
    have := farGo_pos q f (n + 1) (by omega)
    unfold farGo; split
    · omega
    · exact this
theorem farS_le (l : List EdgeT) (a b : Nat) : -1 ≤ farS l a b ∧ farS l a b ≤ 65 ∧ farS l a b ≠ 0 := by
  have := farGo_le (fun n => decide (b ∈ levS l a n)) 64 1
  exact ⟨this.1, by unfold farS; omega, farGo_pos _ _ _ (by decide)⟩
def CircI (l : List EdgeT) (n : Nat) (k : Nat) (v5 v6 v7 : V) (st : St) : Prop := ∃ left at' va nv out, left = k ∧ left ≤ 65 ∧ ((v7 = .int .i64 ((left : Nat) : Int)) ∨ left = 0 ∧ v7 = .int .i64 (-2)) ∧ v6 = .int .u64 ((at' : Nat) : Int) ∧ v5 = .msl 0 va 0 (out : List Nat).length ∧ st = ⟨[some (va, .mem 1 (out.map cN))], nv⟩ ∧ out.length + left ≤ 70 ∧ out ++ circGo l n left at' = circS l n
def BestI (l : List EdgeT) (r : Nat → Nat × Bool) (X : List (Option (Nat × Obj))) (k : Nat) (v8 v9 v26 : V) (st : St) : Prop := ∃ j nv bv bf, k = l.length - j ∧ j ≤ l.length ∧ v26 = .int .i64 ((j : Nat) : Int) ∧ r j = (bv, bf) ∧ v8 = .int .u64 ((bv : Nat) : Int) ∧ v9 = .bool bf ∧ st = ⟨X, nv⟩
theorem rCircle (h : RefR2 P) (l : List EdgeT) (n : Nat) (hl : l.length ≤ 100) : PCalls P n_gazetteerref16_Circle [.sl .unk 2 (l.map cEd) [], .int .u64 n] (fun r => r = .sl .unk 1 ((circS l n).map cN) []) := by
  refine A_gazetteerref16_Circle h.circ ?_
  unfold F_gazetteerref16_Circle
  simp [st0]
  refine inv_p (rFar h l n n hl) (by simp) (by simp [pureL, pureLL]) ?_
  rintro _ rfl
  have hf := farS_le l n n
  have e1 : IntKind.i64.wrap (farS l n n - 1) = farS l n n - 1 := wrap_i64 (by omega)
  simp [e1]
  refine ⟨CircI l n, ⟨(farS l n n - 1).toNat, GhostV.refl ⟨(farS l n n - 1).toNat, n, 0, 1, [n], rfl, by omega, ?_, rfl, by simp, by simp, by simp; omega, by simp [circS]⟩⟩, ?_⟩
  · by_cases h0 : 0 ≤ farS l n n - 1
    · left; rw [Int.toNat_of_nonneg h0]
    · right; exact ⟨by omega, by rw [show farS l n n - 1 = -2 by omega]⟩
  rintro _ v5 v6 v7 st ⟨left, at', va, nv, out, rfl, hle, h7, rfl, rfl, rfl, hol, hfin⟩
  cases left with
  | zero =>
    have hno : ∀ x : Int, (x = 0 ∨ x = -2) → ¬ 0 < x := by omega
    have : ∃ x : Int, v7 = .int .i64 x ∧ ¬ 0 < x := by
      rcases h7 with rfl | ⟨_, rfl⟩
      · exact ⟨_, rfl, by simp⟩
      · exact ⟨_, rfl, by simp⟩
    obtain ⟨x, rfl, hx⟩ := this
    simp [circGo] at hfin
    subst hfin
    simp [hx]
    refine GhostV.row1 (sz := 1) (es := (circS l n).map cN) (by simp [St.get]) (by simp) ?_
    exact ⟨by simp, by simp⟩
  | succ left =>
    have h7 : v7 = .int .i64 ((left + 1 : Nat) : Int) := by
      rcases h7 with rfl | ⟨h, _⟩
      · rfl
      · cases h
    subst h7
    have hp : (0 : Int) < (left : Int) + 1 := by omega
    simp [hp]
    refine ⟨BestI l (fun j => (l.take j).foldl (bestStep l n at' (left + 1)) (0, false)) [some (va, .mem 1 (out.map cN))], ⟨l.length, GhostV.refl ⟨0, nv, 0, false, by simp, by simp, by simp, by simp, rfl, rfl, rfl⟩⟩, ?_⟩
    rintro k2 v8 v9 v26 st ⟨j, nv2, bv, bf, rfl, hj, rfl, ho, rfl, rfl, rfl⟩
    by_cases hlt2 : j < l.length
    · have hstep := foldl_snoc (f := bestStep l n at' (left + 1)) (b := (0, false)) hlt2
      simp only at ho
      rw [ho] at hstep
      simp [hlt2]
      have go : ∀ b' bf' X nv', bestStep l n at' (left + 1) (bv, bf) l[j] = (b', bf') → ∃ j_1, j_1 < l.length - j ∧ GhostV [.int .u64 (b' : Int), .bool bf', .int .i64 (IntKind.i64.wrap ((j : Int) + 1))] ⟨[some (va, .mem 1 (out.map cN)), X], nv'⟩ (app (n := 3) (BestI l (fun j => (l.take j).foldl (bestStep l n at' (left + 1)) (0, false)) [some (va, .mem 1 (out.map cN))] j_1)) := fun b' bf' X nv' e =>
        ⟨l.length - (j + 1), by omega, GhostV.keep (L := [_]) ⟨j + 1, nv', b', bf', rfl, by omega, by rw [wadd1 (by omega)], by dsimp only; rw [hstep, e], rfl, rfl, rfl⟩⟩
      by_cases h1 : l[j].f = at'
      · cases bf
        · simp [h1]
          refine inv_p (rFar h l l[j].t n hl) (by simp) (by simp [pureL, pureLL]) ?_
          rintro _ rfl
          by_cases h3' : farS l l[j].t n = (left : Int) + 1
          · simp [h3']
            exact go _ _ _ _ (by simp [bestStep, h1, h3'])
          · simp [h3']
            exact go _ _ _ _ (by simp [bestStep, h1, h3'])
        · by_cases hb : l[j].t < bv
          · simp [h1, hb]
            refine inv_p (rFar h l l[j].t n hl) (by simp) (by simp [pureL, pureLL]) ?_
            rintro _ rfl
            by_cases h3' : farS l l[j].t n = (left : Int) + 1
            · simp [h3']
              exact go _ _ _ _ (by simp [bestStep, h1, h3', hb])
            · simp [h3']
              exact go _ _ _ _ (by simp [bestStep, h1, h3', hb])
          · simp [h1, hb]
            exact go _ _ _ _ (by simp [bestStep, h1, hb])
      · simp [h1]
        exact go _ _ _ _ (by simp [bestStep, h1])
    · simp [hlt2]
      have e0 : bv = bestS l n at' (left + 1) := by simp only at ho; rw [List.take_of_length_le (by omega)] at ho; unfold bestS; rw [ho]
      subst e0
      have e2 : IntKind.i64.wrap (left : Int) = ((left : Nat) : Int) := by rw [wrap_i64 (by omega)]
      simp [circGo] at hfin
      simp [e2]
      refine ⟨by omega, left, by omega, GhostV.keep (L := [_]) ⟨left, bestS l n at' (left + 1), nv2 + 1, nv2 + 1 + 1, out ++ [bestS l n at' (left + 1)], rfl, by omega, .inl (by first | rfl | rw [e2]), rfl, by simp, by simp, by simp; omega, by simpa using hfin⟩⟩

/-! ### Victim -/
def vicS (q : Nat → Bool) (order : List Nat) : Nat × Bool := match order.reverse.find? q with | some x => (x, true) | none => (0, false)
theorem vicS_snoc (q : Nat → Bool) (l : List Nat) (x : Nat) : vicS q (l ++ [x]) = if q x then (x, true) else vicS q l := by
  unfold vicS; rw [List.reverse_append]; simp only [List.reverse_cons, List.reverse_nil, List.nil_append, List.singleton_append, List.find?_cons]
  cases q x <;> simp
def VicI (q : Nat → Bool) (order : List Nat) (k : Nat) (v7 : V) (st : St) : Prop := ∃ i nv, i = k ∧ i ≤ order.length ∧ v7 = .int .i64 ((i : Nat) - 1 : Int) ∧ vicS q (order.take i) = vicS q order ∧ st = ⟨[], nv⟩
theorem rVictim (h : RefR2 P) (l : List EdgeT) (order : List Nat) (hl : l.length ≤ 100) (ho : order.length < 2 ^ 40) : PCalls P n_gazetteerref16_Victim [.sl .unk 2 (l.map cEd) [], .sl .unk 1 (order.map cN) []] (fun r => r = .tup [.int .u64 (vicS (fun x => decide (x ∈ onS l)) order).1, .bool (vicS (fun x => decide (x ∈ onS l)) order).2]) := by
  refine A_gazetteerref16_Victim h.vic ?_
  unfold F_gazetteerref16_Victim
  simp [st0]
  refine inv_p (rOn h l hl) (by simp) (by simp [pureL, pureLL]) ?_
  rintro _ rfl
  have e1 : IntKind.i64.wrap ((order.length : Int) - 1) = (order.length : Int) - 1 := wrap_i64 (by omega)
  simp [e1]
  refine ⟨VicI (fun x => decide (x ∈ onS l)) order, ⟨order.length, GhostV.refl ⟨order.length, 0, rfl, by omega, by simp, by simp, by simp⟩⟩, ?_⟩
  rintro _ v7 st ⟨i, nv, rfl, hi, rfl, hfin, rfl⟩
  cases i with
  | zero =>
    simp
    refine GhostV.refl ⟨by simp, ?_⟩
    rw [← hfin]; simp [vicS]
  | succ i =>
    have hlt : i < order.length := by omega
    rw [take_snoc hlt, vicS_snoc] at hfin
    have e2 : ((i + 1 : Nat) : Int) - 1 = (i : Int) := by omega
    rw [e2]
    simp [hlt]
    refine inv_p (rHas h.toRefR (onS l) order[i] (by have := onS_len l; omega)) (by simp) (by simp [pureL, pureLL]) ?_
    rintro _ rfl
    by_cases hm : order[i] ∈ onS l
    · simp [hm] at hfin
      simp [hm, hlt]
      exact GhostV.refl ⟨by simp, by simp [← hfin]⟩
    · simp [hm] at hfin
      simp [hm]
      exact ⟨i, by omega, GhostV.refl ⟨i, nv, rfl, by omega, by rw [wrap_i64 (by omega)], hfin, rfl⟩⟩
end Go.Proofs.Ythoaclojobgelaa.AM
