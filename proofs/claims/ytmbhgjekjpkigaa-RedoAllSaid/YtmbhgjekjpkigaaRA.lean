/- Redo: rows, pages, records, walked. -/
import Derived.Test.YtmbhgjekjpkigaaRSm
namespace Go.Proofs.Ytmbhgjekjpkigaa.AM
open Go
set_option linter.unusedVariables false
set_option linter.unusedSimpArgs false
variable {P : Program}

structure IterR (P : Program) : Prop extends SortR P where
  app : R_slices_AppendSeq_uint64_uint64 P
  coll : R_slices_Collect_uint64 P
  sorted : R_slices_Sorted_uint64 P

/-! ### slices.Collect -/
def AppJ (L : List (Option (Nat × Obj))) (b : Nat) (LP : LSt → Obj) (nv : Nat) (ys : List Nat) (L' : List (Option (Nat × Obj))) : Prop :=
  ∃ va, L' = L ++ [some (nv, .mem 1 [[.msl (L.length + 2) va 0 ys.length]]), some (nv + 1, LP .ready), some (va, .mem 1 (ys.map cN))]
theorem AppendSeq_N (h : IterR P) {sq : V} {L : List (Option (Nat × Obj))} {Q : List (Option (Nat × Obj)) → Prop} (hQ : ∀ M, Q (L ++ M)) {dom : List Nat → Prop} (hi : IterC P cN sq Q dom) (hb : ∀ ys rest, dom (ys ++ rest) → ys.length < 2 ^ 40) {nv : Nat} {K : V → St → Prop}
    (hk : ∀ ys va nv' M, dom ys → (L ++ M)[L.length + 2]? = some (some (va, .mem 1 (ys.map cN))) → K (.msl (L.length + 2) va 0 ys.length) ⟨L ++ M, nv'⟩) :
    ACalls P n_slices_AppendSeq_uint64_uint64 [.sl .nil 0 [] [], sq] ⟨L, nv⟩ K := by
  refine A_slices_AppendSeq_uint64_uint64 h.app ?_
  unfold F_slices_AppendSeq_uint64_uint64
  simp
  intro LP HY
  simp only [List.length_append, List.length_cons, List.length_nil, Nat.zero_add] at HY
  simp
  refine AInvE.ghost (ghost_nilbox (j := L.length) (ver := nv) (s := 0) (sz := 1) (by decide) (by simp)) ?_
  simp
  refine hi _ (L.length + 3) (AppJ L 0 LP nv) (fun _ _ => False) _ _ _ ?_ (fun _ _ h => h.elim) ?_ ?_ ?_ (fun _ _ _ h => h.elim)
  · rintro ys L' ⟨va, rfl⟩
    exact ⟨by simp, hQ _⟩
  · rintro ys x L' G nv2 ⟨K'⟩ ⟨va, rfl⟩ ⟨rest, hd⟩ h1 _
    have hlen := hb (ys ++ [x]) rest (by simpa using hd)
    simp only [List.length_append, List.length_cons, List.length_nil] at hlen
    refine HY ⟨(L ++ [some (nv, .mem 1 [[.msl (L.length + 2) va 0 ys.length]]), some (nv + 1, LP .ready), some (va, .mem 1 (ys.map cN))]) ++ G, nv2⟩ K' (.int .u64 x) (by simp) ?_
    have key := h1 (L ++ [some (nv, .mem 1 [[.msl (L.length + 2) (nv2 + 1) 0 (ys.length + 1)]]), some (nv + 1, LP .ready), some (nv2 + 1, .mem 1 ((ys ++ [x]).map cN))]) [some (nv2, .mem 1 [cN x])] (nv2 + 1 + 1) ⟨nv2 + 1, by simp⟩
    simp
    simp at key
    exact ⟨by omega, key⟩
  · exact ⟨nv + 1 + 1, by simp⟩
  · rintro ys L' nv2 ⟨va, rfl⟩ hd
    refine ⟨.ready, by simp, ?_⟩
    simp [hend]
    have := hk ys va nv2 [some (nv, .mem 1 [[.msl (L.length + 2) va 0 ys.length]]), none, some (va, .mem 1 (ys.map cN))] hd (by simp)
    exact GhostV.refl (by simpa using this)
theorem Collect_N (h : IterR P) {sq : V} {L : List (Option (Nat × Obj))} {Q : List (Option (Nat × Obj)) → Prop} (hQ : ∀ M, Q (L ++ M)) {dom : List Nat → Prop} (hi : IterC P cN sq Q dom) (hb : ∀ ys rest, dom (ys ++ rest) → ys.length < 2 ^ 40) {nv : Nat} {K : V → St → Prop}
    (hk : ∀ ys va nv' M, dom ys → (L ++ M)[L.length + 2]? = some (some (va, .mem 1 (ys.map cN))) → K (.msl (L.length + 2) va 0 ys.length) ⟨L ++ M, nv'⟩) :
    ACalls P n_slices_Collect_uint64 [sq] ⟨L, nv⟩ K := by
  refine A_slices_Collect_uint64 h.coll ?_
  unfold F_slices_Collect_uint64
  simp
  refine inv_f0 (AppendSeq_N h hQ hi hb ?_)
  intro ys va nv' M hd hg
  exact GhostV.refl (hk ys va nv' M hd hg)
theorem rowsN_toArray (l : List Nat) : rowsN l.toArray = l.map cN := by simp [rowsN]
theorem Sorted_N (h : IterR P) {sq : V} {L : List (Option (Nat × Obj))} {Q : List (Option (Nat × Obj)) → Prop} (hQ : ∀ M, Q (L ++ M)) {dom : List Nat → Prop} (hi : IterC P cN sq Q dom) (hb : ∀ ys rest, dom (ys ++ rest) → ys.length < 65536) {nv : Nat} {K : V → St → Prop}
    (hk : ∀ ys nv', dom ys → K (.sl .unk 1 ((sortL ys).map cN) []) ⟨L, nv'⟩) :
    ACalls P n_slices_Sorted_uint64 [sq] ⟨L, nv⟩ K := by
  refine A_slices_Sorted_uint64 h.sorted ?_
  unfold F_slices_Sorted_uint64
  simp
  refine inv_f0 (Collect_N h hQ hi (fun ys rest hd => by have := hb ys rest hd; omega) ?_)
  intro ys va nv' M hd hg
  have hlt : L.length + 2 < (L ++ M).length := (List.getElem?_eq_some_iff.1 hg).1
  have hset : (L ++ M) = (L ++ M).set (L.length + 2) (some (va, .mem 1 (rowsN ys.toArray))) := by rw [rowsN_toArray, set_self hg]
  have hsz : ys.toArray.size < 65536 := by have := hb ys [] (by simpa using hd); simpa using this
  simp
  refine inv_f0 ?_
  rw [hset, show ys.length = ys.toArray.size by simp]
  refine Sort_N h.toSortR hlt ys.toArray hsz ?_
  intro nv2
  have hM : (L ++ M).set (L.length + 2) (some (va, .mem 1 (rowsN (Go.Sort.sort ltN ys.toArray)))) = L ++ M.set 2 (some (va, .mem 1 (rowsN (Go.Sort.sort ltN ys.toArray)))) := by simp
  rw [hM]
  have hm2 : 2 < M.length := by simp at hlt; omega
  have hl : (Go.Sort.sort ltN ys.toArray).size = ys.toArray.size := by have := sortL_len ys; simp only [sortL, Array.length_toList] at this; simpa using this
  refine GhostV.rowk (sz := 1) (es := rowsN (Go.Sort.sort ltN ys.toArray)) (by omega) (by simp [hm2]) (by simp [hl]) ?_
  have e : List.take ys.toArray.size (List.drop 0 (rowsN (Go.Sort.sort ltN ys.toArray))) = (sortL ys).map cN := by
    rw [List.drop_zero, List.take_of_length_le (by simp [hl])]; rfl
  rw [e]
  exact hk ys nv2 hd

def entF (f : Nat → V) (m : Nat) : V × V := (.int .u64 m, f m)
def KeyI (ks : List Nat) (N id ver ep iv : Nat) (J : List Nat → List (Option (Nat × Obj)) → Prop) (k : Nat) (st : St) : Prop :=
  ∃ ys seen L' nv, k = ks.length - seen.length ∧ ys = seen.reverse.map (fun i => ks.getD i 0) ∧ seen.Nodup ∧ (∀ i ∈ seen, i < ks.length) ∧ J ys L' ∧ st = ⟨L' ++ [some (iv, .iter id ver ep seen)], nv⟩
theorem nodup_rev {seen : List Nat} (hn : seen.Nodup) : seen.reverse.Nodup := (List.reverse_perm seen).nodup_iff.2 hn
theorem nodup_full {seen : List Nat} {n : Nat} (hn : seen.Nodup) (hl : ∀ i ∈ seen, i < n) (ha : ∀ i, i < n → i ∈ seen) : seen.reverse.Perm (List.range n) := by
  refine (List.perm_ext_iff_of_nodup (nodup_rev hn) List.nodup_range).2 (fun i => ?_)
  simp only [List.mem_reverse, List.mem_range]
  exact ⟨hl i, ha i⟩
theorem nodup_rest {seen : List Nat} {n : Nat} (hn : seen.Nodup) (hl : ∀ i ∈ seen, i < n) : (seen.reverse ++ (List.range n).filter (fun j => !decide (j ∈ seen))).Perm (List.range n) := by
  refine (List.perm_ext_iff_of_nodup ?_ List.nodup_range).2 (fun j => ?_)
  · rw [List.nodup_append]
    refine ⟨nodup_rev hn, List.nodup_range.filter _, ?_⟩
    intro x hx y hy hxy
    subst hxy
    simp only [List.mem_reverse] at hx
    simp [hx] at hy
  · simp only [List.mem_append, List.mem_reverse, List.mem_filter, List.mem_range, Bool.not_eq_true', decide_eq_false_iff_not]
    constructor
    · rintro (h | h)
      · exact hl j h
      · exact h.1
    · intro hj
      by_cases h1 : j ∈ seen
      · exact .inl h1
      · exact .inr ⟨hj, h1⟩
theorem nodup_le {seen : List Nat} {n : Nat} (hn : seen.Nodup) (hl : ∀ i ∈ seen, i < n) : seen.length ≤ n := by
  have := (nodup_rest hn hl).length_eq
  simp at this
  omega
structure Rising_boolR (P : Program) : Prop extends IterR P where
structure Rising_OpenR (P : Program) : Prop extends IterR P where
  keysFOpen : R_maps_Keys_map_uint64_Open_uint64_Open P
  keys1FOpen : R_maps_Keys_map_uint64_Open_uint64_Open_1 P
  risingFOpen : R_redo_rising_uint64_Open P
theorem keys_Open (h : Rising_OpenR P) (ks : List Nat) (f : Nat → V) {b bv id ver ep : Nat} (hnd : ks.Nodup) :
    IterC P cN (.fn (.func n_maps_Keys_map_uint64_Open_uint64_Open_1) [] [.ptr b bv 0 0]) (fun L => L[b]? = some (some (bv, .mem 1 [[.map id ver]])) ∧ L[id]? = some (some (ver, .map ep (ks.map (entF f))))) (fun ys => ys.Perm ks) := by
  intro yv N J S L0 nv0 K hJ hS hy h0 hk hks
  refine AInvE_fn (first := []) ?_
  refine A_maps_Keys_map_uint64_Open_uint64_Open_1 h.keys1FOpen ?_
  unfold F_maps_Keys_map_uint64_Open_uint64_Open_1
  have hbJ : ∀ ys L', J ys L' → L'[b]? = some (some (bv, .mem 1 [[.map id ver]])) := fun ys L' h => (hJ ys L' h).2.1
  have hmJ : ∀ ys L', J ys L' → L'[id]? = some (some (ver, .map ep (ks.map (entF f)))) := fun ys L' h => (hJ ys L' h).2.2
  have hN : ∀ ys L', J ys L' → L'.length = N := fun ys L' h => (hJ ys L' h).1
  simp [hbJ _ _ h0, hmJ _ _ h0]
  refine ⟨KeyI ks N id ver ep nv0 J, ⟨ks.length, GhostV.refl ⟨[], [], L0, nv0 + 1, by simp, rfl, List.nodup_nil, fun i hi => (by cases hi), h0, rfl⟩⟩, ?_⟩
  rintro k st ⟨ys, seen, L', nv, rfl, rfl, hsn, hsl, hJi, rfl⟩
  have hLN := hN _ _ hJi
  have hLN0 := hN _ _ h0
  have gi : ∀ (X : List (Option (Nat × Obj))) o, X.length = N → (X ++ [o])[N]? = some o := fun X o hX => by rw [List.getElem?_append_right (by omega), hX]; simp
  have gm : (⟨L' ++ [some (nv0, .iter id ver ep seen)], nv⟩ : St).get id ver = some (.map ep (ks.map (entF f))) := by
    simp only [St.get]
    rw [List.getElem?_append_left (by have := (List.getElem?_eq_some_iff.1 (hmJ _ _ hJi)).1; exact this), hmJ _ _ hJi]; simp
  rw [hLN0]
  refine op_next (id := N) (ver := nv0) (mid := id) (mver := ver) (ep := ep) (seen := seen) (es := ks.map (entF f)) (by simp only [St.get]; rw [gi _ _ hLN]; simp) gm ?_ ?_
  · intro hall
    simp
    refine GhostV.keep (hk _ _ _ hJi ?_)
    have hp := nodup_full hsn hsl (fun i hi => hall i (by simpa using hi))
    have := hp.map (fun i => ks.getD i 0)
    refine this.trans ?_
    have e : (List.range ks.length).map (fun i => ks.getD i 0) = ks := by
      apply List.ext_getElem (by simp)
      intro i h1 h2
      simp [List.getD, h2]
    rw [e]
  · intro i hi hns
    have hi : i < ks.length := by simpa using hi
    have hset : (L' ++ [some (nv0, Obj.iter id ver ep seen)]).set N (some (nv0, .iter id ver ep (i :: seen))) = L' ++ [some (nv0, .iter id ver ep (i :: seen))] := by
      rw [List.set_append_right _ _ (by omega), hLN]; simp
    have hgd : (ks.map (entF f)).getD i (.junk, .junk) = entF f ks[i] := by simp [List.getD, hi]
    have gm2 : (L' ++ [some (nv0, Obj.iter id ver ep (i :: seen))])[id]? = some (some (ver, .map ep (ks.map (entF f)))) := by
      rw [List.getElem?_append_left (by have := (List.getElem?_eq_some_iff.1 (hmJ _ _ hJi)).1; exact this), hmJ _ _ hJi]
    have gm3 := gi L' (some (nv0, .iter id ver ep (i :: seen))) hLN
    rw [hgd]
    simp [hset, gm2, gm3, hi, entF]
    have hstep : (i :: seen).reverse.map (fun i => ks.getD i 0) = seen.reverse.map (fun i => ks.getD i 0) ++ [ks[i]] := by simp [hi]
    have hle : seen.length + 1 ≤ ks.length := nodup_le (seen := i :: seen) (List.nodup_cons.2 ⟨hns, hsn⟩) (fun j hj => by rcases List.mem_cons.1 hj with rfl | hj; exact hi; exact hsl j hj)
    refine hy _ ks[i] L' [some (nv0, .iter id ver ep (i :: seen))] nv _ hJi ?_ ?_ ?_
    · -- what is left
      refine ⟨((List.range ks.length).filter (fun j => !decide (j ∈ i :: seen))).map (fun i => ks.getD i 0), ?_⟩
      have h1 := nodup_rest (seen := i :: seen) (List.nodup_cons.2 ⟨hns, hsn⟩) (fun j hj => by rcases List.mem_cons.1 hj with rfl | hj; exact hi; exact hsl j hj)
      rw [List.reverse_cons, List.append_assoc, List.singleton_append] at h1
      have h2 := h1.map (fun i => ks.getD i 0)
      have e : (List.range ks.length).map (fun i => ks.getD i 0) = ks := by
        apply List.ext_getElem (by simp)
        intro i h1 h2
        simp [List.getD, h2]
      rw [e] at h2
      simpa [hi] using h2
    · intro L'' H nv' hJ'
      simp
      refine ⟨ks.length - (seen.length + 1), by omega, ?_⟩
      have : L'' ++ (some (nv0, Obj.iter id ver ep (i :: seen)) :: H) = (L'' ++ [some (nv0, .iter id ver ep (i :: seen))]) ++ H := by simp
      rw [this]
      exact GhostV.keep ⟨_, i :: seen, L'', nv', by simp, hstep.symm, List.nodup_cons.2 ⟨hns, hsn⟩, fun j hj => by rcases List.mem_cons.1 hj with rfl | hj; exact hi; exact hsl j hj, hJ', rfl⟩
    · intro L'' H nv' hS'
      simp
      exact GhostV.keep (hks _ _ _ hS')
/-- The keys of a map, rising. -/
theorem rising_Open (h : Rising_OpenR P) (ks : List Nat) (f : Nat → V) {L : List (Option (Nat × Obj))} {id ver ep nv : Nat} (hnd : ks.Nodup) (hl : ks.length < 65536) (hm : L[id]? = some (some (ver, .map ep (ks.map (entF f))))) {K : V → St → Prop}
    (hk : ∀ nv', K (.sl .unk 1 ((sortL ks).map cN) []) ⟨L, nv'⟩) : ACalls P n_redo_rising_uint64_Open [.map id ver] ⟨L, nv⟩ K := by
  refine A_redo_rising_uint64_Open h.risingFOpen ?_
  unfold F_redo_rising_uint64_Open
  simp
  refine inv_f0 (A_maps_Keys_map_uint64_Open_uint64_Open h.keysFOpen ?_)
  unfold F_maps_Keys_map_uint64_Open_uint64_Open
  simp
  refine GhostV.refl ?_
  simp
  have hml : id < L.length := (List.getElem?_eq_some_iff.1 hm).1
  have hit := keys_Open h ks f (b := L.length) (bv := nv) (id := id) (ver := ver) (ep := ep) hnd
  refine inv_f0 (Sorted_N h.toIterR (L := L ++ [some (nv, .mem 1 [[.map id ver]])]) (fun M => ⟨by simp, by rw [List.append_assoc, List.getElem?_append_left hml]; exact hm⟩) hit (fun ys rest hd => by have := hd.length_eq; simp at this; omega) ?_)
  intro ys nv' hd
  have : sortL ys = sortL ks := by
    rw [sortL_eq, sortL_eq]
    refine List.Perm.eq_of_pairwise (le := fun x y : Nat => x ≤ y) (fun a b _ _ h1 h2 => by omega) ?_ ?_ ?_
    · have := sortL_sorted ys; rwa [sortL_eq] at this
    · have := sortL_sorted ks; rwa [sortL_eq] at this
    · exact ((List.mergeSort_perm _ _).trans hd).trans (List.mergeSort_perm _ _).symm
  rw [this]
  exact GhostV.keep (hk nv')
end Go.Proofs.Ytmbhgjekjpkigaa.AM

namespace Go.Proofs.Ytmbhgjekjpkigaa.AM
open Go
set_option linter.unusedVariables false
set_option linter.unusedSimpArgs false
variable {P : Program}

@[simp] theorem take_map_len {α : Type} {f : α → List V} {l : List α} : List.take l.length (l.map f) = l.map f := List.take_of_length_le (by simp)
@[simp] theorem p_N (l : List Nat) : pureLL (l.map cN) = true := pureLL_map (fun _ => rfl) l
theorem PCalls.le {f : FuncId} {as bs : List V} {R : V → Prop} (hl : LeVs as bs) (h : PCalls P f bs R) : PCalls P f as R := ACalls.gv h.1 (GhostV.le hl h)
theorem GhostV.nilr {vs : List V} {st : St} {K : List V → St → Prop} (sz : Nat) (h0 : 0 < sz) (hk : K (.msl st.objs.length st.nv 0 0 :: vs) ⟨st.objs ++ [some (st.nv, .mem sz [])], st.nv + 1⟩) : GhostV (.sl .nil 0 [] [] :: vs) st K :=
  GhostV.nils (vs' := .msl st.objs.length st.nv 0 0 :: vs) (st' := st.push (.mem sz [])) h0 rfl rfl (fun i => by
    cases i with
    | zero => exact .nil _
    | succ i => simpa using Nz.refl _) hk
@[simp] def c8 (b : UInt8) : List V := [.int .u8 b.toNat]
@[simp] theorem p_c8 (l : List UInt8) : pureLL (l.map c8) = true := pureLL_map (fun _ => rfl) l
abbrev vB (l : List UInt8) : V := .sl .unk 1 (l.map c8) []
structure RecT where
  lsn : Nat
  kind : Int
  (txn back : Nat)
  (page slot : Int)
  (old new : List UInt8)
  next : Nat
  deriving DecidableEq
@[simp] def cRec (r : RecT) : List V := [.int .u64 r.lsn, .int .i64 r.kind, .int .u64 r.txn, .int .u64 r.back, .int .i64 r.page, .int .i64 r.slot, vB r.old, vB r.new, .int .u64 r.next]
@[simp] theorem p_rec (l : List RecT) : pureLL (l.map cRec) = true := pureLL_map (fun _ => by simp [pureL, V.pure, pureLL]) l
structure BytR (P : Program) : Prop where
  oeq : R_octet_Equal P
  seq : R_slices_Equal_byte_byte P
  rsame : R_gazetteerref01_Same P
def EqvI (n : Nat) (Q : Nat → Prop) (k : Nat) (v : V) (st : St) : Prop := ∃ i nv, k = n - i ∧ i ≤ n ∧ v = .int .i64 ((i : Nat) : Int) ∧ Q i ∧ st = ⟨[], nv⟩
theorem sEqual8 (h : BytR P) (a b : List UInt8) (ha : a.length < 2 ^ 40) : PCalls P n_slices_Equal_byte_byte [vB a, vB b] (fun r => r = .bool (decide (a = b))) := by
  refine A_slices_Equal_byte_byte h.seq ?_
  unfold F_slices_Equal_byte_byte
  simp [st0]
  by_cases hlen : a.length = b.length
  · simp [hlen]
    refine ⟨EqvI a.length (fun i => a.take i = b.take i), ⟨a.length, GhostV.refl ⟨0, 0, by simp, by simp, by simp, by simp, by simp⟩⟩, ?_⟩
    rintro k1 v8 st ⟨i, nv, rfl, hi, rfl, hn, rfl⟩
    by_cases hlt : i < a.length
    · have hlt2 : i < b.length := by omega
      simp [hlt, hlt2, UInt8.toNat_inj]
      by_cases he : a[i] = b[i]
      · simp [he]
        refine ⟨a.length - (i + 1), by omega, GhostV.refl ⟨i + 1, nv, rfl, by omega, by rw [wadd1 (by omega)], ?_, rfl⟩⟩
        dsimp only
        rw [take_snoc hlt, take_snoc hlt2, hn, he]
      · simp [he]
        refine GhostV.refl ⟨rfl, ?_⟩
        have : a ≠ b := fun e => he (by subst e; rfl)
        simp [this]
    · have hlt2 : ¬ i < b.length := by omega
      simp [hlt, hlt2]
      rw [List.take_of_length_le (by omega), List.take_of_length_le (by omega)] at hn
      exact GhostV.refl ⟨rfl, by simp [hn]⟩
  · simp [hlen]
    refine GhostV.refl ⟨rfl, ?_⟩
    have : a ≠ b := fun e => hlen (by rw [e])
    simp [this]
theorem oEqual (h : BytR P) (a b : List UInt8) (ha : a.length < 2 ^ 40) : PCalls P n_octet_Equal [vB a, vB b] (fun r => r = .bool (decide (a = b))) := by
  refine A_octet_Equal h.oeq ?_
  unfold F_octet_Equal
  simp [st0]
  refine inv_p (sEqual8 h a b ha) rfl (by simp [pureL]) ?_
  rintro _ rfl
  exact GhostV.refl ⟨rfl, rfl⟩
theorem rSame01 (h : BytR P) (a b : List UInt8) (ha : a.length < 2 ^ 40) : PCalls P n_gazetteerref01_Same [vB a, vB b] (fun r => r = .bool (decide (a = b))) := by
  refine A_gazetteerref01_Same h.rsame ?_
  unfold F_gazetteerref01_Same
  simp [st0]
  by_cases hlen : a.length = b.length
  · simp [hlen]
    refine ⟨EqvI a.length (fun i => a.take i = b.take i), ⟨a.length, GhostV.refl ⟨0, 0, by simp, by simp, by simp, by simp, by simp⟩⟩, ?_⟩
    rintro k1 v8 st ⟨i, nv, rfl, hi, rfl, hn, rfl⟩
    by_cases hlt : i < a.length
    · have hlt2 : i < b.length := by omega
      simp [hlt, hlt2, UInt8.toNat_inj]
      by_cases he : a[i] = b[i]
      · simp [he]
        refine ⟨a.length - (i + 1), by omega, GhostV.refl ⟨i + 1, nv, rfl, by omega, by rw [wadd1 (by omega)], ?_, rfl⟩⟩
        dsimp only
        rw [take_snoc hlt, take_snoc hlt2, hn, he]
      · simp [he]
        refine GhostV.refl ⟨rfl, ?_⟩
        have : a ≠ b := fun e => he (by subst e; rfl)
        simp [this]
    · have hlt2 : ¬ i < b.length := by omega
      simp [hlt, hlt2]
      rw [List.take_of_length_le (by omega), List.take_of_length_le (by omega)] at hn
      exact GhostV.refl ⟨rfl, by simp [hn]⟩
  · simp [hlen]
    refine GhostV.refl ⟨rfl, ?_⟩
    have : a ≠ b := fun e => hlen (by rw [e])
    simp [this]

theorem bytesV_c8 : ∀ (l : List UInt8), bytesV (l.map c8) = some l
  | [] => rfl
  | b :: l => by
    simp only [List.map_cons, c8, bytesV, bytesV_c8 l, Option.map_some]
    simp
theorem toList_mk (l : List UInt8) : (⟨l.toArray⟩ : ByteArray).toList = l := by rw [ByteArray.toList_eq]
end Go.Proofs.Ytmbhgjekjpkigaa.AM

namespace Go.Proofs.Ytmbhgjekjpkigaa.AM
open Go
set_option linter.unusedVariables false
set_option linter.unusedSimpArgs false
variable {P : Program}

structure RecR (P : Program) : Prop extends BytR P where
  fields : R_record_fields P
  has : R_record_field_has P
  check : R_record_Check P
  rright : R_gazetteerref05_Right P
  rsameR : R_gazetteerref05_Same P
  rsameRow : R_gazetteerref05_SameRow P

def fldK (k : Int) : Int × Bool := if k = 1 then (7, true) else if k = 2 then (13, true) else if k = 3 ∨ k = 4 then (0, true) else (0, false)
theorem Fields_R (h : RecR P) (k : Int) : PCalls P n_record_fields [.int .i64 k] (fun r => r = .tup [.int .i64 (fldK k).1, .bool (fldK k).2]) := by
  refine A_record_fields h.fields ?_
  unfold F_record_fields
  simp [st0]
  by_cases h1 : k = 1
  · simp [h1]; exact GhostV.refl ⟨rfl, by simp [fldK]⟩
  by_cases h2 : k = 2
  · simp [h1, h2]; exact GhostV.refl ⟨rfl, by simp [fldK]⟩
  by_cases h3 : k = 3
  · simp [h1, h2, h3]; exact GhostV.refl ⟨rfl, by simp [fldK]⟩
  by_cases h4 : k = 4
  · simp [h1, h2, h3, h4]; exact GhostV.refl ⟨rfl, by simp [fldK]⟩
  simp [h1, h2, h3, h4]; exact GhostV.refl ⟨rfl, by simp [fldK, h1, h2, h3, h4]⟩
def hasF (f g : Int) : Bool := !decide (IntKind.i64.wrap (BitVec.ofInt 64 f &&& BitVec.ofInt 64 g).toNat = 0)
theorem Has_R (h : RecR P) (f g : Int) : PCalls P n_record_field_has [.int .i64 f, .int .i64 g] (fun r => r = .bool (hasF f g)) := by
  refine A_record_field_has h.has ?_
  unfold F_record_field_has
  simp [st0, binV, intBin]
  exact GhostV.refl ⟨rfl, by simp [hasF]; rfl⟩
theorem has71 : hasF 7 1 = true := by decide
theorem has72 : hasF 7 2 = true := by decide
theorem has74 : hasF 7 4 = true := by decide
theorem has78 : hasF 7 8 = false := by decide
theorem has131 : hasF 13 1 = true := by decide
theorem has132 : hasF 13 2 = false := by decide
theorem has134 : hasF 13 4 = true := by decide
theorem has138 : hasF 13 8 = true := by decide
theorem has01 : hasF 0 1 = false := by decide
theorem has02 : hasF 0 2 = false := by decide
theorem has04 : hasF 0 4 = false := by decide
theorem has08 : hasF 0 8 = false := by decide

/-- May a record be? -/
def recOk (r : RecT) : Bool :=
  decide (1 ≤ r.kind ∧ r.kind ≤ 4 ∧ 0 < r.lsn ∧ 0 < r.txn ∧ r.back < r.lsn ∧ 0 ≤ r.page ∧ r.page < 32 ∧ 0 ≤ r.slot ∧ r.slot < 4 ∧ r.old.length ≤ 52 ∧ r.new.length ≤ 52 ∧
    (r.kind ≤ 2 ∨ r.page = 0 ∧ r.slot = 0) ∧ (r.kind = 1 ∨ r.old = []) ∧ (r.kind ≤ 2 ∨ r.new = []) ∧ (r.kind = 2 ∨ r.next = 0) ∧ r.next ≤ r.back ∧ (r.kind ≠ 1 ∨ r.old ≠ r.new))
abbrev AndAll : List Prop → Prop
  | [] => True
  | p :: ps => p ∧ AndAll ps

set_option maxHeartbeats 4000000 in
theorem Check_R (h : RecR P) (r : RecT) (ho : r.old.length < 2 ^ 40) (hn : r.new.length < 2 ^ 40) : PCalls P n_record_Check [.agg (cRec r)] (fun v => v = .int .i64 (if recOk r then 0 else 150)) := by
  refine A_record_Check h.check ?_
  unfold F_record_Check
  simp [st0]
  refine inv_p (Fields_R h r.kind) rfl rfl ?_
  rintro _ rfl
  have bad : recOk r = false → ∀ {st : St}, GhostV [.int .i64 150] st fun vs st => (mkres vs).pure = true ∧ mkres vs = .int .i64 (if recOk r then 0 else 150) := fun hb st => by
    exact GhostV.refl ⟨rfl, by simp [hb]⟩
  by_cases hk : (fldK r.kind).2 = false
  · have : recOk r = false := by
      have hq : ¬ (r.kind = 1) ∧ ¬ (r.kind = 2) ∧ ¬ (r.kind = 3) ∧ ¬ (r.kind = 4) := by
        refine ⟨?_, ?_, ?_, ?_⟩ <;> intro e <;> rw [e] at hk <;> simp [fldK] at hk
      simp only [recOk, decide_eq_false_iff_not]; omega
    simp [hk]
    exact bad this
  simp only [Bool.not_eq_false] at hk
  simp [hk]
  by_cases a1 : 0 < r.lsn
  case neg => simp [a1]; exact bad (by simp only [recOk, decide_eq_false_iff_not]; omega)
  by_cases a2 : 0 < r.txn
  case neg => simp [a1, a2]; exact bad (by simp only [recOk, decide_eq_false_iff_not]; omega)
  by_cases a3 : r.back < r.lsn
  case neg => simp [a1, a2, a3]; exact bad (by simp only [recOk, decide_eq_false_iff_not]; omega)
  by_cases a4 : 0 ≤ r.page
  case neg => simp [a1, a2, a3, a4]; exact bad (by simp only [recOk, decide_eq_false_iff_not]; omega)
  by_cases a5 : r.page < 32
  case neg => simp [a1, a2, a3, a4, a5]; exact bad (by simp only [recOk, decide_eq_false_iff_not]; omega)
  by_cases a6 : 0 ≤ r.slot
  case neg => simp [a1, a2, a3, a4, a5, a6]; exact bad (by simp only [recOk, decide_eq_false_iff_not]; omega)
  by_cases a7 : r.slot < 4
  case neg => simp [a1, a2, a3, a4, a5, a6, a7]; exact bad (by simp only [recOk, decide_eq_false_iff_not]; omega)
  by_cases a8 : (r.old.length : Int) ≤ 52
  case neg => simp [a1, a2, a3, a4, a5, a6, a7, a8]; exact bad (by simp only [recOk, decide_eq_false_iff_not]; omega)
  by_cases a9 : (r.new.length : Int) ≤ 52
  case neg => simp [a1, a2, a3, a4, a5, a6, a7, a8, a9]; exact bad (by simp only [recOk, decide_eq_false_iff_not]; omega)
  simp [a1, a2, a3, a4, a5, a6, a7, a8, a9]
  have hkk : r.kind = 1 ∨ r.kind = 2 ∨ r.kind = 3 ∨ r.kind = 4 := by
    refine Classical.byContradiction fun hq => ?_
    simp only [not_or] at hq
    simp [fldK, hq.1, hq.2.1, hq.2.2.1, hq.2.2.2] at hk
  have bad' : (¬ ((r.kind ≤ 2 ∨ r.page = 0 ∧ r.slot = 0) ∧ (r.kind = 1 ∨ r.old = []) ∧ (r.kind ≤ 2 ∨ r.new = []) ∧ (r.kind = 2 ∨ r.next = 0) ∧ r.next ≤ r.back ∧ (r.kind ≠ 1 ∨ r.old ≠ r.new))) → recOk r = false := by
    intro hq
    simp only [recOk, decide_eq_false_iff_not]
    rintro ⟨_, _, _, _, _, _, _, _, _, _, _, q⟩
    exact hq q
  have good : ((r.kind ≤ 2 ∨ r.page = 0 ∧ r.slot = 0) ∧ (r.kind = 1 ∨ r.old = []) ∧ (r.kind ≤ 2 ∨ r.new = []) ∧ (r.kind = 2 ∨ r.next = 0) ∧ r.next ≤ r.back ∧ (r.kind ≠ 1 ∨ r.old ≠ r.new)) → recOk r = true := by
    intro hq
    simp only [recOk, decide_eq_true_eq]
    exact ⟨by omega, by omega, a1, a2, a3, a4, a5, a6, a7, by omega, by omega, hq⟩
  have fin : ∀ {st : St}, recOk r = true → GhostV [.int .i64 0] st fun vs st => (mkres vs).pure = true ∧ mkres vs = .int .i64 (if recOk r then 0 else 150) := fun hb => GhostV.refl ⟨rfl, by simp [hb]⟩
  by_cases h1 : r.kind = 1
  · have hf : (fldK r.kind).1 = 7 := by rw [h1]; rfl
    rw [hf]
    refine inv_p (Has_R h 7 1) rfl rfl ?_
    rintro _ rfl
    simp [has71]
    refine inv_p (Has_R h 7 2) rfl rfl ?_
    rintro _ rfl
    simp [has72]
    refine inv_p (Has_R h 7 4) rfl rfl ?_
    rintro _ rfl
    simp [has74]
    refine inv_p (Has_R h 7 8) rfl rfl ?_
    rintro _ rfl
    simp [has78]
    by_cases b1 : r.next = 0
    case neg => simp [b1]; exact bad (bad' (by simp [h1, b1]))
    simp [b1, h1]
    refine inv_p (oEqual h.toBytR r.old r.new ho) rfl (by simp [pureL, V.pure]) ?_
    rintro _ rfl
    by_cases b2 : r.old = r.new
    · simp [b2]; exact bad (bad' (by simp [h1, b1, b2]))
    · simp [b2]; exact fin (good (by simp [h1, b1, b2]))
  by_cases h2 : r.kind = 2
  · have hf : (fldK r.kind).1 = 13 := by rw [h2]; rfl
    rw [hf]
    refine inv_p (Has_R h 13 1) rfl rfl ?_
    rintro _ rfl
    simp [has131]
    refine inv_p (Has_R h 13 2) rfl rfl ?_
    rintro _ rfl
    simp [has132]
    by_cases b1 : r.old = []
    case neg => simp [b1]; exact bad (bad' (by simp [h2, b1]))
    simp [b1]
    refine inv_p (Has_R h 13 4) rfl rfl ?_
    rintro _ rfl
    simp [has134, b1]
    refine inv_p (Has_R h 13 8) rfl rfl ?_
    rintro _ rfl
    simp [has138, b1]
    by_cases b2 : r.next ≤ r.back
    case neg => simp [b1, b2]; exact bad (bad' (by simp [h2, b1, b2]))
    simp [b1, b2, h2]
    exact fin (good (by simp [h2, b1, b2]))
  have hk34 : ¬ r.kind ≤ 2 := by omega
  have hf : (fldK r.kind).1 = 0 := by
    rcases hkk with e | e | e | e
    · exact absurd e h1
    · exact absurd e h2
    · rw [e]; rfl
    · rw [e]; rfl
  rw [hf]
  refine inv_p (Has_R h 0 1) rfl rfl ?_
  rintro _ rfl
  simp [has01]
  by_cases b1 : r.page = 0
  case neg => simp [b1]; exact bad (bad' (by simp [h1, h2, hk34, b1]))
  by_cases b2 : r.slot = 0
  case neg => simp [b1, b2]; exact bad (bad' (by simp [h1, h2, hk34, b1, b2]))
  simp [b1, b2]
  refine inv_p (Has_R h 0 2) rfl rfl ?_
  rintro _ rfl
  simp [has02, b1, b2]
  by_cases b3 : r.old = []
  case neg => simp [b1, b2, b3]; exact bad (bad' (by simp [h1, h2, hk34, b3]))
  simp [b1, b2, b3]
  refine inv_p (Has_R h 0 4) rfl rfl ?_
  rintro _ rfl
  simp [has04, b1, b2, b3]
  by_cases b4 : r.new = []
  case neg => simp [b1, b2, b3, b4]; exact bad (bad' (by simp [h1, h2, hk34, b4]))
  simp [b1, b2, b3, b4]
  refine inv_p (Has_R h 0 8) rfl rfl ?_
  rintro _ rfl
  simp [has08, b1, b2, b3, b4]
  by_cases b5 : r.next = 0
  case neg => simp [b1, b2, b3, b4, b5]; exact bad (bad' (by simp [h1, h2, hk34, b5]))
  simp [b1, b2, b3, b4, b5, h1]
  exact fin (good (by simp [h1, h2, hk34, b1, b2, b3, b4, b5]))

set_option maxHeartbeats 4000000 in
theorem rRight5 (h : RecR P) (r : RecT) (ho : r.old.length < 2 ^ 40) (hn : r.new.length < 2 ^ 40) : PCalls P n_gazetteerref05_Right [.agg (cRec r)] (fun v => v = .bool (recOk r)) := by
  refine A_gazetteerref05_Right h.rright ?_
  unfold F_gazetteerref05_Right
  simp [st0]
  have bad : recOk r = false → ∀ {st : St}, GhostV [.bool false] st fun vs st => (mkres vs).pure = true ∧ mkres vs = .bool (recOk r) := fun hb st => GhostV.refl ⟨rfl, by simp [hb]⟩
  by_cases k1 : r.kind < 1
  · simp [k1]; exact bad (by simp only [recOk, decide_eq_false_iff_not]; omega)
  by_cases k2 : 4 < r.kind
  · simp [k1, k2]; exact bad (by simp only [recOk, decide_eq_false_iff_not]; omega)
  by_cases a1 : r.lsn = 0
  · simp [k1, k2, a1]; exact bad (by simp only [recOk, decide_eq_false_iff_not]; omega)
  by_cases a2 : r.txn = 0
  · simp [k1, k2, a1, a2]; exact bad (by simp only [recOk, decide_eq_false_iff_not]; omega)
  by_cases a3 : r.lsn ≤ r.back
  · simp [k1, k2, a1, a2, a3]; exact bad (by simp only [recOk, decide_eq_false_iff_not]; omega)
  by_cases a10 : r.back < r.next
  · simp [k1, k2, a1, a2, a3, a10]; exact bad (by simp only [recOk, decide_eq_false_iff_not]; omega)
  simp [k1, k2, a1, a2, a3, a10]
  by_cases a4 : r.page < 0
  · simp [a4]; exact bad (by simp only [recOk, decide_eq_false_iff_not]; omega)
  by_cases a5 : 31 < r.page
  · simp [a4, a5]; exact bad (by simp only [recOk, decide_eq_false_iff_not]; omega)
  by_cases a6 : r.slot < 0
  · simp [a4, a5, a6]; exact bad (by simp only [recOk, decide_eq_false_iff_not]; omega)
  by_cases a7 : 3 < r.slot
  · simp [a4, a5, a6, a7]; exact bad (by simp only [recOk, decide_eq_false_iff_not]; omega)
  by_cases a8 : (52 : Int) < (r.old.length : Int)
  · simp [a4, a5, a6, a7, a8]; exact bad (by simp only [recOk, decide_eq_false_iff_not]; omega)
  by_cases a9 : (52 : Int) < (r.new.length : Int)
  · simp [a4, a5, a6, a7, a8, a9]; exact bad (by simp only [recOk, decide_eq_false_iff_not]; omega)
  simp [a4, a5, a6, a7, a8, a9]
  have hval : recOk r = decide ((r.kind ≤ 2 ∨ r.page = 0 ∧ r.slot = 0) ∧ (r.kind = 1 ∨ r.old = []) ∧ (r.kind ≤ 2 ∨ r.new = []) ∧ (r.kind = 2 ∨ r.next = 0) ∧ (r.kind ≠ 1 ∨ r.old ≠ r.new)) := by
    unfold recOk
    rw [decide_eq_decide]
    constructor
    · rintro ⟨_, _, _, _, _, _, _, _, _, _, _, q1, q2, q3, q4, _, q5⟩
      exact ⟨q1, q2, q3, q4, q5⟩
    · rintro ⟨q1, q2, q3, q4, q5⟩
      exact ⟨by omega, by omega, by omega, by omega, by omega, by omega, by omega, by omega, by omega, by omega, by omega, q1, q2, q3, q4, by omega, q5⟩
  by_cases h1 : r.kind = 1
  · simp [h1]
    by_cases b1 : r.next = 0
    case neg => simp [b1]; exact bad (by rw [hval]; simp [h1, b1])
    simp [b1]
    refine inv_p (rSame01 h.toBytR r.old r.new ho) rfl (by simp [pureL, V.pure]) ?_
    rintro _ rfl
    simp [b1]
    exact GhostV.refl ⟨rfl, by rw [hval]; simp [h1, b1]⟩
  by_cases h2 : r.kind = 2
  · simp [h1, h2]
    exact GhostV.refl ⟨rfl, by rw [hval]; simp [h1, h2]⟩
  have hk34 : ¬ r.kind ≤ 2 := by omega
  simp [h1, h2]
  by_cases b1 : r.page = 0
  case neg => simp [b1]; exact bad (by rw [hval]; simp [h1, h2, hk34, b1])
  by_cases b2 : r.slot = 0
  case neg => simp [b1, b2]; exact bad (by rw [hval]; simp [h1, h2, hk34, b1, b2])
  by_cases b3 : r.old = []
  case neg => simp [b1, b2, b3]; exact bad (by rw [hval]; simp [h1, h2, hk34, b1, b2, b3])
  by_cases b4 : r.new = []
  case neg => simp [b1, b2, b3, b4]; exact bad (by rw [hval]; simp [h1, h2, hk34, b1, b2, b3, b4])
  simp [b1, b2, b3, b4]
  exact GhostV.refl ⟨rfl, by rw [hval]; simp [h1, h2, hk34, b1, b2, b3, b4]⟩
end Go.Proofs.Ytmbhgjekjpkigaa.AM

namespace Go.Proofs.Ytmbhgjekjpkigaa.AM
open Go
set_option linter.unusedVariables false
set_option linter.unusedSimpArgs false
variable {P : Program}

set_option maxHeartbeats 4000000 in
theorem rSame5 (h : RecR P) (a b : RecT) (ho : a.old.length < 2 ^ 40) (hn : a.new.length < 2 ^ 40) : PCalls P n_gazetteerref05_Same [.agg (cRec a), .agg (cRec b)] (fun v => v = .bool (decide (a = b))) := by
  refine A_gazetteerref05_Same h.rsameR ?_
  unfold F_gazetteerref05_Same
  simp [st0]
  have bad : a ≠ b → ∀ {st : St}, GhostV [.bool false] st fun vs st => (mkres vs).pure = true ∧ mkres vs = .bool (decide (a = b)) := fun hb st => GhostV.refl ⟨rfl, by simp [hb]⟩
  by_cases e_lsn : a.lsn = b.lsn
  case neg => simp [e_lsn]; exact bad (fun q => e_lsn (by rw [q]))
  simp [e_lsn]
  by_cases e_kind : a.kind = b.kind
  case neg => simp [e_lsn, e_kind]; exact bad (fun q => e_kind (by rw [q]))
  simp [e_lsn, e_kind]
  by_cases e_txn : a.txn = b.txn
  case neg => simp [e_lsn, e_kind, e_txn]; exact bad (fun q => e_txn (by rw [q]))
  simp [e_lsn, e_kind, e_txn]
  by_cases e_back : a.back = b.back
  case neg => simp [e_lsn, e_kind, e_txn, e_back]; exact bad (fun q => e_back (by rw [q]))
  simp [e_lsn, e_kind, e_txn, e_back]
  by_cases e_page : a.page = b.page
  case neg => simp [e_lsn, e_kind, e_txn, e_back, e_page]; exact bad (fun q => e_page (by rw [q]))
  simp [e_lsn, e_kind, e_txn, e_back, e_page]
  by_cases e_slot : a.slot = b.slot
  case neg => simp [e_lsn, e_kind, e_txn, e_back, e_page, e_slot]; exact bad (fun q => e_slot (by rw [q]))
  simp [e_lsn, e_kind, e_txn, e_back, e_page, e_slot]
  by_cases e_next : a.next = b.next
  case neg => simp [e_lsn, e_kind, e_txn, e_back, e_page, e_slot, e_next]; exact bad (fun q => e_next (by rw [q]))
  simp [e_lsn, e_kind, e_txn, e_back, e_page, e_slot, e_next]
  refine inv_p (rSame01 h.toBytR a.old b.old ho) rfl (by simp [pureL, V.pure]) ?_
  rintro _ rfl
  by_cases e_old : a.old = b.old
  case neg => simp [e_lsn, e_kind, e_txn, e_back, e_page, e_slot, e_next, e_old]; exact bad (fun q => e_old (by rw [q]))
  simp [e_lsn, e_kind, e_txn, e_back, e_page, e_slot, e_next, e_old]
  refine inv_p (rSame01 h.toBytR a.new b.new hn) rfl (by simp [pureL, V.pure]) ?_
  rintro _ rfl
  by_cases e_new : a.new = b.new
  case neg => simp [e_lsn, e_kind, e_txn, e_back, e_page, e_slot, e_next, e_old, e_new]; exact bad (fun q => e_new (by rw [q]))
  simp [e_lsn, e_kind, e_txn, e_back, e_page, e_slot, e_next, e_old, e_new]
  have e : a = b := by
    obtain ⟨a0, a1, a2, a3, a4, a5, a6, a7, a8⟩ := a
    obtain ⟨b0, b1, b2, b3, b4, b5, b6, b7, b8⟩ := b
    simp_all
  exact GhostV.refl ⟨rfl, by simp [e]⟩

def recShort (l : List RecT) : Prop := ∀ r ∈ l, r.old.length < 2 ^ 40 ∧ r.new.length < 2 ^ 40
theorem rSameRow5 (h : RecR P) (a b : List RecT) (ha : a.length < 2 ^ 40) (hs : recShort a) : PCalls P n_gazetteerref05_SameRow [.sl .unk 9 (a.map cRec) [], .sl .unk 9 (b.map cRec) []] (fun r => r = .bool (decide (a = b))) := by
  refine A_gazetteerref05_SameRow h.rsameRow ?_
  unfold F_gazetteerref05_SameRow
  simp [st0]
  by_cases hlen : a.length = b.length
  · simp [hlen]
    refine ⟨EqvI a.length (fun i => a.take i = b.take i), ⟨a.length, GhostV.refl ⟨0, 0, by simp, by simp, by simp, by simp, by simp⟩⟩, ?_⟩
    rintro k1 v8 st ⟨i, nv, rfl, hi, rfl, hn, rfl⟩
    by_cases hlt : i < a.length
    · have hlt2 : i < b.length := by omega
      simp [hlt, hlt2]
      have hsi := hs a[i] (List.getElem_mem hlt)
      refine inv_p (rSame5 h a[i] b[i] hsi.1 hsi.2) rfl (by simp [pureL, V.pure, pureLL]) ?_
      rintro _ rfl
      by_cases he : a[i] = b[i]
      · simp [he]
        refine ⟨a.length - (i + 1), by omega, GhostV.refl ⟨i + 1, nv, rfl, by omega, by rw [wadd1 (by omega)], ?_, rfl⟩⟩
        dsimp only
        rw [take_snoc hlt, take_snoc hlt2, hn, he]
      · simp [he]
        refine GhostV.refl ⟨rfl, ?_⟩
        have : a ≠ b := fun e => he (by subst e; rfl)
        simp [this]
    · have hlt2 : ¬ i < b.length := by omega
      simp [hlt, hlt2]
      rw [List.take_of_length_le (by omega), List.take_of_length_le (by omega)] at hn
      exact GhostV.refl ⟨rfl, by simp [hn]⟩
  · simp [hlen]
    refine GhostV.refl ⟨rfl, ?_⟩
    have : a ≠ b := fun e => hlen (by rw [e])
    simp [this]
end Go.Proofs.Ytmbhgjekjpkigaa.AM

namespace Go.Proofs.Ytmbhgjekjpkigaa.AM
open Go
set_option linter.unusedVariables false
set_option linter.unusedSimpArgs false
variable {P : Program}

structure PageT where
  num : Int
  lsn : Nat
  (s0 s1 s2 s3 : List UInt8)
  deriving DecidableEq
@[simp] def cPage (p : PageT) : List V := [.int .i64 p.num, .int .u64 p.lsn, vB p.s0, vB p.s1, vB p.s2, vB p.s3]
@[simp] theorem p_page (l : List PageT) : pureLL (l.map cPage) = true := pureLL_map (fun _ => by simp [pureL, V.pure, pureLL]) l
def PageT.slot (p : PageT) : Nat → List UInt8
  | 0 => p.s0
  | 1 => p.s1
  | 2 => p.s2
  | _ => p.s3
def PageT.put (p : PageT) (b : List UInt8) : Nat → PageT
  | 0 => { p with s0 := b }
  | 1 => { p with s1 := b }
  | 2 => { p with s2 := b }
  | _ => { p with s3 := b }

structure PagR (P : Program) : Prop extends RecR P where
  num : R_page_numbered P
  chk1 : R_page_Check_1 P
  pchk : R_page_Check P
  idxF : R_slices_IndexFunc_Lbyte_Lbyte P
  conF : R_slices_ContainsFunc_Lbyte_Lbyte P
  bclone : R_bytes_Clone P
  sclone : R_slices_Clone_byte_byte P
  pat : R_page_at P
  pset : R_page_Set P
  rright6 : R_gazetteerref06_Right P

theorem PCalls.chg {f : FuncId} {as : List V} {R R' : V → Prop} (h : PCalls P f as R) (hr : ∀ v, R v → R' v) : PCalls P f as R' := ACalls.mono (fun v st q => ⟨q.1, hr v q.2⟩) h
def numOk (n : Int) : Bool := decide (0 ≤ n) && decide (n < 32)
theorem Num_P (h : PagR P) (n : Int) : PCalls P n_page_numbered [.int .i64 n] (fun r => r = .bool (numOk n)) := by
  refine A_page_numbered h.num ?_
  unfold F_page_numbered
  simp [st0]
  by_cases h0 : 0 ≤ n
  · simp [h0]; exact GhostV.refl ⟨rfl, by simp [numOk, h0]⟩
  · simp [h0]; exact GhostV.refl ⟨rfl, by simp [numOk, h0]⟩
theorem Chk1_P (h : PagR P) (b : List UInt8) : PCalls P n_page_Check_1 [vB b] (fun r => r = .bool (decide (52 < b.length))) := by
  refine A_page_Check_1 h.chk1 ?_
  unfold F_page_Check_1
  simp [st0]
  exact GhostV.refl ⟨rfl, by by_cases q : 52 < b.length <;> simp [q] <;> omega⟩
abbrev vBB (l : List (List UInt8)) : V := .sl .unk 1 (l.map fun b => [vB b]) []
@[simp] theorem p_bb (l : List (List UInt8)) : pureLL (l.map fun b => [vB b]) = true := pureLL_map (fun _ => by simp [pureL, V.pure, pureLL]) l
def anyLong (l : List (List UInt8)) : Bool := l.any fun b => decide (52 < b.length)
def IdxR (l : List (List UInt8)) (r : V) : Prop := ∃ i : Int, r = .int .i64 i ∧ (0 ≤ i ↔ anyLong l = true)
theorem IdxF_P (h : PagR P) (l : List (List UInt8)) (hl : l.length < 2 ^ 40) : PCalls P n_slices_IndexFunc_Lbyte_Lbyte [vBB l, .fn (.func n_page_Check_1) [] []] (IdxR l) := by
  refine A_slices_IndexFunc_Lbyte_Lbyte h.idxF ?_
  unfold F_slices_IndexFunc_Lbyte_Lbyte
  simp [st0, vBB]
  refine ⟨EqvI l.length (fun i => anyLong (l.take i) = false), ⟨l.length, GhostV.refl ⟨0, 0, by simp, by simp, by simp, by simp [anyLong], by simp⟩⟩, ?_⟩
  rintro k1 v8 st ⟨i, nv, rfl, hi, rfl, hn, rfl⟩
  by_cases hlt : i < l.length
  · simp [hlt]
    refine inv_p (Chk1_P h l[i]) rfl (by simp [pureL, V.pure]) ?_
    rintro _ rfl
    by_cases hb : 52 < l[i].length
    · simp [hb]
      exact GhostV.refl ⟨rfl, _, rfl, by simp [anyLong]; exact ⟨l[i], List.getElem_mem hlt, hb⟩⟩
    · simp [hb]
      refine ⟨l.length - (i + 1), by omega, GhostV.refl ⟨i + 1, nv, rfl, by omega, by rw [wadd1 (by omega)], ?_, rfl⟩⟩
      dsimp only
      unfold anyLong at hn ⊢
      rw [take_snoc hlt, List.any_append, hn]; simp [hb]
  · simp [hlt]
    rw [List.take_of_length_le (by omega)] at hn
    exact GhostV.refl ⟨rfl, -1, rfl, by rw [hn]; simp⟩
theorem ConF_P (h : PagR P) (l : List (List UInt8)) (hl : l.length < 2 ^ 40) : PCalls P n_slices_ContainsFunc_Lbyte_Lbyte [vBB l, .fn (.func n_page_Check_1) [] []] (fun r => r = .bool (anyLong l)) := by
  refine A_slices_ContainsFunc_Lbyte_Lbyte h.conF ?_
  unfold F_slices_ContainsFunc_Lbyte_Lbyte
  simp [st0]
  refine inv_p (IdxF_P h l hl) rfl (by simp [pureL, V.pure, vBB]) ?_
  rintro _ ⟨i, rfl, hi⟩
  simp
  refine GhostV.refl ⟨rfl, ?_⟩
  cases hq : anyLong l
  · have : ¬ 0 ≤ i := fun q => by rw [hi, hq] at q; cases q
    simp [this]
  · have : 0 ≤ i := hi.2 hq
    simp [this]
def pageOk (p : PageT) : Bool := decide ((0 ≤ p.num ∧ p.num < 32) ∧ p.s0.length ≤ 52 ∧ p.s1.length ≤ 52 ∧ p.s2.length ≤ 52 ∧ p.s3.length ≤ 52)
/-- Of a box nobody writes any more, an array within it as a row. -/
theorem ghost_asl {L : List (Option (Nat × Obj))} {nv id ver i off n k sz : Nat} {es : List (List V)} {rest : List V} {K : List V → St → Prop} (ho : L[id]? = some (some (ver, .mem sz es))) (hi : i < es.length) (h0 : 0 < k) (h : off + n * k ≤ sz)
    (hk : K (.sl .unk k (chunk k n ((es.getD i []).drop off)) [] :: rest) ⟨L.set id none, nv⟩) : GhostV (.asl id ver i off n k :: rest) ⟨L, nv⟩ K :=
  GhostV.freeze (vs' := .sl .unk k (chunk k n ((es.getD i []).drop off)) [] :: rest) (st' := ⟨L.set id none, nv⟩) (id := id) (ver := ver) (sz := sz) (es := es) (by simp [St.get, ho]) rfl rfl (fun j => by
    cases j with
    | zero => exact .asl id i off n k hi h0 h
    | succ j => simpa using Frz.refl _) (fun id1 ver1 o1 h1 => by
      by_cases e : id = id1
      · subst e
        simp only at h1
        rw [List.getElem?_set_self (List.getElem?_eq_some_iff.1 ho).1] at h1
        cases h1
      · simp only at h1
        rw [List.getElem?_set_ne e] at h1
        exact ⟨fun q => e q.symm, o1, h1, .inl rfl⟩) hk
set_option maxHeartbeats 1000000 in
theorem PCheck (h : PagR P) (p : PageT) : PCalls P n_page_Check [.agg (cPage p)] (fun r => r = .int .i64 (if pageOk p then 0 else 160)) := by
  refine A_page_Check h.pchk ?_
  unfold F_page_Check
  simp [st0]
  refine inv_p (Num_P h p.num) rfl rfl ?_
  rintro _ rfl
  by_cases hn : numOk p.num = true
  · simp [hn]
    refine inv_f0 (ACalls.gv (ConF_P h [] (by simp)).1 (ghost_asl (sz := 6) (es := [cPage p]) (by simp) (by simp) (by simp) (by simp) ?_))
    have e : V.sl .unk 1 (chunk 1 4 (([cPage p].getD 0 []).drop 2)) [] = vBB [p.s0, p.s1, p.s2, p.s3] := by simp [chunk, vBB]
    rw [e]
    refine (ConF_P h [p.s0, p.s1, p.s2, p.s3] (by simp)).at (by simp [pureL, V.pure, pureLL]) ?_
    rintro _ rfl
    have hv : pageOk p = !anyLong [p.s0, p.s1, p.s2, p.s3] := by
      simp only [numOk, Bool.and_eq_true, decide_eq_true_eq] at hn
      rw [Bool.eq_iff_iff]
      simp [pageOk, anyLong, hn.1, hn.2]
    cases hq : anyLong [p.s0, p.s1, p.s2, p.s3]
    · simp
      exact GhostV.refl ⟨rfl, by rw [hv, hq]; rfl⟩
    · simp
      exact GhostV.refl ⟨rfl, by rw [hv, hq]; rfl⟩
  · simp [hn]
    refine GhostV.refl ⟨rfl, ?_⟩
    have : pageOk p = false := by
      simp only [pageOk, decide_eq_false_iff_not]; simp [numOk] at hn; omega
    simp [this]

theorem BClone (h : PagR P) (l : List UInt8) (hl : l.length < 2 ^ 40) : PCalls P n_bytes_Clone [vB l] (fun r => r = vB l) := by
  refine A_bytes_Clone h.bclone ?_
  unfold F_bytes_Clone
  have fin : ∀ {st : St}, GhostV [.sl .nil 0 [] []] st fun vs st => (mkres vs).pure = true ∧ mkres vs = V.sl .unk 1 [] [] := GhostV.le (LeVs.cons (.nil _ 1) (LeVs.refl _)) ⟨by simp [V.pure, pureLL], by simp⟩
  cases l with
  | nil =>
    simp [st0, vB]
    exact ⟨GhostV.rowk (L := []) (sz := 1) (es := []) (by simp) (by simp) (by simp) ⟨by simp [V.pure, pureLL], by simp⟩, fin⟩
  | cons x l =>
    simp [st0, vB]
    refine ⟨by simp at hl; omega, ?_⟩
    refine GhostV.rowk (L := []) (sz := 1) (es := (x :: l).map c8) (by simp) (by simp) (by simp) ?_
    rw [List.drop_zero, List.take_of_length_le (by simp)]
    exact ⟨by simp only [mkres, V.pure, Bool.and_eq_true]; exact ⟨p_c8 (x :: l), rfl⟩, rfl⟩
end Go.Proofs.Ytmbhgjekjpkigaa.AM

namespace Go.Proofs.Ytmbhgjekjpkigaa.AM
open Go
set_option linter.unusedVariables false
set_option linter.unusedSimpArgs false
variable {P : Program}

theorem SClone (h : PagR P) (l : List UInt8) (hl : l.length < 2 ^ 40) : PCalls P n_slices_Clone_byte_byte [vB l] (fun r => r = vB l) := by
  refine A_slices_Clone_byte_byte h.sclone ?_
  unfold F_slices_Clone_byte_byte
  have fin : ∀ {st : St}, GhostV [.sl .nil 0 [] []] st fun vs st => (mkres vs).pure = true ∧ mkres vs = V.sl .unk 1 [] [] := GhostV.le (LeVs.cons (.nil _ 1) (LeVs.refl _)) ⟨by simp [V.pure, pureLL], by simp⟩
  cases l with
  | nil =>
    simp [st0, vB]
    exact ⟨GhostV.rowk (L := []) (sz := 1) (es := []) (by simp) (by simp) (by simp) ⟨by simp [V.pure, pureLL], by simp⟩, fin⟩
  | cons x l =>
    simp [st0, vB]
    refine ⟨by simp at hl; omega, ?_⟩
    refine GhostV.rowk (L := []) (sz := 1) (es := (x :: l).map c8) (by simp) (by simp) (by simp) ?_
    rw [List.drop_zero, List.take_of_length_le (by simp)]
    exact ⟨by simp only [mkres, V.pure, Bool.and_eq_true]; exact ⟨p_c8 (x :: l), rfl⟩, rfl⟩
def pShort (p : PageT) : Prop := p.s0.length < 2 ^ 40 ∧ p.s1.length < 2 ^ 40 ∧ p.s2.length < 2 ^ 40 ∧ p.s3.length < 2 ^ 40
theorem pageOk.short {p : PageT} (h : pageOk p = true) : pShort p := by
  simp only [pageOk, decide_eq_true_eq] at h
  exact ⟨by omega, by omega, by omega, by omega⟩
def zeroP : PageT := ⟨0, 0, [], [], [], []⟩
abbrev zCells : List V := [.int .i64 0, .int .u64 0, .sl .nil 0 [] [], .sl .nil 0 [] [], .sl .nil 0 [] [], .sl .nil 0 [] []]
theorem zero_le : LeV (.agg zCells) (.agg (cPage zeroP)) := .agg _ _ rfl (fun i => by
  match i with
  | 0 => exact .refl _
  | 1 => exact .refl _
  | 2 => exact .nil _ _
  | 3 => exact .nil _ _
  | 4 => exact .nil _ _
  | 5 => exact .nil _ _
  | i + 6 => exact .refl _)
theorem zeroG {e : Int} {st : St} {K : List V → St → Prop} (hk : K [.agg (cPage zeroP), .int .i64 e] st) : GhostV [.agg zCells, .int .i64 e] st K := GhostV.le (LeVs.cons zero_le (LeVs.refl _)) hk
def AtI (p : PageT) (k : Nat) (v : V) (st : St) : Prop :=
  ∃ i nv, k = 4 - i ∧ i ≤ 4 ∧ v = .int .i64 ((i : Nat) : Int) ∧ st = ⟨[some (0, .mem 6 [cPage p]), some (1, .mem 6 [zCells])], nv⟩
def atR (p : PageT) (i : Int) : V := if pageOk p then (if 0 ≤ i ∧ i < 4 then .tup [.agg (cPage p), .int .i64 0] else .tup [.agg (cPage zeroP), .int .i64 2]) else .tup [.agg (cPage zeroP), .int .i64 160]
theorem At_P (h : PagR P) (p : PageT) (i : Int) : PCalls P n_page_at [.agg (cPage p), .int .i64 i] (fun r => r = atR p i) := by
  refine A_page_at h.pat ?_
  unfold F_page_at
  simp [st0]
  refine inv_p (PCheck h p) rfl (by simp [pureL, V.pure, pureLL]) ?_
  rintro _ rfl
  cases hok : pageOk p
  · simp
    exact zeroG ⟨by simp [V.pure, pureL, pureLL], by simp [atR, hok]⟩
  have hp := pageOk.short hok
  by_cases h0 : i < 0
  · simp [h0]
    exact zeroG ⟨by simp [V.pure, pureL, pureLL], by simp [atR, hok]; omega⟩
  by_cases h4 : 4 ≤ i
  · simp [h0, h4]
    exact zeroG ⟨by simp [V.pure, pureL, pureLL], by simp [atR, hok]; omega⟩
  simp [h0, h4]
  refine ⟨AtI p, ⟨4, GhostV.refl ⟨0, _, by simp, by simp, by simp, rfl⟩⟩, ?_⟩
  rintro k1 v st ⟨j, nv, rfl, hj, rfl, rfl⟩
  have step : ∀ j, j < 4 → GhostV [.int .i64 (IntKind.i64.wrap ((j : Nat) + 1))] ⟨[some (0, .mem 6 [cPage p]), some (1, .mem 6 [zCells])], nv⟩ (app (n := 1) (AtI p (4 - (j + 1)))) := fun j hj => GhostV.refl ⟨j + 1, _, rfl, by omega, by rw [wadd1 (by omega)], rfl⟩
  rcases (by omega : j = 0 ∨ j = 1 ∨ j = 2 ∨ j = 3 ∨ j = 4) with rfl | rfl | rfl | rfl | rfl
  · simp
    refine inv_p (BClone h p.s0 hp.1) rfl (by simp [pureL, V.pure]) ?_
    rintro _ rfl
    simp [vB, offV]
    exact ⟨3, by omega, by simpa using step 0 (by omega)⟩
  · simp
    refine inv_p (BClone h p.s1 hp.2.1) rfl (by simp [pureL, V.pure]) ?_
    rintro _ rfl
    simp [vB, offV]
    exact ⟨2, by omega, by simpa using step 1 (by omega)⟩
  · simp
    refine inv_p (BClone h p.s2 hp.2.2.1) rfl (by simp [pureL, V.pure]) ?_
    rintro _ rfl
    simp [vB, offV]
    exact ⟨1, by omega, by simpa using step 2 (by omega)⟩
  · simp
    refine inv_p (BClone h p.s3 hp.2.2.2) rfl (by simp [pureL, V.pure]) ?_
    rintro _ rfl
    simp [vB, offV]
    simpa using step 3 (by omega)
  · simp
    exact GhostV.refl ⟨by simp [V.pure, pureL, pureLL], by simp [atR, hok]; omega⟩
def setR (p : PageT) (i : Int) (b : List UInt8) (lsn : Nat) : V :=
  if pageOk p then (if 0 ≤ i ∧ i < 4 then (if b.length ≤ 52 then .tup [.agg (cPage { p.put b i.toNat with lsn := lsn }), .int .i64 0] else .tup [.agg (cPage zeroP), .int .i64 3]) else .tup [.agg (cPage zeroP), .int .i64 2]) else .tup [.agg (cPage zeroP), .int .i64 160]
theorem Set_P (h : PagR P) (p : PageT) (i : Int) (b : List UInt8) (lsn : Nat) : PCalls P n_page_Set [.agg (cPage p), .int .i64 i, vB b, .int .u64 lsn] (fun r => r = setR p i b lsn) := by
  refine A_page_Set h.pset ?_
  unfold F_page_Set
  simp [st0]
  refine inv_p (At_P h p i) rfl (by simp [pureL, V.pure, pureLL]) ?_
  rintro _ rfl
  cases hok : pageOk p
  · simp [atR, hok, zeroP]
    exact GhostV.refl ⟨by simp [V.pure, pureL, pureLL], by simp [setR, hok, zeroP]⟩
  by_cases hi : 0 ≤ i ∧ i < 4
  case neg =>
    simp [atR, hok, hi, zeroP]
    exact GhostV.refl ⟨by simp [V.pure, pureL, pureLL], by simp [setR, hok, hi, zeroP]⟩
  simp [atR, hok, hi]
  by_cases hb : (52 : Int) < (b.length : Int)
  · simp [hb]
    exact zeroG ⟨by simp [V.pure, pureL, pureLL], by simp [setR, hok, hi]; omega⟩
  simp [hb]
  refine inv_p (BClone h b (by omega)) rfl (by simp [pureL, V.pure]) ?_
  rintro _ rfl
  have hbb : b.length ≤ 52 := by omega
  rcases (by omega : i = 0 ∨ i = 1 ∨ i = 2 ∨ i = 3) with rfl | rfl | rfl | rfl
  all_goals
    simp [vB, offV]
    exact GhostV.refl ⟨by simp [V.pure, pureL, pureLL], by simp [setR, hok, hbb, PageT.put]⟩
end Go.Proofs.Ytmbhgjekjpkigaa.AM

namespace Go.Proofs.Ytmbhgjekjpkigaa.AM
open Go
set_option linter.unusedVariables false
set_option linter.unusedSimpArgs false
variable {P : Program}

structure RowR (P : Program) : Prop extends PagR P where
  ahead : R_record_ahead P
  ahead1 : R_record_ahead_1 P
  checkRow : R_record_CheckRow P
  rightRow : R_gazetteerref05_RightRow P
  rowErr : R_gazetteerref12_Row P

def ofT (t : Nat) (r : RecT) : Bool := decide (r.txn = t)
def aheadL (l : List RecT) (i t : Nat) : List RecT := ((l.take i).reverse).filter (ofT t)
abbrev aRec (r : RecT) : List V := [.agg (cRec r)]
def AhI (l : List RecT) (at' t N : Nat) (J : List RecT → List (Option (Nat × Obj)) → Prop) (k : Nat) (v : V) (st : St) : Prop :=
  ∃ j L' nv, k = j ∧ j ≤ at' ∧ v = .int .i64 ((j : Int) - 1) ∧ J ((((l.take at').drop j).reverse).filter (ofT t)) L' ∧ st = ⟨L', nv⟩
theorem ahead_iter (h : RowR P) (l : List RecT) (at' t : Nat) (hat : at' ≤ l.length) (hl : l.length < 2 ^ 40) {i1 v1 i2 v2 i3 v3 : Nat} :
    IterC P (fun r => [V.agg (cRec r)]) (.fn (.func n_record_ahead_1) [] [.ptr i1 v1 0 0, .ptr i2 v2 0 0, .ptr i3 v3 0 0])
      (fun L => L[i1]? = some (some (v1, .mem 1 [[.int .i64 ((at' : Nat) : Int)]])) ∧ L[i2]? = some (some (v2, .mem 1 [[.sl .unk 9 (l.map cRec) []]])) ∧ L[i3]? = some (some (v3, .mem 1 [[.int .u64 t]]))) (· = aheadL l at' t) := by
  intro yv N J S L0 nv0 K hJ hS hy h0 hk hks
  refine AInvE_fn (first := []) ?_
  refine A_record_ahead_1 h.ahead1 ?_
  unfold F_record_ahead_1
  have g1 : ∀ ys L', J ys L' → L'[i1]? = some (some (v1, .mem 1 [[.int .i64 ((at' : Nat) : Int)]])) := fun ys L' h => (hJ ys L' h).2.1
  have g2 : ∀ ys L', J ys L' → L'[i2]? = some (some (v2, .mem 1 [[.sl .unk 9 (l.map cRec) []]])) := fun ys L' h => (hJ ys L' h).2.2.1
  have g3 : ∀ ys L', J ys L' → L'[i3]? = some (some (v3, .mem 1 [[.int .u64 t]])) := fun ys L' h => (hJ ys L' h).2.2.2
  have hw : IntKind.i64.wrap ((at' : Int) - 1) = (at' : Int) - 1 := wrap_i64 (by omega)
  simp [g1 _ _ h0, hw]
  refine ⟨AhI l at' t N J, ⟨at', GhostV.refl ⟨at', L0, nv0, rfl, by omega, by simp, by simpa using h0, rfl⟩⟩, ?_⟩
  rintro j v st ⟨_, L', nv, rfl, hj, rfl, hJj, rfl⟩
  by_cases hj0 : j = 0
  · subst hj0
    simp
    rw [List.drop_zero] at hJj
    exact GhostV.refl (hk _ _ _ hJj rfl)
  obtain ⟨m, rfl⟩ : ∃ m, j = m + 1 := ⟨j - 1, by omega⟩
  have hml : m < l.length := by omega
  have e0 : ((m + 1 : Nat) : Int) - 1 = (m : Int) := by omega
  have hw2 : IntKind.i64.wrap ((m : Int) - 1) = (m : Int) - 1 := wrap_i64 (by omega)
  have hdrop : (l.take at').drop m = l[m] :: (l.take at').drop (m + 1) := by
    have hmt : m < (l.take at').length := by simp; omega
    rw [List.drop_eq_getElem_cons hmt]; simp
  rw [e0]
  simp [g2 _ _ hJj, g3 _ _ hJj, hml]
  by_cases hp : l[m].txn = t
  · have hpe : (l[m].txn = t) = True := eq_true hp
    simp [hpe, g2 _ _ hJj, hml]
    have hstep : (((l.take at').drop m).reverse).filter (ofT t) = (((l.take at').drop (m + 1)).reverse).filter (ofT t) ++ [l[m]] := by
      rw [hdrop]; simp [ofT, hp]
    have hx := hy ((((l.take at').drop (m + 1)).reverse).filter (ofT t)) l[m] L' [] nv
    rw [List.append_nil] at hx
    refine hx _ hJj ⟨((l.take m).reverse).filter (ofT t), ?_⟩ ?_ ?_
    · show _ = aheadL l at' t
      unfold aheadL
      conv => rhs; rw [← List.take_append_drop m (l.take at')]
      rw [List.reverse_append, List.filter_append, hstep, List.take_take, show min m at' = m by omega]
      simp
    · intro L'' H nv' hJ'
      simp [hpe]
      rw [← hstep] at hJ'
      exact ⟨m, by omega, GhostV.keep ⟨m, L'', nv', rfl, by omega, by rw [hw2], hJ', rfl⟩⟩
    · intro L'' H nv' hS'
      simp [hpe]
      exact GhostV.keep (hks _ _ _ hS')
  · simp [hp]
    have hstep : (((l.take at').drop m).reverse).filter (ofT t) = (((l.take at').drop (m + 1)).reverse).filter (ofT t) := by
      rw [hdrop]; simp [ofT, hp]
    rw [← hstep] at hJj
    exact ⟨m, by omega, GhostV.refl ⟨m, L', nv, rfl, by omega, by rw [hw2], hJj, rfl⟩⟩
theorem Ahead_R (h : RowR P) (l : List RecT) (at' t : Nat) {L : List (Option (Nat × Obj))} {nv : Nat} {K : V → St → Prop}
    (hk : K (.fn (.func n_record_ahead_1) [] [.ptr (L.length + 1) (nv + 1) 0 0, .ptr L.length nv 0 0, .ptr (L.length + 2) (nv + 2) 0 0]) ⟨L ++ [some (nv, .mem 1 [[.sl .unk 9 (l.map cRec) []]]), some (nv + 1, .mem 1 [[.int .i64 ((at' : Nat) : Int)]]), some (nv + 2, .mem 1 [[.int .u64 t]])], nv + 3⟩) :
    ACalls P n_record_ahead [.sl .unk 9 (l.map cRec) [], .int .i64 ((at' : Nat) : Int), .int .u64 t] ⟨L, nv⟩ K := by
  refine A_record_ahead h.ahead ?_
  unfold F_record_ahead
  simp
  exact GhostV.refl (by simpa using hk)
end Go.Proofs.Ytmbhgjekjpkigaa.AM

namespace Go.Proofs.Ytmbhgjekjpkigaa.AM
open Go
set_option linter.unusedVariables false
set_option linter.unusedSimpArgs false
variable {P : Program}

def headLsn : List RecT → Nat
  | [] => 0
  | r :: _ => r.lsn
def lastOf (l : List RecT) (t : Nat) : Nat := l.foldl (fun a r => if r.txn = t then r.lsn else a) 0
def okB (l : List RecT) (i : Nat) (r : RecT) : Bool :=
  recOk r && (decide (i = 0) || decide (r.lsn = ((l[i - 1]?).map (·.lsn)).getD 0 + 1)) && (decide (r.back < headLsn l) || decide (lastOf (l.take i) r.txn = r.back))
def okAt (l : List RecT) (i : Nat) : Bool := match l[i]? with | some r => okB l i r | none => true
def rowOk (l : List RecT) : Bool := (List.range l.length).all (okAt l)
def rowErr (l : List RecT) : Int := if 64 < l.length then 3 else if rowOk l then 0 else 150
def OkTo5 (l : List RecT) (i : Nat) : Prop := ∀ j, j < i → okAt l j = true
theorem OkTo5.zero {l : List RecT} : OkTo5 l 0 := fun j h => by omega
theorem OkTo5.step {l : List RecT} {i : Nat} (h : OkTo5 l i) (hi : okAt l i = true) : OkTo5 l (i + 1) := fun j hj => by
  by_cases e : j = i
  · subst e; exact hi
  · exact h j (by omega)
theorem rowOk_iff {l : List RecT} : rowOk l = true ↔ OkTo5 l l.length := by
  simp only [rowOk, List.all_eq_true, List.mem_range]; rfl
theorem rowOk_false {l : List RecT} {i : Nat} (hi : i < l.length) (h : okAt l i = false) : rowOk l = false := by
  cases hq : rowOk l
  · rfl
  · rw [rowOk_iff.1 hq i hi] at h; cases h
theorem okAt_eq {l : List RecT} {i : Nat} (hi : i < l.length) : okAt l i = okB l i l[i] := by simp [okAt, hi]
theorem lastOf_snoc {l : List RecT} {i t : Nat} (h : i < l.length) : lastOf (l.take (i + 1)) t = if l[i].txn = t then l[i].lsn else lastOf (l.take i) t := by
  unfold lastOf
  rw [take_snoc h, List.foldl_append]; rfl
theorem aheadL_snoc {l : List RecT} {i t : Nat} (h : i < l.length) : aheadL l (i + 1) t = if l[i].txn = t then l[i] :: aheadL l i t else aheadL l i t := by
  unfold aheadL
  rw [take_snoc h, List.reverse_append]
  by_cases e : l[i].txn = t <;> simp [ofT, e]
theorem lastOf_ahead {l : List RecT} {t : Nat} : ∀ {i : Nat}, i ≤ l.length → lastOf (l.take i) t = match aheadL l i t with | [] => 0 | r :: _ => r.lsn
  | 0, _ => by simp [lastOf, aheadL]
  | i + 1, h => by
    rw [lastOf_snoc (by omega), aheadL_snoc (by omega), lastOf_ahead (i := i) (by omega)]
    split <;> rfl
/-- What the numbers of a record may be. -/
def recW (r : RecT) : Prop := r.lsn < 2 ^ 64 ∧ r.txn < 2 ^ 64 ∧ r.back < 2 ^ 64 ∧ r.next < 2 ^ 64 ∧ r.old.length < 2 ^ 40 ∧ r.new.length < 2 ^ 40
def rowW (l : List RecT) : Prop := ∀ r ∈ l, recW r
theorem u64add1 {x : Nat} (h : x < 2 ^ 64) : IntKind.u64.wrap ((x : Int) + 1) = if x + 1 = 2 ^ 64 then 0 else ((x + 1 : Nat) : Int) := by
  split
  · rename_i e
    have : (x : Int) = 18446744073709551615 := by omega
    rw [this]; decide
  · rw [Go.IntWalk.u64_in _ (by omega)]; omega
theorem u64sub1 {x : Nat} (h : x < 2 ^ 64) (h0 : 0 < x) : IntKind.u64.wrap ((x : Int) - 1) = ((x - 1 : Nat) : Int) := by
  rw [Go.IntWalk.u64_in _ (by omega)]; omega
theorem head_get {l : List RecT} (h : 0 < l.length) : headLsn l = (l[0]).lsn := by
  cases l with
  | nil => simp at h
  | cons r l => rfl
def RrI (l : List RecT) (k : Nat) (v : V) (st : St) : Prop := ∃ i nv, k = l.length - i ∧ i ≤ l.length ∧ v = .int .i64 ((i : Nat) : Int) ∧ OkTo5 l i ∧ st = ⟨[], nv⟩
def RrJ (l : List RecT) (i t : Nat) (L : List (Option (Nat × Obj))) (k : Nat) (v5 v6 : V) (st : St) : Prop := ∃ j nv, k = i - j ∧ j ≤ i ∧ v5 = .int .u64 (lastOf (l.take j) t) ∧ v6 = .int .i64 ((j : Nat) : Int) ∧ st = ⟨L, nv⟩
set_option maxHeartbeats 2000000 in
theorem RightRow_R (h : RowR P) (l : List RecT) (hl : l.length < 2 ^ 40) (hw : rowW l) : PCalls P n_gazetteerref05_RightRow [.sl .unk 9 (l.map cRec) []] (fun r => r = .bool (rowOk l)) := by
  refine A_gazetteerref05_RightRow h.rightRow ?_
  unfold F_gazetteerref05_RightRow
  refine ⟨RrI l, ⟨l.length, GhostV.refl ⟨0, _, by simp, by simp, by simp, .zero, rfl⟩⟩, ?_⟩
  rintro k1 v3 st ⟨i, nv, rfl, hi, rfl, hok, rfl⟩
  by_cases hlt : i < l.length
  · obtain ⟨w1, w2, w3, w4, w5, w6⟩ := hw l[i] (List.getElem_mem hlt)
    simp [hlt]
    refine inv_p (rRight5 h.toRecR l[i] w5 w6) rfl (by simp [pureL, V.pure, pureLL]) ?_
    rintro _ rfl
    have bad : okB l i l[i] = false → ∀ {st : St}, GhostV [.bool false] st fun vs st => (mkres vs).pure = true ∧ mkres vs = .bool (rowOk l) := fun hb st => GhostV.refl ⟨rfl, by rw [rowOk_false hlt (by rw [okAt_eq hlt]; exact hb)]; rfl⟩
    cases hr : recOk l[i]
    · simp
      exact bad (by simp [okB, hr])
    have hlsn : 0 < l[i].lsn := by simp only [recOk, decide_eq_true_eq] at hr; omega
    have hprev : (decide (i = 0) || decide (l[i].lsn = ((l[i - 1]?).map (·.lsn)).getD 0 + 1)) = true ∨ 0 < i ∧ (l[i - 1]'(by omega)).lsn ≠ l[i].lsn - 1 := by
      by_cases h0 : i = 0
      · exact .inl (by simp [h0])
      · by_cases e : (l[i - 1]'(by omega)).lsn = l[i].lsn - 1
        · refine .inl ?_
          have : (l[i - 1]?) = some (l[i - 1]'(by omega)) := List.getElem?_eq_getElem (by omega)
          simp [h0, this]; omega
        · exact .inr ⟨by omega, e⟩
    have hs1 := u64sub1 w1 hlsn
    have hl0 : ¬ l[i].lsn = 0 := by omega
    rcases hprev with hprev | ⟨h0, hne⟩
    case inr =>
      have hws := wsub1 (x := i) (by omega) h0
      have hne' : ¬ l[i].lsn - 1 = (l[i - 1]'(by omega)).lsn := fun e => hne e.symm
      simp [h0, hws, hs1, hl0, show i - 1 < l.length by omega, hne']
      refine bad ?_
      have e2 : (l[i - 1]?) = some (l[i - 1]'(by omega)) := List.getElem?_eq_getElem (by omega)
      have : ¬ (l[i].lsn = (l[i - 1]'(by omega)).lsn + 1) := by omega
      simp [okB, e2, this, show ¬ i = 0 by omega]
    have hz : i = 0 ∨ 0 < i ∧ ∃ hq : i - 1 < l.length, l[i].lsn - 1 = (l[i - 1]).lsn := by
      by_cases h0 : i = 0
      · exact .inl h0
      · refine .inr ⟨by omega, by omega, ?_⟩
        have : (l[i - 1]?) = some (l[i - 1]'(by omega)) := List.getElem?_eq_getElem (by omega)
        simp [h0, this] at hprev; omega
    have htail : okB l i l[i] = (decide (l[i].back < headLsn l) || decide (lastOf (l.take i) l[i].txn = l[i].back)) := by
      unfold okB; rw [hr, hprev]; rfl
    obtain ⟨L, hL⟩ : ∃ L, L = [some (nv, Obj.mem 9 [cRec l[i]])] := ⟨_, rfl⟩
    have hh := head_get (l := l) (by omega)
    have hlast : lastOf (l.take i) l[i].txn < 2 ^ 64 := by
      rw [lastOf_ahead (by omega)]
      split
      · omega
      · rename_i r rs e
        have : r ∈ aheadL l i l[i].txn := by rw [e]; simp
        have : r ∈ l := by
          unfold aheadL at this
          exact List.mem_of_mem_take (by simpa using (List.mem_filter.1 this).1)
        exact (hw r this).1
    rcases hz with h0 | ⟨h0, hq, he⟩
    all_goals
      first
        | simp [show ¬ 0 < i by omega]
        | simp [h0, wsub1 (x := i) (by omega) h0, hs1, hl0, hq, he]
      refine ⟨RrJ l i l[i].txn L, ⟨i, GhostV.refl ⟨0, _, by simp, by simp, by simp [lastOf], by simp, by rw [hL]; rfl⟩⟩, ?_⟩
      rintro k2 v5 v6 st ⟨j, nv2, rfl, hj, rfl, rfl, rfl⟩
      by_cases hji : j < i
      · have hjl : j < l.length := by omega
        have hsn := lastOf_snoc (t := l[i].txn) hjl
        rw [hL]
        by_cases ht : l[j].txn = l[i].txn
        · simp [hji, hjl, ht]
          refine ⟨i - (j + 1), by omega, GhostV.refl ⟨j + 1, _, rfl, by omega, ?_, by rw [wadd1 (by omega)], rfl⟩⟩
          rw [hsn, if_pos ht]
        · simp [hji, hjl, ht]
          refine ⟨i - (j + 1), by omega, GhostV.refl ⟨j + 1, _, rfl, by omega, ?_, by rw [wadd1 (by omega)], rfl⟩⟩
          rw [hsn, if_neg ht]
      · obtain rfl : j = i := by omega
        rw [hL]
        simp [hji, show 0 < l.length by omega]
        by_cases hb : l[j].back < headLsn l
        · have hb' : ¬ (l[0]'(by omega)).lsn ≤ l[j].back := by rw [← hh]; omega
          simp [hb']
          exact ⟨l.length - (j + 1), by omega, GhostV.keep (L := []) (M := [_]) ⟨j + 1, _, rfl, by omega, by rw [wadd1 (by omega)], hok.step (by rw [okAt_eq hlt, htail]; simp [hb]), rfl⟩⟩
        · have hb' : (l[0]'(by omega)).lsn ≤ l[j].back := by rw [← hh]; omega
          by_cases hla : lastOf (l.take j) l[j].txn = l[j].back
          · simp [hb', hla]
            exact ⟨l.length - (j + 1), by omega, GhostV.keep (L := []) (M := [_]) ⟨j + 1, _, rfl, by omega, by rw [wadd1 (by omega)], hok.step (by rw [okAt_eq hlt, htail]; simp [hla]), rfl⟩⟩
          · have hla' : ¬ l[j].back = lastOf (l.take j) l[j].txn := fun e => hla e.symm
            simp [hb', hla']
            exact bad (by rw [htail]; simp [hb, hla])
  · simp [hlt]
    obtain rfl : i = l.length := by omega
    exact GhostV.refl ⟨rfl, by rw [rowOk_iff.2 hok]; rfl⟩
end Go.Proofs.Ytmbhgjekjpkigaa.AM

namespace Go.Proofs.Ytmbhgjekjpkigaa.AM
open Go
set_option linter.unusedVariables false
set_option linter.unusedSimpArgs false
variable {P : Program}

theorem RowErr_R (h : RowR P) (l : List RecT) (hl : l.length < 2 ^ 40) (hw : rowW l) : PCalls P n_gazetteerref12_Row [.sl .unk 9 (l.map cRec) []] (fun r => r = .int .i64 (rowErr l)) := by
  refine A_gazetteerref12_Row h.rowErr ?_
  unfold F_gazetteerref12_Row
  simp [st0]
  by_cases h64 : (64 : Int) < (l.length : Int)
  · simp [h64]
    exact GhostV.refl ⟨rfl, by simp [rowErr, show 64 < l.length by omega]⟩
  simp [h64]
  refine inv_p (RightRow_R h l hl hw) rfl (by simp [pureL, V.pure, pureLL]) ?_
  rintro _ rfl
  cases hr : rowOk l
  · simp
    exact GhostV.refl ⟨rfl, by simp [rowErr, hr, show ¬ 64 < l.length by omega]⟩
  · simp
    exact GhostV.refl ⟨rfl, by simp [rowErr, hr, show ¬ 64 < l.length by omega]⟩

def CrI (l : List RecT) (k : Nat) (v2 v : V) (st : St) : Prop := ∃ i nv, k = l.length - i ∧ i ≤ l.length ∧ v2 = .int .i64 0 ∧ v = .int .i64 ((i : Nat) : Int) ∧ OkTo5 l i ∧ st = ⟨[], nv⟩
set_option maxHeartbeats 2000000 in
theorem CheckRow_R (h : RowR P) (l : List RecT) (hl : l.length < 2 ^ 40) (hw : rowW l) : PCalls P n_record_CheckRow [.sl .unk 9 (l.map cRec) []] (fun r => r = .int .i64 (rowErr l)) := by
  refine A_record_CheckRow h.checkRow ?_
  unfold F_record_CheckRow
  simp [st0]
  by_cases h64 : (64 : Int) < (l.length : Int)
  · simp [h64]
    exact GhostV.refl ⟨rfl, by simp [rowErr, show 64 < l.length by omega]⟩
  have n64 : ¬ 64 < l.length := by omega
  simp [h64]
  refine ⟨CrI l, ⟨l.length, GhostV.refl ⟨0, _, by simp, by simp, by simp, by simp, .zero, rfl⟩⟩, ?_⟩
  rintro k1 v2 v12 st ⟨i, nv, rfl, hi, rfl, rfl, hok, rfl⟩
  by_cases hlt : i < l.length
  · obtain ⟨w1, w2, w3, w4, w5, w6⟩ := hw l[i] (List.getElem_mem hlt)
    simp [hlt]
    refine inv_p (Check_R h.toRecR l[i] w5 w6) rfl (by simp [pureL, V.pure, pureLL]) ?_
    rintro _ rfl
    have bad : okB l i l[i] = false → ∀ {st : St}, GhostV [.int .i64 150] st fun vs st => (mkres vs).pure = true ∧ mkres vs = .int .i64 (rowErr l) := fun hb st => GhostV.refl ⟨rfl, by simp [rowErr, n64, rowOk_false hlt (by rw [okAt_eq hlt]; exact hb)]⟩
    cases hr : recOk l[i]
    · simp
      exact bad (by simp [okB, hr])
    have hlsn : 0 < l[i].lsn := by simp only [recOk, decide_eq_true_eq] at hr; omega
    have hprev : (decide (i = 0) || decide (l[i].lsn = ((l[i - 1]?).map (·.lsn)).getD 0 + 1)) = true ∨ 0 < i ∧ l[i].lsn ≠ (l[i - 1]'(by omega)).lsn + 1 := by
      by_cases h0 : i = 0
      · exact .inl (by simp [h0])
      · by_cases e : l[i].lsn = (l[i - 1]'(by omega)).lsn + 1
        · refine .inl ?_
          have : (l[i - 1]?) = some (l[i - 1]'(by omega)) := List.getElem?_eq_getElem (by omega)
          simp [h0, this]; omega
        · exact .inr ⟨by omega, e⟩
    rcases hprev with hprev | ⟨h0, hne⟩
    case inr =>
      have hws := wsub1 (x := i) (by omega) h0
      have hwp := (hw (l[i - 1]'(by omega)) (List.getElem_mem _)).1
      have hne' : ¬ ((l[i].lsn : Nat) : Int) = IntKind.u64.wrap (((l[i - 1]'(by omega)).lsn : Int) + 1) := by
        rw [u64add1 hwp]; split <;> omega
      simp [h0, hws, show i - 1 < l.length by omega, hne']
      refine bad ?_
      have e2 : (l[i - 1]?) = some (l[i - 1]'(by omega)) := List.getElem?_eq_getElem (by omega)
      simp [okB, e2, hne, show ¬ i = 0 by omega]
    have hz : i = 0 ∨ 0 < i ∧ ∃ hq : i - 1 < l.length, ((l[i].lsn : Nat) : Int) = IntKind.u64.wrap (((l[i - 1]).lsn : Int) + 1) := by
      by_cases h0 : i = 0
      · exact .inl h0
      · refine .inr ⟨by omega, by omega, ?_⟩
        have : (l[i - 1]?) = some (l[i - 1]'(by omega)) := List.getElem?_eq_getElem (by omega)
        have hwp := (hw (l[i - 1]'(by omega)) (List.getElem_mem _)).1
        simp [h0, this] at hprev
        rw [u64add1 hwp, if_neg (by omega)]; omega
    have htail : okB l i l[i] = (decide (l[i].back < headLsn l) || decide (lastOf (l.take i) l[i].txn = l[i].back)) := by
      unfold okB; rw [hr, hprev]; rfl
    have hh := head_get (l := l) (by omega)
    have hgood : recOk (l[0]'(by omega)) = true := by
      by_cases h0 : i = 0
      · subst h0; exact hr
      · have := hok 0 (by omega)
        rw [okAt_eq (by omega)] at this
        simp only [okB, Bool.and_eq_true] at this
        exact this.1.1
    have hhead : 0 < headLsn l := by
      rw [hh]; simp only [recOk, decide_eq_true_eq] at hgood; omega
    have next : ∀ {L : List (Option (Nat × Obj))} {nv' : Nat}, okB l i l[i] = true → ∃ j, j < l.length - i ∧ GhostV [.int .i64 0, .int .i64 (IntKind.i64.wrap ((i : Int) + 1))] ⟨L, nv'⟩ (app (n := 2) (CrI l j)) := fun {L nv'} hb =>
      ⟨l.length - (i + 1), by omega, GhostV.bare ⟨i + 1, _, rfl, by omega, rfl, by rw [wadd1 (by omega)], hok.step (by rw [okAt_eq hlt]; exact hb), rfl⟩⟩
    rcases hz with h0 | ⟨h0, hq, he⟩
    all_goals
      first
        | simp [show ¬ 0 < i by omega, show 0 < l.length by omega]
        | simp [h0, wsub1 (x := i) (by omega) h0, hq, eq_true he, show 0 < l.length by omega]
      by_cases hb : l[i].back < headLsn l
      · have hb' : l[i].back < (l[0]'(by omega)).lsn := by rw [← hh]; omega
        simp [hb']
        exact next (by rw [htail]; simp [hb])
      · have hb' : ¬ l[i].back < (l[0]'(by omega)).lsn := by rw [← hh]; omega
        simp [hb']
        refine inv_f0 (Ahead_R h l i l[i].txn ?_)
        intro LP HY
        simp only [List.length_append, List.length_cons, List.length_nil, Nat.zero_add] at HY
        simp
        obtain ⟨A, hA⟩ : ∃ A : Bool → Obj → List (Option (Nat × Obj)), A = fun fnd lp => [some (nv, Obj.mem 9 [cRec l[i]]), some (nv + 1, Obj.mem 1 [[V.bool fnd]]), some (nv + 1 + 1, Obj.mem 1 [[V.sl SK.unk 9 (List.map cRec l) []]]), some (nv + 1 + 1 + 1, Obj.mem 1 [[V.int IntKind.i64 ((i : Nat) : Int)]]), some (nv + 1 + 1 + 2, Obj.mem 1 [[V.int IntKind.u64 ((l[i].txn : Nat) : Int)]]), some (nv + 1 + 1 + 3, lp)] := ⟨_, rfl⟩
        refine ahead_iter h l i l[i].txn (by omega) hl _ 6 (fun ys L' => ys = [] ∧ L' = A false (LP .ready)) (fun ys L' => ∃ r rest, aheadL l i l[i].txn = r :: rest ∧ ys = [r] ∧ L' = A (decide (r.lsn = l[i].back)) (LP (.done (.exit 2)))) _ _ _ ?_ ?_ ?_ ⟨rfl, by rw [hA]; rfl⟩ ?_ ?_
        · rintro ys L' ⟨_, rfl⟩
          rw [hA]
          exact ⟨rfl, rfl, rfl, rfl⟩
        · rintro ys L' ⟨r, rest, _, _, rfl⟩
          rw [hA]; rfl
        · rintro ys x L' G nv2 ⟨K'⟩ ⟨rfl, rfl⟩ ⟨rest, hd⟩ h1 h2
          refine HY ⟨A false (LP .ready) ++ G, nv2⟩ K' (.agg (cRec x)) (by rw [hA]; simp) ?_
          have key := h2 (A (decide (x.lsn = l[i].back)) (LP (.done (.exit 2)))) [some (nv2, .mem 9 [cRec x])] (nv2 + 1) ⟨x, rest, by simpa using hd.symm, rfl, rfl⟩
          rw [hA] at key ⊢
          simp
          simp at key
          exact key
        · rintro ys L' nv2 ⟨rfl, rfl⟩ hd
          refine ⟨.ready, by rw [hA]; simp, ?_⟩
          rw [hA]
          simp [hend]
          have hz : lastOf (l.take i) l[i].txn = 0 := by rw [lastOf_ahead (by omega), ← hd]
          refine bad ?_
          rw [htail, hz]
          simp [hb]; omega
        · rintro ys L' nv2 ⟨r, rest, hd, rfl, rfl⟩
          refine ⟨.done (.exit 2), by rw [hA]; simp, ?_⟩
          rw [hA]
          have hz : lastOf (l.take i) l[i].txn = r.lsn := by rw [lastOf_ahead (by omega), hd]
          by_cases hf : r.lsn = l[i].back
          · simp [hend, hf]
            exact next (by rw [htail, hz]; simp [hf])
          · simp [hend, hf]
            exact bad (by rw [htail, hz]; simp [hf, hb])
  · simp [hlt]
    obtain rfl : i = l.length := by omega
    exact GhostV.refl ⟨rfl, by simp [rowErr, n64, rowOk_iff.2 hok]⟩
end Go.Proofs.Ytmbhgjekjpkigaa.AM
