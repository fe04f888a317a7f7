/- vacuum: which versions go. -/
import Derived.Test.YtmgkjbphlbpbfaaV6
namespace Go.Proofs.Ytmgkjbphlbpbfaa.AM
open Go
set_option linter.unusedVariables false
set_option linter.unusedSimpArgs false
variable {P : Program}

theorem CPost.le {g g' : G} (h : g.le g') (hd : g'.dfr = g.dfr) {K : V → St → Prop} : ∀ e w, CPost P g' K e w → CPost P g K e w := by
  rintro e w ⟨r, x, g1, st1, a1, a2, a3, a4, a5, a6⟩
  exact ⟨r, x, g1, st1, a1, h.trans a2, a3.trans hd, a4, a5, a6⟩

/-- A ghost step ahead of a call. -/
theorem ACalls.gv {f : FuncId} {args : List V} {st : St} {K : V → St → Prop} (hE : Enters P f) (h : GhostV args st fun args' st' => ACalls P f args' st' K) : ACalls P f args st K := by
  obtain ⟨as', st', hl, hg, hk⟩ := h
  refine ⟨hE, fun g w Args hs hA => ?_⟩
  obtain ⟨g', h1, h2, h3, h4⟩ := hg P g w hs
  exact (hk.2 g' w Args h3 ⟨by rw [hl]; exact hA.1, fun i hi => h4 i _ (hA.2 i (by omega))⟩).mono (CPost.le h1 h2)

theorem ACalls.ghost {f : FuncId} {args : List V} {st st' : St} {K : V → St → Prop} (hg : ∀ (P : Program) (g : G) (w : World), Sim P g st w → ∃ g', g.le g' ∧ g'.dfr = g.dfr ∧ Sim P g' st' w) (h : ACalls P f args st' K) : ACalls P f args st K := by
  refine ⟨h.1, fun g w Args hs hA => ?_⟩
  obtain ⟨g', h1, h2, h3⟩ := hg P g w hs
  exact (h.2 g' w Args h3 (hA.mono h1)).mono (CPost.le h1 h2)

/-- A box with a nil row: the row becomes an array of its own. -/
theorem ghost_nilbox {L : List (Option (Nat × Obj))} {nv j ver sz s : Nat} (h0 : 0 < sz) (hj : L[j]? = some (some (ver, .mem 1 [[.sl .nil s [] []]]))) :
    ∀ (P : Program) (g : G) (w : World), Sim P g ⟨L, nv⟩ w → ∃ g', g.le g' ∧ g'.dfr = g.dfr ∧ Sim P g' ⟨L.set j (some (ver, .mem 1 [[.msl L.length nv 0 0]])) ++ [some (nv, .mem sz [])], nv + 1⟩ w := by
  intro P g w hs
  have hjl : j < L.length := (List.getElem?_eq_some_iff.1 hj).1
  obtain ⟨g', h1, h2, h3, _⟩ := nils_core (st := ⟨L, nv⟩) (st' := ⟨L.set j (some (ver, .mem 1 [[.msl L.length nv 0 0]])) ++ [some (nv, .mem sz [])], nv + 1⟩) (id := L.length) (sz := sz) h0 rfl (fun id1 ver1 o1 h => by
    simp only at h ⊢
    by_cases e : id1 < L.length
    · rw [List.getElem?_append_left (by simpa using e)] at h
      by_cases e2 : j = id1
      · subst e2
        rw [List.getElem?_set_self hjl] at h
        simp only [Option.some.injEq, Prod.mk.injEq] at h
        obtain ⟨rfl, rfl⟩ := h
        refine .inr ⟨e, _, hj, .inr ⟨1, _, _, rfl, rfl, rfl, fun i hi => by
          obtain rfl : i = 0 := by simpa using hi
          rfl, fun i k hi => ?_⟩⟩
        obtain rfl : i = 0 := by simpa using hi
        cases k with
        | zero => exact .nil s
        | succ k => simpa using Nz.refl _
      · rw [List.getElem?_set_ne e2] at h
        exact .inr ⟨e, o1, h, .inl rfl⟩
    · rw [List.getElem?_append_right (by simp; omega)] at h
      have h0 : id1 - (L.set j (some (ver, .mem 1 [[.msl L.length nv 0 0]]))).length = 0 := by have := (List.getElem?_eq_some_iff.1 h).1; simp at this ⊢; omega
      rw [h0] at h; simp at h
      exact .inl ⟨by simp at h0; omega, h.1.symm, h.2.symm⟩) P g w hs
  exact ⟨g', h1, h2, h3⟩

theorem vac_dead (hR : R_vacuum_dead P) (f : FatesT) (hz : Nat) (l : List StoredT) {L : List (Option (Nat × Obj))} {nv : Nat} {K : V → St → Prop}
    {fv : V} {st' : St} (hv : fv = .fn (.func n_vacuum_dead_1) [] [.ptr (L.length + 2) (nv + 2) 0 0, .ptr L.length nv 0 0, .ptr (L.length + 1) (nv + 1) 0 0])
    (hs : st' = ⟨L ++ [some (nv, .mem 2 [[.int .u64 f.first, .sl .unk 2 (f.list.map cFate) []]]), some (nv + 1, .mem 1 [[.int .u64 hz]]), some (nv + 2, .mem 1 [[.sl .unk 10 (l.map cStored) []]])], nv + 3⟩) (hk : K fv st') :
    ACalls P n_vacuum_dead [vFates f, .int .u64 hz, .sl .unk 10 (l.map cStored) []] ⟨L, nv⟩ K := by
  subst hv hs
  refine A_vacuum_dead hR ?_
  unfold F_vacuum_dead
  simp
  exact GhostV.refl (by simpa using hk)

/-- What the walk over the dead tells. -/
def dTold (f : FatesT) (hz : Nat) (l : List StoredT) : List (SpotT × Int) :=
  l.filterMap fun x => if tupS x.tuple then (if deadS f hz x.tuple then some (x.spot, 0) else none) else some (x.spot, 200)

/-- The boxes that the walk reads. -/
structure DBox (f : FatesT) (hz : Nat) (l : List StoredT) (N i1 v1 i2 v2 i3 v3 : Nat) (L : List (Option (Nat × Obj))) : Prop where
  len : L.length = N
  b1 : L[i1]? = some (some (v1, .mem 1 [[.sl .unk 10 (l.map cStored) []]]))
  b2 : L[i2]? = some (some (v2, .mem 2 [[.int .u64 f.first, .sl .unk 2 (f.list.map cFate) []]]))
  b3 : L[i3]? = some (some (v3, .mem 1 [[.int .u64 hz]]))

def DeadI (f : FatesT) (hz : Nat) (l : List StoredT) (J : Nat → List (Option (Nat × Obj)) → Prop) (k : Nat) (v : V) (st : St) : Prop :=
  ∃ i L nv, k = l.length - i ∧ i ≤ l.length ∧ v = .int .i64 i ∧ st = ⟨L, nv⟩ ∧ J (dTold f hz (l.take i)).length L

theorem dead_1 (h : VisR P) (hR : R_vacuum_dead_1 P) (f : FatesT) (hz : Nat) (l : List StoredT) (hf : FatesOk f) (hl : l.length < 2 ^ 40) {yv : V} {N i1 v1 i2 v2 i3 v3 : Nat}
    (J : Nat → List (Option (Nat × Obj)) → Prop) (hJ : ∀ n L, J n L → DBox f hz l N i1 v1 i2 v2 i3 v3 L)
    {L0 : List (Option (Nat × Obj))} {nv0 : Nat} {K : V → St → Prop}
    (hy : ∀ (n : Nat) (s : SpotT) (e : Int) (L G : List (Option (Nat × Obj))) (nv : Nat) (K' : Kont), J n L → (dTold f hz l)[n]? = some (s, e) →
      (∀ L' G' nv', J (n + 1) L' → K'.f (.bool true) ⟨L' ++ G', nv'⟩) → (∀ L' G' nv', L'.length = N → (∀ nv'', K (.tup []) ⟨L', nv''⟩) → K'.f (.bool false) ⟨L' ++ G', nv'⟩) → @inv P yv [.agg (cSpot s), .int .i64 e] ⟨L ++ G, nv⟩ K')
    (h0 : J 0 L0) (hk : ∀ L nv, J (dTold f hz l).length L → K (.tup []) ⟨L, nv⟩) :
    ACalls P n_vacuum_dead_1 [yv, .ptr i1 v1 0 0, .ptr i2 v2 0 0, .ptr i3 v3 0 0] ⟨L0, nv0⟩ K := by
  have hb := hJ 0 L0 h0
  refine A_vacuum_dead_1 hR ?_
  unfold F_vacuum_dead_1
  simp [hb.b1]
  refine ⟨DeadI f hz l J, ⟨l.length, GhostV.refl ⟨0, L0, nv0, rfl, by omega, rfl, rfl, by simpa [dTold] using h0⟩⟩, ?_⟩
  rintro k1 v11 st ⟨i, L, nv, rfl, hi, rfl, rfl, hJi⟩
  have hb := hJ _ L hJi
  by_cases hlt : i < l.length
  · have e2 : IntKind.i64.wrap ((i : Int) + 1) = ((i + 1 : Nat) : Int) := by rw [wrap_i64 (by omega)]; omega
    simp [hlt, hb.b1, hb.b2, hb.b3]
    refine inv_p (vis_Dead h f hz l[i].tuple (by have := hf.2.1; omega)) (by simp) (by simp [pureL, pureLL]) ?_
    have hstep : dTold f hz (l.take (i + 1)) = dTold f hz (l.take i) ++ (if tupS l[i].tuple then (if deadS f hz l[i].tuple then [(l[i].spot, (0 : Int))] else []) else [(l[i].spot, 200)]) := by
      rw [take_snoc hlt]; unfold dTold; rw [List.filterMap_append]; congr 1
      simp only [List.filterMap_cons, List.filterMap_nil]
      split <;> (try split) <;> simp_all
    have hpre : ∀ (s : SpotT) (e : Int), dTold f hz (l.take (i + 1)) = dTold f hz (l.take i) ++ [(s, e)] → (dTold f hz l)[(dTold f hz (l.take i)).length]? = some (s, e) := by
      intro s e he
      have : dTold f hz l = dTold f hz (l.take (i + 1)) ++ dTold f hz (l.drop (i + 1)) := by
        conv => lhs; rw [← List.take_append_drop (i + 1) l]
        unfold dTold; rw [List.filterMap_append]
      rw [this, he]; simp
    rintro _ (⟨hn, _⟩ | ⟨_, ht, rfl⟩ | ⟨_, ht, rfl⟩)
    · exact absurd hf hn
    · -- what is no tuple
      simp [ht] at hstep
      have hp := hpre _ _ hstep
      simp
      refine hy _ _ _ L _ _ ⟨_⟩ hJi hp ?_ ?_
      · intro L' G' nv' hJ'
        simp
        refine ⟨l.length - (i + 1), by omega, ?_⟩
        have hL' := (hJ _ _ hJ').len
        refine GhostV.take N ?_
        refine ⟨i + 1, L', nv', rfl, by omega, by rw [e2], by simp [← hL'], by rw [hstep]; simpa using hJ'⟩
      · intro L' G' nv' hL' hK
        simp
        exact GhostV.take N (by simpa [← hL'] using hK nv')
    · cases hd : deadS f hz l[i].tuple
      · simp [ht, hd] at hstep
        simp
        refine ⟨l.length - (i + 1), by omega, ?_⟩
        refine GhostV.take N ⟨i + 1, L, _, rfl, by omega, by rw [e2], by simp [← hb.len]; rfl, by rw [hstep]; exact hJi⟩
      · simp [ht, hd] at hstep
        have hp := hpre _ _ hstep
        simp
        refine hy _ _ _ L _ _ ⟨_⟩ hJi hp ?_ ?_
        · intro L' G' nv' hJ'
          simp
          refine ⟨l.length - (i + 1), by omega, ?_⟩
          have hL' := (hJ _ _ hJ').len
          refine GhostV.take N ?_
          refine ⟨i + 1, L', nv', rfl, by omega, by rw [e2], by simp [← hL'], by rw [hstep]; simpa using hJ'⟩
        · intro L' G' nv' hL' hK
          simp
          exact GhostV.take N (by simpa [← hL'] using hK nv')
  · have : i = l.length := by omega
    subst this
    simp
    refine GhostV.refl ?_
    simpa using hk L nv (by simpa using hJi)
end Go.Proofs.Ytmgkjbphlbpbfaa.AM
