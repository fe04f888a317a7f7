/- vacuum: the spots of those that are dead. -/
import Derived.Test.YtmgkjbphlbpbfaaV7
namespace Go.Proofs.Ytmgkjbphlbpbfaa.AM
open Go
set_option linter.unusedVariables false
set_option linter.unusedSimpArgs false
variable {P : Program}

def deadL (f : FatesT) (hz : Nat) (l : List StoredT) : List SpotT := (l.filter fun x => deadS f hz x.tuple).map (·.spot)

/-- What vacuum.Dead answers. -/
def DeadR (f : FatesT) (hz : Nat) (l : List StoredT) (r : V) : Prop :=
  (¬ FatesOk f ∧ r = .tup [.sl .unk 2 [] [], .int .i64 270]) ∨ (FatesOk f ∧ (∃ x ∈ l, tupS x.tuple = false) ∧ r = .tup [.sl .unk 2 [] [], .int .i64 200]) ∨
  (FatesOk f ∧ (∀ x ∈ l, tupS x.tuple = true) ∧ r = .tup [.sl .unk 2 ((deadL f hz l).map cSpot) [], .int .i64 0])

theorem dTold_mem {f : FatesT} {hz : Nat} {l : List StoredT} {s : SpotT} {e : Int} (h : (s, e) ∈ dTold f hz l) : e = 0 ∨ (e = 200 ∧ ∃ x ∈ l, tupS x.tuple = false) := by
  unfold dTold at h
  obtain ⟨x, hx, hs⟩ := List.mem_filterMap.1 h
  split at hs
  · split at hs
    · simp at hs; exact .inl hs.2.symm
    · simp at hs
  · rename_i ht
    simp at hs; exact .inr ⟨hs.2.symm, x, hx, by simpa using ht⟩

theorem dTold_all {f : FatesT} {hz : Nat} {l : List StoredT} (h : ∀ p ∈ dTold f hz l, p.2 = 0) : (∀ x ∈ l, tupS x.tuple = true) ∧ (dTold f hz l).map (·.1) = deadL f hz l := by
  induction l with
  | nil => simp [dTold, deadL]
  | cons x l ih =>
    have hx : tupS x.tuple = true := by
      cases ht : tupS x.tuple
      · have := h (x.spot, 200) (by simp [dTold, ht])
        simp at this
      · rfl
    have h' : ∀ p ∈ dTold f hz l, p.2 = 0 := fun p hp => h p (by
      unfold dTold at hp ⊢
      obtain ⟨y, hy, e⟩ := List.mem_filterMap.1 hp
      exact List.mem_filterMap.2 ⟨y, by simp [hy], e⟩)
    obtain ⟨i1, i2⟩ := ih h'
    refine ⟨by simpa [hx] using i1, ?_⟩
    cases hd : deadS f hz x.tuple
    · have : dTold f hz (x :: l) = dTold f hz l := by simp [dTold, hx, hd]
      rw [this, i2]; simp [deadL, hd]
    · have : dTold f hz (x :: l) = (x.spot, 0) :: dTold f hz l := by simp [dTold, hx, hd]
      rw [this]; simp [deadL, hd]; exact i2

/-- The objects of vacuum.Dead, n spots told. -/
def dObjs (f : FatesT) (hz : Nat) (l : List StoredT) (r1 r2 : V) (lp : Obj) (va n : Nat) : List (Option (Nat × Obj)) :=
  [some (0, .mem 2 [[.int .u64 f.first, .sl .unk 2 (f.list.map cFate) []]]), some (1, .mem 1 [[r1]]), some (2, .mem 1 [[r2]]), some (3, .mem 1 [[.msl 8 va 0 n]]),
    some (4, .mem 2 [[.int .u64 f.first, .sl .unk 2 (f.list.map cFate) []]]), some (5, .mem 1 [[.int .u64 hz]]), some (6, .mem 1 [[.sl .unk 10 (l.map cStored) []]]), some (7, lp), some (va, .mem 2 ((((dTold f hz l).take n).map (·.1)).map cSpot))]
def DJ (f : FatesT) (hz : Nat) (l : List StoredT) (LP : LSt → Obj) (n : Nat) (L : List (Option (Nat × Obj))) : Prop :=
  ∃ va, n ≤ (dTold f hz l).length ∧ (∀ p ∈ (dTold f hz l).take n, p.2 = 0) ∧ L = dObjs f hz l (.sl .nil 0 [] []) (.int .i64 0) (LP .ready) va n

structure VacR (P : Program) : Prop extends VisR P where
  dead1 : R_vacuum_dead_1 P
  dead : R_vacuum_dead P
  vdead : R_vacuum_Dead P

theorem vac_Dead (h : VacR P) (f : FatesT) (hz : Nat) (l : List StoredT) (hfl : f.list.length < 2 ^ 40) (hl : l.length < 2 ^ 40) :
    PCalls P n_vacuum_Dead [vFates f, .int .u64 hz, .sl .unk 10 (l.map cStored) []] (DeadR f hz l) := by
  refine A_vacuum_Dead h.vdead ?_
  unfold F_vacuum_Dead
  simp [st0]
  refine inv_p (vis_Check h.check f hfl) (by simp) (by simp [pureL, pureLL]) ?_
  rintro _ ⟨ok, rfl, hok⟩
  cases ok
  · simp
    exact GhostV.le (LeVs.cons (.nil 0 2) (LeVs.refl _)) ⟨by simp [V.pure, pureL, pureLL], .inl ⟨fun h => by simpa using hok.2 h, rfl⟩⟩
  have hf := hok.1 rfl
  simp
  refine inv_f0 (vac_dead h.dead f hz l (fv := .fn (.func n_vacuum_dead_1) [] [.ptr 6 6 0 0, .ptr 4 4 0 0, .ptr 5 5 0 0]) (st' := ⟨[some (0, .mem 2 [[.int .u64 f.first, .sl .unk 2 (f.list.map cFate) []]]), some (1, .mem 1 [[.sl .nil 0 [] []]]), some (2, .mem 1 [[.int .i64 0]]), some (3, .mem 1 [[.sl .nil 0 [] []]]),
    some (4, .mem 2 [[.int .u64 f.first, .sl .unk 2 (f.list.map cFate) []]]), some (5, .mem 1 [[.int .u64 hz]]), some (6, .mem 1 [[.sl .unk 10 (l.map cStored) []]])], 7⟩) rfl rfl ?_)
  intro LP HY
  simp
  refine AInvE_fn (first := []) ?_
  refine ACalls.ghost (ghost_nilbox (j := 3) (ver := 3) (s := 0) (sz := 2) (by decide) rfl) ?_
  simp
  refine dead_1 h.toVisR h.dead1 f hz l hf hl (N := 9) (DJ f hz l LP) ?_ ?_ ?_ ?_
  · rintro n L ⟨va, _, _, rfl⟩
    exact ⟨rfl, rfl, rfl, rfl⟩
  · rintro n s e L G nv ⟨K'⟩ ⟨va, hn, hz0, rfl⟩ hdl h1 h2
    have hlt : n < (dTold f hz l).length := (List.getElem?_eq_some_iff.1 hdl).1
    have hle : (dTold f hz l).length ≤ l.length := by unfold dTold; exact List.length_filterMap_le _ _
    refine HY _ K' _ _ (by simp [St.get, dObjs]) ?_
    rcases dTold_mem (List.mem_of_getElem? hdl) with rfl | ⟨rfl, hx⟩
    · have hrow : List.take (n + 1) (List.map (cSpot ∘ fun x => x.fst) (dTold f hz l)) = List.take n (List.map (cSpot ∘ fun x => x.fst) (dTold f hz l)) ++ [cSpot s] := by
        rw [take_snoc (by simpa using hlt)]
        have : (dTold f hz l)[n] = (s, 0) := by rw [List.getElem?_eq_getElem hlt] at hdl; simpa using hdl
        simp [this]
      have key := h1 (dObjs f hz l (.sl .nil 0 [] []) (.int .i64 0) (LP .ready) (nv + 1 + 1) (n + 1)) (G ++ [some (nv, .mem 2 [cSpot s]), some (nv + 1, .mem 2 [cSpot s])]) (nv + 1 + 1 + 1) ⟨_, by omega, by
        rw [take_snoc hlt]
        intro p hp
        rcases List.mem_append.1 hp with hp | hp
        · exact hz0 p hp
        · have : (dTold f hz l)[n] = (s, 0) := by rw [List.getElem?_eq_getElem hlt] at hdl; simpa using hdl
          rw [this] at hp; simp at hp; rw [hp], rfl⟩
      simp [dObjs, List.length_take, Nat.min_eq_left hn]
      simp [dObjs, hrow] at key
      exact ⟨by omega, key⟩
    · have key := h2 (dObjs f hz l (.sl .nil 0 [] []) (.int .i64 200) (LP (.done .ret)) va n) (G ++ [some (nv, .mem 2 [cSpot s])]) (nv + 1) rfl ?_
      · simp [dObjs]
        simp [dObjs] at key
        exact key
      · intro nv''
        refine ⟨.done .ret, by simp [dObjs], ?_⟩
        simp [dObjs, hend]
        exact GhostV.le (LeVs.cons (.nil 0 2) (LeVs.refl _)) ⟨by simp [V.pure, pureL, pureLL], .inr (.inl ⟨hf, hx, rfl⟩)⟩
  · exact ⟨8, by simp, by simp, by simp [dObjs]⟩
  · rintro L nv ⟨va, hn, hz0, rfl⟩
    rw [List.take_of_length_le (Nat.le_refl _)] at hz0
    obtain ⟨hall, hdl⟩ := dTold_all hz0
    refine ⟨.ready, by simp [dObjs], ?_⟩
    simp [dObjs, hend]
    refine GhostV.rowc (sz := 2) (by simp [St.get]; rfl) (by simp) ?_
    have e : List.take (dTold f hz l).length (List.map (cSpot ∘ fun x => x.fst) (dTold f hz l)) = (deadL f hz l).map cSpot := by
      rw [List.take_of_length_le (by simp), ← hdl, List.map_map]
    simp only [mkres2, List.drop_zero]
    refine ⟨?_, .inr (.inr ⟨hf, hall, ?_⟩)⟩
    · simp [V.pure, pureL, pureLL, e]
    · simp [e]
end Go.Proofs.Ytmgkjbphlbpbfaa.AM
