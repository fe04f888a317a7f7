/- vacuum: what is left is seen as it was: the walk and the plain law. -/
import Derived.Test.YtmgkjbphlbpbfaaVCode3
import Derived.Test.YtmgkjbphlbpbfaaV11
namespace Go.Proofs.Ytmgkjbphlbpbfaa.AM
open Go
set_option linter.unusedVariables false
set_option linter.unusedSimpArgs false
variable {P : Program}

theorem ready_1 (hH : R_heap_Check P) (hk : R_key_Check P) (hb : R_key_box P) (hR : R_vision_ready_1 P) (x : StoredT) : PCalls P n_vision_ready_1 [.agg (cStored x)] (fun r => r = .bool (!tupS x.tuple)) := by
  refine A_vision_ready_1 hR ?_
  unfold F_vision_ready_1
  simp [st0]
  refine inv_p (heap_Check hH hk hb x.tuple) (by simp) (by simp [pureL, pureLL]) ?_
  rintro _ rfl
  cases tupS x.tuple
  · simp; exact GhostV.refl ⟨rfl, rfl⟩
  · simp; exact GhostV.refl ⟨rfl, rfl⟩

theorem ContainsFunc (hI : R_slices_IndexFunc_Stored_Stored P) (hR : R_slices_ContainsFunc_Stored_Stored P) {k : FuncId} {p : StoredT → Bool} (l : List StoredT) (hl : l.length < 2 ^ 43) (hf : ∀ x, PCalls P k [.agg (cStored x)] (fun r => r = .bool (p x))) :
    PCalls P n_slices_ContainsFunc_Stored_Stored [.sl .unk 10 (l.map cStored) [], .fn (.func k) [] []] (fun r => r = .bool (l.any p)) := by
  refine A_slices_ContainsFunc_Stored_Stored hR ?_
  unfold F_slices_ContainsFunc_Stored_Stored
  simp [st0]
  refine inv_p (IndexFunc hI (first := []) (cap := []) (p := p) l hl rfl rfl (fun x => hf x)) (by simp) (by simp [pureL, pureLL]) ?_
  rintro _ rfl
  have e : l.any p = decide (0 ≤ fIdx p l) := by
    unfold fIdx
    cases h : l.findIdx? p with
    | none => simp [List.findIdx?_eq_none_iff] at h; simpa using h
    | some i =>
      have := List.findIdx?_eq_some_iff_getElem.1 h
      obtain ⟨h1, h2, _⟩ := this
      simp; exact ⟨l[i], List.getElem_mem h1, h2⟩
  simp
  exact GhostV.refl ⟨rfl, by rw [e]; rfl⟩

/-- Why tuples are not looked at. -/
def readyS (l : List StoredT) : Int := if l.all (fun x => tupS x.tuple) then 0 else 200
structure ReadyR (P : Program) : Prop extends VisR P where
  idxf : R_slices_IndexFunc_Stored_Stored P
  conf : R_slices_ContainsFunc_Stored_Stored P
  ready1 : R_vision_ready_1 P
  ready : R_vision_ready P
theorem vis_ready (h : ReadyR P) (f : FatesT) (l : List StoredT) (hf : FatesOk f) (hl : l.length < 2 ^ 40) : PCalls P n_vision_ready [vFates f, .sl .unk 10 (l.map cStored) []] (fun r => r = .int .i64 (readyS l)) := by
  refine A_vision_ready h.ready ?_
  unfold F_vision_ready
  simp [st0]
  refine inv_p (vis_Check h.check f (by have := hf.2.1; omega)) (by simp) (by simp [pureL, pureLL]) ?_
  rintro _ ⟨ok, rfl, hok⟩
  have : ok = true := hok.2 hf
  subst this
  simp
  refine inv_p (ContainsFunc h.idxf h.conf (p := fun x => !tupS x.tuple) l (by omega) (fun x => ready_1 h.heap h.key h.box h.ready1 x)) (by simp) (by simp [pureL, pureLL]) ?_
  rintro _ rfl
  have e : (l.any fun x => !tupS x.tuple) = !(l.all fun x => tupS x.tuple) := by simp [List.not_all_eq_any_not]
  rw [e]
  cases ha : l.all fun x => tupS x.tuple
  · simp; exact GhostV.refl ⟨rfl, by simp [readyS, ha]⟩
  · simp; exact GhostV.refl ⟨rfl, by simp [readyS, ha]⟩
end Go.Proofs.Ytmgkjbphlbpbfaa.AM
namespace Go.Proofs.Ytmgkjbphlbpbfaa.AM
open Go
set_option linter.unusedVariables false
set_option linter.unusedSimpArgs false
variable {P : Program}

def seenL (f : FatesT) (e : EyeT) (l : List StoredT) : List StoredT := l.filter fun x => seesS f e x.tuple
@[simp] def cLook (f : FatesT) (e : EyeT) : List V := [.int .u64 e.own, .bool e.reads, .int .u64 e.snap, .int .u64 f.first, .sl .unk 2 (f.list.map cFate) []]

/-- The boxes that the walk reads. -/
structure SBox (f : FatesT) (e : EyeT) (l : List StoredT) (N i1 v1 i2 v2 : Nat) (L : List (Option (Nat × Obj))) : Prop where
  len : L.length = N
  b1 : L[i1]? = some (some (v1, .mem 1 [[.sl .unk 10 (l.map cStored) []]]))
  b2 : L[i2]? = some (some (v2, .mem 5 [cLook f e]))

def SeenI (f : FatesT) (e : EyeT) (l : List StoredT) (J : Nat → List (Option (Nat × Obj)) → Prop) (k : Nat) (v : V) (st : St) : Prop :=
  ∃ i L nv, k = l.length - i ∧ i ≤ l.length ∧ v = .int .i64 i ∧ st = ⟨L, nv⟩ ∧ J (seenL f e (l.take i)).length L

structure SeesR (P : Program) : Prop extends ReadyR P where
  seen : R_vision_look_seen P
  seen1 : R_vision_look_seen_1 P
  app : R_slices_AppendSeq_Stored_Stored P
  coll : R_slices_Collect_Stored P
  Seen : R_vision_Seen P

theorem seen_1 (h : SeesR P) (f : FatesT) (e : EyeT) (l : List StoredT) (hf : FatesOk f) (hl : l.length < 2 ^ 40) {yv : V} {N i1 v1 i2 v2 : Nat}
    (J : Nat → List (Option (Nat × Obj)) → Prop) (hJ : ∀ n L, J n L → SBox f e l N i1 v1 i2 v2 L)
    {L0 : List (Option (Nat × Obj))} {nv0 : Nat} {K : V → St → Prop}
    (hy : ∀ (n : Nat) (x : StoredT) (L G : List (Option (Nat × Obj))) (nv : Nat) (K' : Kont), J n L → (seenL f e l)[n]? = some x →
      (∀ L' G' nv', J (n + 1) L' → K'.f (.bool true) ⟨L' ++ G', nv'⟩) → @inv P yv [.agg (cStored x)] ⟨L ++ G, nv⟩ K')
    (h0 : J 0 L0) (hk : ∀ L nv, J (seenL f e l).length L → K (.tup []) ⟨L, nv⟩) :
    ACalls P n_vision_look_seen_1 [yv, .ptr i1 v1 0 0, .ptr i2 v2 0 0] ⟨L0, nv0⟩ K := by
  have hb := hJ 0 L0 h0
  refine A_vision_look_seen_1 h.seen1 ?_
  unfold F_vision_look_seen_1
  simp [hb.b1]
  refine ⟨SeenI f e l J, ⟨l.length, GhostV.refl ⟨0, L0, nv0, rfl, by omega, rfl, rfl, by simpa [seenL] using h0⟩⟩, ?_⟩
  rintro k1 v11 st ⟨i, L, nv, rfl, hi, rfl, rfl, hJi⟩
  have hb := hJ _ L hJi
  by_cases hlt : i < l.length
  · have e2 : IntKind.i64.wrap ((i : Int) + 1) = ((i + 1 : Nat) : Int) := by rw [wrap_i64 (by omega)]; omega
    simp [hlt, hb.b1, hb.b2]
    refine inv_p (sees h.toFateR h.counts h.sees f e l[i].tuple (by have := hf.2.1; omega) hf.2.2.2.1) (by simp) (by simp [pureL, pureLL]) ?_
    rintro _ rfl
    have hstep : seenL f e (l.take (i + 1)) = seenL f e (l.take i) ++ (if seesS f e l[i].tuple then [l[i]] else []) := by
      rw [take_snoc hlt]; unfold seenL; rw [List.filter_append]; congr 1; simp only [List.filter_cons, List.filter_nil]
    cases hd : seesS f e l[i].tuple
    · simp [hd] at hstep
      simp
      refine ⟨l.length - (i + 1), by omega, ?_⟩
      exact GhostV.take N ⟨i + 1, L, _, rfl, by omega, by rw [e2], by simp [← hb.len]; rfl, by rw [hstep]; exact hJi⟩
    · simp [hd] at hstep
      have hp : (seenL f e l)[(seenL f e (l.take i)).length]? = some l[i] := by
        have : seenL f e l = seenL f e (l.take (i + 1)) ++ seenL f e (l.drop (i + 1)) := by
          conv => lhs; rw [← List.take_append_drop (i + 1) l]
          unfold seenL; rw [List.filter_append]
        rw [this, hstep]; simp
      simp
      refine hy _ _ L _ _ ⟨_⟩ hJi hp ?_
      intro L' G' nv' hJ'
      simp
      refine ⟨l.length - (i + 1), by omega, ?_⟩
      have hL' := (hJ _ _ hJ').len
      refine GhostV.take N ?_
      exact ⟨i + 1, L', nv', rfl, by omega, by rw [e2], by simp [← hL'], by rw [hstep]; simpa using hJ'⟩
  · have : i = l.length := by omega
    subst this
    simp
    refine GhostV.refl ?_
    simpa using hk L nv (by simpa using hJi)
end Go.Proofs.Ytmgkjbphlbpbfaa.AM
namespace Go.Proofs.Ytmgkjbphlbpbfaa.AM
open Go
set_option linter.unusedVariables false
set_option linter.unusedSimpArgs false
variable {P : Program}

theorem Equal_Stored (hR : R_slices_Equal_Stored_Stored P) (a b : List StoredT) (ha : a.length < 2 ^ 47) : PCalls P n_slices_Equal_Stored_Stored [.sl .unk 10 (a.map cStored) [], .sl .unk 10 (b.map cStored) []] (fun r => r = .bool (decide (a = b))) := by
  refine A_slices_Equal_Stored_Stored hR ?_
  unfold F_slices_Equal_Stored_Stored
  simp [st0]
  by_cases hab : a.length = b.length
  · simp [hab]
    refine ⟨SameI a b, ⟨a.length, GhostV.refl ⟨0, 0, by simp, by simp, by simp, by simp, by simp⟩⟩, ?_⟩
    rintro k1 v8 st ⟨i, nv, rfl, hi, rfl, rfl, hn⟩
    by_cases hlt : i < a.length
    · have hlb : i < b.length := by omega
      simp [hlt, hlb, ← hab]
      rw [stored_ne]
      by_cases he : a[i] = b[i]
      · simp [he]
        have e2 : IntKind.i64.wrap ((i : Int) + 1) = ((i + 1 : Nat) : Int) := by rw [wrap_i64 (by omega)]; omega
        exact ⟨a.length - (i + 1), by omega, GhostV.refl ⟨i + 1, nv, rfl, by omega, by rw [e2], rfl, by rw [take_snoc hlt, take_snoc hlb, hn, he]⟩⟩
      · simp [he]
        exact GhostV.refl ⟨rfl, by simp; rintro rfl; exact he rfl⟩
    · simp [hlt, ← hab]
      have : a = b := by rw [List.take_of_length_le (by omega), List.take_of_length_le (by omega)] at hn; exact hn
      exact GhostV.refl ⟨rfl, by simp [this]⟩
  · simp [hab]
    exact GhostV.refl ⟨rfl, by simp; rintro rfl; exact hab rfl⟩

theorem look_seen (hR : R_vision_look_seen P) (f : FatesT) (e : EyeT) (l : List StoredT) {L : List (Option (Nat × Obj))} {nv : Nat} {K : V → St → Prop}
    (hk : K (.fn (.func n_vision_look_seen_1) [] [.ptr (L.length + 1) (nv + 1) 0 0, .ptr L.length nv 0 0]) ⟨L ++ [some (nv, .mem 5 [cLook f e]), some (nv + 1, .mem 1 [[.sl .unk 10 (l.map cStored) []]])], nv + 2⟩) :
    ACalls P n_vision_look_seen [vLook f e, .sl .unk 10 (l.map cStored) []] ⟨L, nv⟩ K := by
  refine A_vision_look_seen hR ?_
  unfold F_vision_look_seen
  simp
  exact GhostV.refl (by simpa using hk)

def sObjs (f : FatesT) (e : EyeT) (l : List StoredT) (o0 o1 : Option (Nat × Obj)) (lp : Obj) (va n : Nat) : List (Option (Nat × Obj)) :=
  [o0, o1, some (2, .mem 5 [cLook f e]), some (3, .mem 1 [[.sl .unk 10 (l.map cStored) []]]), some (4, .mem 1 [[.msl 6 va 0 n]]), some (5, lp), some (va, .mem 10 (((seenL f e l).take n).map cStored))]
def SJ (f : FatesT) (e : EyeT) (l : List StoredT) (o0 o1 : Option (Nat × Obj)) (LP : LSt → Obj) (n : Nat) (L : List (Option (Nat × Obj))) : Prop :=
  ∃ va, n ≤ (seenL f e l).length ∧ L = sObjs f e l o0 o1 (LP .ready) va n
theorem appendSeq (h : SeesR P) (f : FatesT) (e : EyeT) (l : List StoredT) (hf : FatesOk f) (hl : l.length < 2 ^ 40) {o0 o1 : Option (Nat × Obj)} {K : V → St → Prop}
    (hk : ∀ va L nv, L[6]? = some (some (va, .mem 10 ((seenL f e l).map cStored))) → K (.msl 6 va 0 (seenL f e l).length) ⟨L, nv⟩) :
    ACalls P n_slices_AppendSeq_Stored_Stored [.sl .nil 0 [] [], .fn (.func n_vision_look_seen_1) [] [.ptr 3 3 0 0, .ptr 2 2 0 0]]
      ⟨[o0, o1, some (2, .mem 5 [cLook f e]), some (3, .mem 1 [[.sl .unk 10 (l.map cStored) []]])], 4⟩ K := by
  refine A_slices_AppendSeq_Stored_Stored h.app ?_
  unfold F_slices_AppendSeq_Stored_Stored
  simp
  intro LP HY
  simp
  refine AInvE_fn (first := []) ?_
  refine ACalls.ghost (ghost_nilbox (j := 4) (ver := 4) (s := 0) (sz := 10) (by decide) rfl) ?_
  simp
  refine seen_1 h f e l hf hl (N := 7) (SJ f e l o0 o1 LP) ?_ ?_ ?_ ?_
  · rintro n L ⟨va, _, rfl⟩
    exact ⟨rfl, rfl, rfl⟩
  · rintro n x L G nv ⟨K'⟩ ⟨va, hn, rfl⟩ hdl h1
    have hlt : n < (seenL f e l).length := (List.getElem?_eq_some_iff.1 hdl).1
    have hle : (seenL f e l).length ≤ l.length := by unfold seenL; exact List.length_filter_le _ _
    refine HY _ K' _ (by simp [St.get, sObjs]) ?_
    have hrow : List.take (n + 1) (List.map cStored (seenL f e l)) = List.take n (List.map cStored (seenL f e l)) ++ [cStored x] := by
      rw [take_snoc (by simpa using hlt)]
      have : (seenL f e l)[n] = x := by rw [List.getElem?_eq_getElem hlt] at hdl; simpa using hdl
      simp [this]
    have key := h1 (sObjs f e l o0 o1 (LP .ready) (nv + 1 + 1) (n + 1)) (G ++ [some (nv, .mem 10 [cStored x]), some (nv + 1, .mem 10 [cStored x])]) (nv + 1 + 1 + 1) ⟨_, by omega, rfl⟩
    simp [sObjs, List.length_take, Nat.min_eq_left hn]
    simp [sObjs, hrow] at key
    exact ⟨by omega, key⟩
  · exact ⟨6, by simp, by simp [sObjs]⟩
  · rintro L nv ⟨va, hn, rfl⟩
    refine ⟨.ready, by simp [sObjs], ?_⟩
    simp [sObjs, hend]
    exact GhostV.refl (hk _ _ _ (by simp [take_all]))
theorem vis_Seen (h : SeesR P) (f : FatesT) (e : EyeT) (l : List StoredT) (hf : FatesOk f) (ht : ∀ x ∈ l, tupS x.tuple = true) (hl : l.length < 2 ^ 40) :
    PCalls P n_vision_Seen [vFates f, .agg (cEye e), .sl .unk 10 (l.map cStored) []] (fun r => r = .tup [.sl .unk 10 ((seenL f e l).map cStored) [], .int .i64 0]) := by
  refine A_vision_Seen h.Seen ?_
  unfold F_vision_Seen
  simp [st0]
  refine inv_p (vis_ready h.toReadyR f l hf hl) (by simp) (by simp [pureL, pureLL]) ?_
  rintro _ rfl
  have : readyS l = 0 := by simp [readyS]; exact ht
  rw [this]
  simp
  refine inv_f0 (look_seen h.seen f e l ?_)
  simp
  refine inv_f0 (A_slices_Collect_Stored h.coll ?_)
  unfold F_slices_Collect_Stored
  simp
  refine inv_f0 (appendSeq h f e l hf hl ?_)
  intro va L nv hL
  simp
  refine GhostV.refl ?_
  simp
  refine GhostV.rowc (sz := 10) (es := (seenL f e l).map cStored) (by simp [St.get, hL]) (by simp) ?_
  simp only [mkres2, List.drop_zero]
  exact ⟨by simp [V.pure, pureL, pureLL, take_all], by simp [take_all]⟩
end Go.Proofs.Ytmgkjbphlbpbfaa.AM
namespace Go.Proofs.Ytmgkjbphlbpbfaa.AM
open Go
set_option linter.unusedVariables false
set_option linter.unusedSimpArgs false

theorem dead_unseen {f : FatesT} {e : EyeT} {hz : Nat} {t : TupleT} (hh : e.reads = true → hz = e.snap) (hown : e.reads = false → t.xmin ≠ e.own) (hd : deadS f hz t = true) : seesS f e t = false := by
  unfold deadS at hd
  unfold seesS countsS
  cases hr : e.reads
  · have := hown hr
    simp at hd ⊢
    rcases hd with hd | hd
    · simp [hd.1, this]
    · simp [hd.1]
  · have := hh hr
    subst this
    simp at hd ⊢
    rcases hd with hd | hd
    · simp [hd.1]
    · intro _ _
      simp [hd.1, hd.2]

theorem seen_left {f : FatesT} {e : EyeT} {hz : Nat} {l : List StoredT} (hn : (l.map (·.spot)).Nodup) (hh : e.reads = true → hz = e.snap)
    (hown : e.reads = false → ∀ x ∈ l, x.spot ∈ deadL f hz l → x.tuple.xmin ≠ e.own) : seenL f e (leftS l (deadL f hz l)) = seenL f e l := by
  unfold seenL leftS
  rw [List.filter_filter]
  refine List.filter_congr (fun x hx => ?_)
  by_cases hm : x.spot ∈ deadL f hz l
  · have hd : deadS f hz x.tuple = true := by
      unfold deadL at hm
      obtain ⟨y, hy, he⟩ := List.mem_map.1 hm
      obtain ⟨hy1, hy2⟩ := List.mem_filter.1 hy
      obtain ⟨i, hi, rfl⟩ := List.getElem_of_mem hx
      obtain ⟨j, hj, rfl⟩ := List.getElem_of_mem hy1
      have hp := List.pairwise_iff_getElem.1 hn
      have : j = i := by
        rcases Nat.lt_trichotomy j i with h | h | h
        · exact absurd (by rw [List.getElem_map, List.getElem_map]; exact he) (hp j i (by simpa using hj) (by simpa using hi) h)
        · exact h
        · exact absurd (by rw [List.getElem_map, List.getElem_map]; exact he.symm) (hp i j (by simpa using hi) (by simpa using hj) h)
      subst this
      exact hy2
    have := dead_unseen (f := f) hh (fun hr => hown hr x hx hm) hd
    simp [this]
  · simp [hm]
end Go.Proofs.Ytmgkjbphlbpbfaa.AM
namespace Go.Proofs.Ytmgkjbphlbpbfaa.AM
open Go
set_option linter.unusedVariables false
set_option linter.unusedSimpArgs false
variable {P : Program}

def entS (s : SpotT) : V × V := (.agg (cSpot s), .bool true)
theorem mfind_spot (n : SpotT) : ∀ (ks : List SpotT) (i : Nat), mfind (.many [.int, .int]) (.agg (cSpot n)) (ks.map entS) i = some (if n ∈ ks then some (i + ks.idxOf n, .bool true) else none)
  | [], i => by simp [mfind]
  | m :: ks, i => by
    have e : keyEq (.many [.int, .int]) (.agg (cSpot n)) (entS m).1 = some (decide (n = m)) := by
      rw [← spot_eq n m]
      simp [keyEq, eqL, entS]
    simp only [List.map_cons]
    have key : mfind (.many [.int, .int]) (.agg (cSpot n)) (entS m :: ks.map entS) i = match keyEq (.many [.int, .int]) (.agg (cSpot n)) (entS m).1 with
      | some true => some (some (i, (entS m).2))
      | some false => mfind (.many [.int, .int]) (.agg (cSpot n)) (ks.map entS) (i + 1)
      | none => none := rfl
    rw [key, e]
    by_cases h : n = m
    · subst h; simp [entS, List.idxOf_cons]
    · simp only [h, decide_false, mfind_spot n ks (i + 1)]
      have hm : (m == n) = false := by simpa using fun e => h e.symm
      by_cases hk : n ∈ ks
      · simp [hk, List.idxOf_cons, hm]; omega
      · simp [hk, h]
theorem mfindK_spot (n : SpotT) (ks : List SpotT) : mfindK (.many [.int, .int]) (.agg [.int .i64 n.page, .int .i64 n.slot]) (ks.map entS) = some (if n ∈ ks then some (ks.idxOf n, .bool true) else none) := by
  have := mfind_spot n ks 0
  simp only [cSpot, Nat.zero_add] at this
  unfold mfindK
  rw [if_pos (show keyOk (.many [.int, .int]) (.agg [.int .i64 n.page, .int .i64 n.slot]) = true from rfl)]
  exact this

structure SeenLawR (P : Program) : Prop extends WakeR P, SeesR P where
  items : R_gazetteerlaw18_items P
  fates18 : R_gazetteerlaw18_fates P
  equal : R_slices_Equal_Stored_Stored P
  law : R_gazetteerlaw18_VacuumSeen P

/-- The two boxes, ahead of all else. -/
def oF (f : FatesT) : Option (Nat × Obj) := some (0, .mem 2 [[.int .u64 f.first, .sl .unk 2 (f.list.map cFate) []]])
def oE (e : EyeT) : Option (Nat × Obj) := some (1, .mem 3 [cEye e])
def MetI (f : FatesT) (e : EyeT) (l : List StoredT) (k : Nat) (v : V) (st : St) : Prop := ∃ i nv ep ks, k = l.length - i ∧ i ≤ l.length ∧ v = .int .i64 i ∧
  st = ⟨[oF f, oE e, some (2, .map ep (ks.map entS))], nv⟩ ∧ ks = (l.take i).map (·.spot) ∧ ks.Nodup
def HzJ (F : FatesT) (e : EyeT) (ks : List SpotT) (ep hz : Nat) (v : V) (st : St) : Prop := ∃ nv, v = .int .u64 hz ∧ st = ⟨[oF F, oE e, some (2, .map ep (ks.map entS))], nv⟩
def OwnI (F : FatesT) (e : EyeT) (x : List StoredT) (hz : Nat) (ks : List SpotT) (ep : Nat) (k : Nat) (v : V) (st : St) : Prop := ∃ i nv, k = x.length - i ∧ i ≤ x.length ∧ v = .int .i64 i ∧
  st = ⟨[oF F, oE e, some (2, .map ep (ks.map entS))], nv⟩ ∧ (e.reads = false → ∀ y ∈ x.take i, y.spot ∈ deadL F hz x → y.tuple.xmin ≠ e.own)
theorem vacuumSeen (h : SeenLawR P) (f : FatesT) (l : List StoredT) (e : EyeT) :
    PCalls P n_gazetteerlaw18_VacuumSeen [vFates f, .sl .unk 10 (l.map cStored) [], .agg (cEye e)] (fun r => r = .bool true) := by
  refine A_gazetteerlaw18_VacuumSeen h.law ?_
  unfold F_gazetteerlaw18_VacuumSeen
  simp [st0]
  refine inv_p (wakes18 h.toWakeR) rfl rfl ?_
  rintro _ rfl
  simp
  obtain ⟨x, hx⟩ : ∃ x, x = l.take 130 := ⟨_, rfl⟩
  obtain ⟨F, hF⟩ : ∃ F : FatesT, F = ⟨f.first, f.list.take 257⟩ := ⟨_, rfl⟩
  have hxl : x.length < 2 ^ 40 := by rw [hx]; simp; omega
  have hFl : F.list.length < 2 ^ 40 := by rw [hF]; simp; omega
  have hi : PCalls P n_gazetteerlaw18_items [.sl .unk 10 (l.map cStored) []] (fun r => r = .sl .unk 10 (x.map cStored) []) := by rw [hx]; exact items18 h.items l
  have hfa : PCalls P n_gazetteerlaw18_fates [vFates f] (fun r => r = vFates F) := by rw [hF]; exact AM.fates18 h.fates18 f
  refine inv_p hfa (by simp) (by simp [pureL, pureLL]) ?_
  rintro _ rfl
  simp
  refine inv_p hi (by simp) (by simp [pureL, pureLL]) ?_
  rintro _ rfl
  simp
  have yes : ∀ st, GhostV [.bool true] st fun vs st => (mkres vs).pure = true ∧ mkres vs = .bool true := fun st => GhostV.refl ⟨rfl, rfl⟩
  refine ⟨MetI F e x, ⟨x.length, GhostV.refl ⟨0, _, 3, [], by simp, by simp, by simp, rfl, by simp, by simp⟩⟩, ?_⟩
  rintro k v st ⟨i, nv, ep, ks, rfl, hi, rfl, rfl, hks, hn⟩
  by_cases hlt : i < x.length
  · have e2 : IntKind.i64.wrap ((i : Int) + 1) = ((i + 1 : Nat) : Int) := by rw [wrap_i64 (by omega)]; omega
    by_cases hm : x[i].spot ∈ ks
    · simp [hlt, oF, oE, mfindK_spot, hm]
      exact yes _
    · simp [hlt, oF, oE, mfindK_spot, hm]
      refine ⟨x.length - (i + 1), by omega, GhostV.take 3 ⟨i + 1, _, _, ks ++ [x[i].spot], rfl, by omega, by rw [e2], by simp [entS]; exact ⟨⟨rfl, rfl, rfl⟩, rfl⟩, by rw [take_snoc hlt, hks, List.map_append]; rfl, ?_⟩⟩
      rw [List.nodup_append]
      exact ⟨hn, by simp, by intro a ha b hb; simp at hb; subst hb; rintro rfl; exact hm ha⟩
  · rw [List.take_of_length_le (by omega)] at hks
    simp [hlt, oF, oE]
    obtain ⟨hz, hhz⟩ : ∃ hz, hz = if e.reads then e.snap else 1099511627776 := ⟨_, rfl⟩
    refine ⟨HzJ F e ks ep hz, ?_, ?_⟩
    · cases hr : e.reads
      · simp [hr]
        exact GhostV.refl ⟨_, by rw [hhz, hr]; rfl, by simp [hr, oF, oE]; rfl⟩
      · simp [hr]
        exact GhostV.refl ⟨_, by rw [hhz, hr]; rfl, by simp [hr, oF, oE]; rfl⟩
    rintro v st ⟨nv, rfl, rfl⟩
    simp [oF, oE]
    refine inv_p (vac_Dead h.toWakeR.toVacR F hz x hFl hxl) (by simp) (by simp [pureL, pureLL]) ?_
    rintro _ (⟨_, rfl⟩ | ⟨_, _, rfl⟩ | ⟨hf, hall, rfl⟩)
    · simp
      exact yes _
    · simp
      exact yes _
    simp
    refine ⟨OwnI F e x hz ks ep, ⟨x.length, GhostV.refl ⟨0, nv, by simp, by simp, by simp, rfl, by simp⟩⟩, ?_⟩
    rintro k v st ⟨i, nv, rfl, hi, rfl, rfl, hown⟩
    by_cases hlt : i < x.length
    · have e2 : IntKind.i64.wrap ((i : Int) + 1) = ((i + 1 : Nat) : Int) := by rw [wrap_i64 (by omega)]; omega
      have hdl : (deadL F hz x).length < 2 ^ 40 := by
        have : (deadL F hz x).length ≤ x.length := by simp only [deadL, List.length_map]; exact List.length_filter_le _ _
        omega
      have next : (e.reads = false → x[i].spot ∈ deadL F hz x → x[i].tuple.xmin ≠ e.own) → ∀ G nv', ∃ j, j < x.length - i ∧ GhostV [.int .i64 (IntKind.i64.wrap ((i : Int) + 1))] ⟨oF F :: oE e :: some (2, .map ep (ks.map entS)) :: G, nv'⟩ (app (n := 1) (OwnI F e x hz ks ep j)) := fun hh G nv' =>
        ⟨x.length - (i + 1), by omega, GhostV.take 3 ⟨i + 1, nv', rfl, by omega, by rw [e2], rfl, fun hr y hy hm => by
          rw [take_snoc hlt, List.mem_append] at hy
          rcases hy with hy | hy
          · exact hown hr y hy hm
          · simp at hy; subst hy; exact hh hr hm⟩⟩
      simp only [oF, oE] at next
      simp [hlt, oF, oE]
      cases hr : e.reads
      · simp [hr]
        refine inv_p (Contains_Spot h.idx h.con (deadL F hz x) x[i].spot (by omega)) (by simp) (by simp [pureL, pureLL]) ?_
        rintro _ rfl
        by_cases hm : x[i].spot ∈ deadL F hz x
        · by_cases h1 : x[i].tuple.xmin = e.own
          · simp [hm, h1, hr]; exact yes _
          · by_cases h2 : x[i].tuple.xmax = e.own
            · simp [hm, h1, h2, hr]; exact yes _
            · simp [hm, h1, h2, hr]; simpa [hr] using next (fun _ _ => h1) _ _
        · simp [hm, hr]; simpa [hr] using next (fun _ h => absurd h hm) _ _
      · simp [hr]; simpa [hr] using next (fun h => by rw [hr] at h; cases h) _ _
    · rw [List.take_of_length_le (by omega)] at hown
      have hdl : (deadL F hz x).length < 2 ^ 40 := by
        have : (deadL F hz x).length ≤ x.length := by simp only [deadL, List.length_map]; exact List.length_filter_le _ _
        omega
      have hll : (leftS x (deadL F hz x)).length < 2 ^ 40 := by
        have := List.length_filter_le (fun y : StoredT => !decide (y.spot ∈ deadL F hz x)) x
        unfold leftS; omega
      have hlt2 : ∀ y ∈ leftS x (deadL F hz x), tupS y.tuple = true := fun y hy => hall y (List.mem_filter.1 hy).1
      have hsl : seenL F e (leftS x (deadL F hz x)) = seenL F e x := seen_left (by rw [← hks]; exact hn) (fun hr => by rw [hhz, hr]; rfl) hown
      simp [hlt, oF, oE]
      refine inv_p (vis_Seen h.toSeesR F e x hf hall hxl) (by simp) (by simp [pureL, pureLL]) ?_
      rintro _ rfl
      simp
      refine inv_p (vac_Left h.toLeftR x (deadL F hz x) hxl hdl) (by simp) (by simp [pureL, pureLL]) ?_
      rintro _ rfl
      simp
      refine inv_p (vis_Seen h.toSeesR F e (leftS x (deadL F hz x)) hf hlt2 hll) (by simp) (by simp [pureL, pureLL]) ?_
      rintro _ rfl
      rw [hsl]
      simp
      refine inv_p (Equal_Stored h.equal (seenL F e x) (seenL F e x) (by have := List.length_filter_le (fun y : StoredT => seesS F e y.tuple) x; unfold seenL; omega)) (by simp) (by simp [pureL, pureLL]) ?_
      rintro _ rfl
      simp
      exact yes _
end Go.Proofs.Ytmgkjbphlbpbfaa.AM
