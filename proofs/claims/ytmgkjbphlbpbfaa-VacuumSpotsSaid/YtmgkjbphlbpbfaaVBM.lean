/- vacuum: what the statements need; VacuumSpots, walked. -/
import Derived.Test.YtmgkjbphlbpbfaaVA
import Derived.Test.YtmgkjbphlbpbfaaVC4
namespace Go.Proofs.Ytmgkjbphlbpbfaa.AM
open Go
set_option linter.unusedVariables false
set_option linter.unusedSimpArgs false
variable {P : Program}

theorem stored_ne (x y : StoredT) : (!decide (x.spot.page = y.spot.page) || (!decide (x.spot.slot = y.spot.slot) || (!decide (x.tuple.row = y.tuple.row) || (!decide (x.tuple.xmin = y.tuple.xmin) ||
    (!decide (x.tuple.xmax = y.tuple.xmax) || (!decide (x.tuple.key.x0 = y.tuple.key.x0) || (!decide (x.tuple.key.x1 = y.tuple.key.x1) || (!decide (x.tuple.key.y0 = y.tuple.key.y0) ||
    (!decide (x.tuple.key.y1 = y.tuple.key.y1) || !decide (x.tuple.value = y.tuple.value)))))))))) = !decide (x = y) := by
  obtain ⟨⟨a1, a2⟩, ⟨b1, b2, b3, ⟨c1, c2, c3, c4⟩, b4⟩⟩ := x
  obtain ⟨⟨d1, d2⟩, ⟨e1, e2, e3, ⟨f1, f2, f3, f4⟩, e4⟩⟩ := y
  simp only [StoredT.mk.injEq, SpotT.mk.injEq, TupleT.mk.injEq, KeyT.mk.injEq, Bool.decide_and, Bool.not_and, Bool.or_assoc]
theorem spot_ne (x y : SpotT) : (!decide (x.page = y.page) || !decide (x.slot = y.slot)) = !decide (x = y) := by
  obtain ⟨a1, a2⟩ := x; obtain ⟨d1, d2⟩ := y
  simp only [SpotT.mk.injEq, Bool.decide_and, Bool.not_and]
theorem spot_eq (x y : SpotT) : (decide (x.page = y.page) && decide (x.slot = y.slot)) = decide (x = y) := by
  obtain ⟨a1, a2⟩ := x; obtain ⟨d1, d2⟩ := y
  simp only [SpotT.mk.injEq, Bool.decide_and]

@[simp] theorem p_stored_take (n : Nat) (l : List StoredT) : pureLL (List.take n (l.map cStored)) = true := by rw [← List.map_take]; exact p_stored _
@[simp] theorem p_spot_take (n : Nat) (l : List SpotT) : pureLL (List.take n (l.map cSpot)) = true := by rw [← List.map_take]; exact p_spot _
@[simp] theorem p_fate_take (n : Nat) (l : List FateT) : pureLL (List.take n (l.map cFate)) = true := by rw [← List.map_take]; exact p_fate _
theorem items18 (hR : R_gazetteerlaw18_items P) (l : List StoredT) : PCalls P n_gazetteerlaw18_items [.sl .unk 10 (l.map cStored) []] (fun r => r = .sl .unk 10 ((l.take 130).map cStored) []) := by
  refine A_gazetteerlaw18_items hR ?_
  unfold F_gazetteerlaw18_items
  simp [st0]
  by_cases h : (130 : Int) < l.length
  · have e : min 130 l.length = 130 := by omega
    simp [h, e]
    refine ⟨by omega, ?_⟩
    exact GhostV.row1 (sz := 10) rfl (by simp; omega) ⟨by simp [V.pure, List.take_take, ← List.map_take], by simp [mkres1, List.take_take]⟩
  · have e : List.take 130 (l.map cStored) = l.map cStored := List.take_of_length_le (by simp; omega)
    simp [h, e]
    refine ⟨by omega, ?_⟩
    exact GhostV.row1 (sz := 10) rfl (by simp) ⟨by simp [V.pure, List.take_take, ← List.map_take], by simp [mkres1, List.take_take, ← List.map_take]⟩

def SameI (a b : List StoredT) (k : Nat) (v : V) (st : St) : Prop := ∃ i nv, k = a.length - i ∧ i ≤ a.length ∧ v = .int .i64 i ∧ st = ⟨[], nv⟩ ∧ a.take i = b.take i
theorem Same17 (hR : R_gazetteerref17_Same P) (a b : List StoredT) (ha : a.length < 2 ^ 47) : PCalls P n_gazetteerref17_Same [.sl .unk 10 (a.map cStored) [], .sl .unk 10 (b.map cStored) []] (fun r => r = .bool (decide (a = b))) := by
  refine A_gazetteerref17_Same hR ?_
  unfold F_gazetteerref17_Same
  simp [st0]
  by_cases hab : a.length = b.length
  · simp [hab]
    refine ⟨SameI a b, ⟨a.length, GhostV.refl ⟨0, 0, by simp, by simp, by simp, by simp, by simp⟩⟩, ?_⟩
    rintro k1 v8 st ⟨i, nv, rfl, hi, rfl, rfl, hn⟩
    by_cases hlt : i < a.length
    · have hlb : i < b.length := by omega
      simp [hlt, hlb]
      rw [stored_ne]
      by_cases he : a[i] = b[i]
      · simp [he]
        have e2 : IntKind.i64.wrap ((i : Int) + 1) = ((i + 1 : Nat) : Int) := by rw [wrap_i64 (by omega)]; omega
        exact ⟨a.length - (i + 1), by omega, GhostV.refl ⟨i + 1, nv, rfl, by omega, by rw [e2], rfl, by rw [take_snoc hlt, take_snoc hlb, hn, he]⟩⟩
      · simp [he]
        exact GhostV.refl ⟨rfl, by simp; rintro rfl; exact he rfl⟩
    · simp [hlt]
      have : a = b := by rw [List.take_of_length_le (by omega), List.take_of_length_le (by omega)] at hn; exact hn
      exact GhostV.refl ⟨rfl, by simp [this]⟩
  · simp [hab]
    exact GhostV.refl ⟨rfl, by simp; rintro rfl; exact hab rfl⟩


def SameSI (a b : List SpotT) (k : Nat) (v : V) (st : St) : Prop := ∃ i nv, k = a.length - i ∧ i ≤ a.length ∧ v = .int .i64 i ∧ st = ⟨[], nv⟩ ∧ a.take i = b.take i
theorem same18 (hR : R_gazetteerlaw18_same P) (a b : List SpotT) (ha : a.length < 2 ^ 47) : PCalls P n_gazetteerlaw18_same [.sl .unk 2 (a.map cSpot) [], .sl .unk 2 (b.map cSpot) []] (fun r => r = .bool (decide (a = b))) := by
  refine A_gazetteerlaw18_same hR ?_
  unfold F_gazetteerlaw18_same
  simp [st0]
  by_cases hab : a.length = b.length
  · simp [hab]
    refine ⟨SameSI a b, ⟨a.length, GhostV.refl ⟨0, 0, by simp, by simp, by simp, by simp, by simp⟩⟩, ?_⟩
    rintro k1 v8 st ⟨i, nv, rfl, hi, rfl, rfl, hn⟩
    by_cases hlt : i < a.length
    · have hlb : i < b.length := by omega
      simp [hlt, hlb, ← hab]
      rw [spot_ne]
      by_cases he : a[i] = b[i]
      · simp [he]
        have e2 : IntKind.i64.wrap ((i : Int) + 1) = ((i + 1 : Nat) : Int) := by rw [wrap_i64 (by omega)]; omega
        exact ⟨a.length - (i + 1), by omega, GhostV.refl ⟨i + 1, nv, rfl, by omega, by rw [e2], rfl, by rw [take_snoc hlt, take_snoc hlb, hn, he]⟩⟩
      · simp [he]
        exact GhostV.refl ⟨rfl, by simp; rintro rfl; exact he rfl⟩
    · simp [hlt, ← hab]
      have : a = b := by rw [List.take_of_length_le (by omega), List.take_of_length_le (by omega)] at hn; exact hn
      exact GhostV.refl ⟨rfl, by simp [this]⟩
  · simp [hab]
    exact GhostV.refl ⟨rfl, by simp; rintro rfl; exact hab rfl⟩

def HasI (l : List SpotT) (s : SpotT) (k : Nat) (v : V) (st : St) : Prop := ∃ i nv, k = l.length - i ∧ i ≤ l.length ∧ v = .int .i64 i ∧ st = ⟨[some (0, .mem 2 [cSpot s])], nv⟩ ∧ s ∉ l.take i
theorem Has18 (hR : R_gazetteerref18_Has P) (l : List SpotT) (s : SpotT) (hl : l.length < 2 ^ 47) : PCalls P n_gazetteerref18_Has [.sl .unk 2 (l.map cSpot) [], .agg (cSpot s)] (fun r => r = .bool (decide (s ∈ l))) := by
  refine A_gazetteerref18_Has hR ?_
  unfold F_gazetteerref18_Has
  simp [st0]
  refine ⟨HasI l s, ⟨l.length, GhostV.refl ⟨0, 1, by simp, by simp, by simp, by simp, by simp⟩⟩, ?_⟩
  rintro k1 v8 st ⟨i, nv, rfl, hi, rfl, rfl, hn⟩
  by_cases hlt : i < l.length
  · simp [hlt]
    rw [spot_eq]
    by_cases he : l[i] = s
    · simp [he]
      exact GhostV.refl ⟨rfl, by simp; rw [← he]; exact List.getElem_mem hlt⟩
    · simp [he]
      have e2 : IntKind.i64.wrap ((i : Int) + 1) = ((i + 1 : Nat) : Int) := by rw [wrap_i64 (by omega)]; omega
      refine ⟨l.length - (i + 1), by omega, GhostV.take 1 ⟨i + 1, nv + 1, rfl, by omega, by rw [e2], by simp, fun h => ?_⟩⟩
      rw [take_snoc hlt, List.mem_append] at h
      rcases h with h | h
      · exact hn h
      · exact he (by simp at h; exact h.symm)
  · simp [hlt]
    have : s ∉ l := by rwa [List.take_of_length_le (by omega)] at hn
    exact GhostV.refl ⟨rfl, by simp [this]⟩
end Go.Proofs.Ytmgkjbphlbpbfaa.AM
namespace Go.Proofs.Ytmgkjbphlbpbfaa.AM
open Go
set_option linter.unusedVariables false
set_option linter.unusedSimpArgs false
variable {P : Program}

theorem take_all {α β : Type} (f : α → β) (l : List α) : List.take l.length (l.map f) = l.map f := List.take_of_length_le (by simp)
/-- The first of the slots is a nil row: it becomes an array of its own. -/
theorem GhostV.nil1 {vs : List V} {st : St} {K : List V → St → Prop} (sz : Nat) (h0 : 0 < sz) (hk : K (.msl st.objs.length st.nv 0 0 :: vs) ⟨st.objs ++ [some (st.nv, .mem sz [])], st.nv + 1⟩) : GhostV (.sl .nil 0 [] [] :: vs) st K :=
  GhostV.nils (vs' := .msl st.objs.length st.nv 0 0 :: vs) (st' := st.push (.mem sz [])) h0 rfl rfl (fun i => by
    cases i with
    | zero => exact .nil _
    | succ i => simpa using Nz.refl _) hk

def LeftI (l : List StoredT) (g : List SpotT) (k : Nat) (r v : V) (st : St) : Prop := ∃ i va nv, k = l.length - i ∧ i ≤ l.length ∧ v = .int .i64 i ∧ r = .msl 0 va 0 (leftS (l.take i) g).length ∧ st = ⟨[some (va, .mem 10 ((leftS (l.take i) g).map cStored))], nv⟩
theorem Left18 (hH : R_gazetteerref18_Has P) (hR : R_gazetteerref18_Left P) (l : List StoredT) (g : List SpotT) (hl : l.length < 2 ^ 40) (hg : g.length < 2 ^ 40) : PCalls P n_gazetteerref18_Left [.sl .unk 10 (l.map cStored) [], .sl .unk 2 (g.map cSpot) []] (fun r => r = .sl .unk 10 ((leftS l g).map cStored) []) := by
  refine A_gazetteerref18_Left hR ?_
  unfold F_gazetteerref18_Left
  simp [st0]
  refine ⟨LeftI l g, ⟨l.length, GhostV.nil1 10 (by omega) ⟨0, 0, 1, by simp, by simp, by simp, by simp [leftS], by simp [leftS]⟩⟩, ?_⟩
  rintro k1 v5 v10 st ⟨i, va, nv, rfl, hi, rfl, rfl, rfl⟩
  by_cases hlt : i < l.length
  · have e2 : IntKind.i64.wrap ((i : Int) + 1) = ((i + 1 : Nat) : Int) := by rw [wrap_i64 (by omega)]; omega
    simp [hlt]
    refine inv_p (Has18 hH g l[i].spot (by omega)) (by simp) (by simp [pureL, pureLL]) ?_
    rintro _ rfl
    by_cases hm : l[i].spot ∈ g
    · have e3 : leftS (l.take (i + 1)) g = leftS (l.take i) g := by unfold leftS; rw [take_snoc hlt, List.filter_append]; simp [hm]
      simp [hm]
      refine ⟨l.length - (i + 1), by omega, GhostV.take 1 ⟨i + 1, va, _, rfl, by omega, by rw [e2], by rw [e3], by rw [e3]; rfl⟩⟩
    · have e3 : leftS (l.take (i + 1)) g = leftS (l.take i) g ++ [l[i]] := by unfold leftS; rw [take_snoc hlt, List.filter_append]; simp [hm]
      simp [hm]
      have hle : (leftS (l.take i) g).length ≤ l.length := by
        have := List.length_filter_le (fun x : StoredT => !decide (x.spot ∈ g)) (l.take i)
        simp only [List.length_take] at this
        unfold leftS; omega
      refine ⟨by omega, l.length - (i + 1), by omega, GhostV.take 1 ⟨i + 1, nv + 1 + 1, _, rfl, by omega, by rw [e2], by rw [e3]; simp, by rw [e3, List.map_append]; rfl⟩⟩
  · simp [hlt]
    have : leftS (l.take i) g = leftS l g := by rw [List.take_of_length_le (by omega)]
    rw [this]
    exact GhostV.row1 (sz := 10) (es := (leftS l g).map cStored) (by simp [St.get]) (by simp) ⟨by simp [V.pure, take_all], by simp [mkres1, take_all]⟩
end Go.Proofs.Ytmgkjbphlbpbfaa.AM
namespace Go.Proofs.Ytmgkjbphlbpbfaa.AM
open Go
set_option linter.unusedVariables false
set_option linter.unusedSimpArgs false
variable {P : Program}

theorem Box09 (hR : R_gazetteerref09_Box P) (k : KeyT) : PCalls P n_gazetteerref09_Box [.agg (cKey k)] (fun r => r = .bool (decide (k.x0 ≤ k.x1) && decide (k.y0 ≤ k.y1))) := by
  refine A_gazetteerref09_Box hR ?_
  unfold F_gazetteerref09_Box
  simp [st0]
  by_cases h1 : k.x0 ≤ k.x1
  · simp [h1]; exact GhostV.refl ⟨rfl, by simp [h1]⟩
  · simp [h1]; exact GhostV.refl ⟨rfl, by simp [h1]⟩

theorem Right10 (hB : R_gazetteerref09_Box P) (hR : R_gazetteerref10_Right P) (t : TupleT) : PCalls P n_gazetteerref10_Right [.agg (cTuple t)] (fun r => r = .bool (tupS t)) := by
  refine A_gazetteerref10_Right hR ?_
  unfold F_gazetteerref10_Right
  simp [st0]
  have no : tupS t = false → ∀ st, GhostV [.bool false] st fun vs st => (mkres vs).pure = true ∧ mkres vs = .bool (tupS t) := fun h st => GhostV.refl ⟨rfl, by simp [h]⟩
  by_cases h1 : (1 : Int) ≤ t.row
  · by_cases h2 : (1 : Int) ≤ t.xmin
    · by_cases h3 : (t.xmin : Int) ≤ 4294967295
      · by_cases h4 : (t.xmax : Int) ≤ 4294967295
        · simp [h1, h2, h3, h4]
          refine inv_p (Box09 hB t.key) (by simp) (by simp [pureL, pureLL]) ?_
          rintro _ rfl
          simp
          have e : tupS t = boxS t.key := by
            have a1 : ¬ t.row = 0 := by omega
            have a2 : ¬ t.xmin = 0 := by omega
            have a3 : ¬ 4294967295 < t.xmin := by omega
            have a4 : ¬ 4294967295 < t.xmax := by omega
            simp [tupS, a1, a2, a3, a4]
          exact GhostV.refl ⟨rfl, by simp [e, boxS]⟩
        · simp [h1, h2, h3, h4]; exact no (by simp [tupS]; omega) _
      · simp [h1, h2, h3]; exact no (by simp [tupS]; omega) _
    · simp [h1, h2]; exact no (by simp [tupS]; omega) _
  · simp [h1]; exact no (by simp [tupS]; omega) _

theorem find_first {α : Type} {p : α → Bool} {l : List α} {i : Nat} (h : i < l.length) (hn : ∀ x ∈ l.take i, p x = false) (hp : p l[i] = true) : l.find? p = some l[i] := by
  have e : l.find? p = (l.take i ++ l.drop i).find? p := by rw [List.take_append_drop]
  rw [e, List.find?_append, List.find?_eq_none.2 (fun x hx => by simp [hn x hx]), Option.none_or, List.drop_eq_getElem_cons h, List.find?_cons, hp]
def AllI (l : List StoredT) (k : Nat) (v : V) (st : St) : Prop := ∃ i nv, k = l.length - i ∧ i ≤ l.length ∧ v = .int .i64 i ∧ st = ⟨[], nv⟩ ∧ ∀ x ∈ l.take i, tupS x.tuple = true
theorem All17 (hB : R_gazetteerref09_Box P) (h10 : R_gazetteerref10_Right P) (hR : R_gazetteerref17_All P) (l : List StoredT) (hl : l.length < 2 ^ 47) : PCalls P n_gazetteerref17_All [.sl .unk 10 (l.map cStored) []] (fun r => r = .bool (l.all fun x => tupS x.tuple)) := by
  refine A_gazetteerref17_All hR ?_
  unfold F_gazetteerref17_All
  refine ⟨AllI l, ⟨l.length, GhostV.refl ⟨0, 0, by simp, by simp, rfl, rfl, by simp⟩⟩, ?_⟩
  rintro k1 v8 st ⟨i, nv, rfl, hi, rfl, rfl, hn⟩
  by_cases hlt : i < l.length
  · simp [hlt]
    refine inv_p (Right10 hB h10 l[i].tuple) (by simp) (by simp [pureL, pureLL]) ?_
    rintro _ rfl
    cases ht : tupS l[i].tuple
    · simp
      exact GhostV.refl ⟨rfl, by simp; exact ⟨l[i], List.getElem_mem hlt, ht⟩⟩
    · simp
      have e2 : IntKind.i64.wrap ((i : Int) + 1) = ((i + 1 : Nat) : Int) := by rw [wrap_i64 (by omega)]; omega
      refine ⟨l.length - (i + 1), by omega, GhostV.refl ⟨i + 1, nv, rfl, by omega, by rw [e2], rfl, fun x hx => ?_⟩⟩
      rw [take_snoc hlt, List.mem_append] at hx
      rcases hx with hx | hx
      · exact hn x hx
      · simp at hx; subst hx; exact ht
  · simp [hlt]
    rw [List.take_of_length_le (by omega)] at hn
    exact GhostV.refl ⟨rfl, by simp; exact hn⟩

/-- What became of an Id, as the document says it. -/
def refFate (f : FatesT) (id : Nat) : Int × Nat :=
  if id = 0 then (0, 0) else if id < f.first then (1, 0) else
    match f.list.find? (fun x => x.id == id) with
    | none => (3, 0)
    | some x => if x.number = 0 then (2, 0) else (1, x.number)
def FateI (f : FatesT) (id : Nat) (k : Nat) (v : V) (st : St) : Prop := ∃ i nv, k = f.list.length - i ∧ i ≤ f.list.length ∧ v = .int .i64 i ∧ st = ⟨[some (0, .mem 2 [[.int .u64 f.first, .sl .unk 2 (f.list.map cFate) []]])], nv⟩ ∧ ∀ x ∈ f.list.take i, x.id ≠ id
theorem Fate17 (hR : R_gazetteerref17_Fate P) (f : FatesT) (id : Nat) (hl : f.list.length < 2 ^ 47) : PCalls P n_gazetteerref17_Fate [vFates f, .int .u64 id] (fun r => r = .tup [.int .i64 (refFate f id).1, .int .u64 (refFate f id).2]) := by
  refine A_gazetteerref17_Fate hR ?_
  unfold F_gazetteerref17_Fate
  simp [st0]
  by_cases h0 : id = 0
  · simp [h0]; exact GhostV.refl ⟨rfl, by simp [refFate, h0]⟩
  by_cases h1 : id < f.first
  · simp [h0, h1]; exact GhostV.refl ⟨rfl, by simp [refFate, h0, h1]⟩
  simp [h0, h1]
  refine ⟨FateI f id, ⟨f.list.length, GhostV.refl ⟨0, 1, by simp, by simp, by simp, by simp, by simp⟩⟩, ?_⟩
  rintro k1 v8 st ⟨i, nv, rfl, hi, rfl, rfl, hn⟩
  by_cases hlt : i < f.list.length
  · have hg : f.list[i]? = some f.list[i] := List.getElem?_eq_getElem hlt
    simp [hlt, hg]
    by_cases he : f.list[i].id = id
    · have hf : f.list.find? (fun x => x.id == id) = some f.list[i]   := find_first hlt (fun x hx => by simpa using hn x hx) (by simp [he])
      by_cases hz : f.list[i].number = 0
      · simp [he, hz, hlt, hg]
        exact GhostV.refl ⟨rfl, by simp [refFate, h0, h1, hf, hz]⟩
      · simp [he, hz, hlt, hg]
        exact GhostV.refl ⟨rfl, by simp [refFate, h0, h1, hf, hz]⟩
    · simp [he, hlt, hg]
      have e2 : IntKind.i64.wrap ((i : Int) + 1) = ((i + 1 : Nat) : Int) := by rw [wrap_i64 (by omega)]; omega
      refine ⟨f.list.length - (i + 1), by omega, GhostV.refl ⟨i + 1, nv, rfl, by omega, by rw [e2], rfl, fun x hx => ?_⟩⟩
      rw [take_snoc hlt, List.mem_append] at hx
      rcases hx with hx | hx
      · exact hn x hx
      · simp at hx; subst hx; exact he
  · simp [hlt]
    rw [List.take_of_length_le (by omega)] at hn
    have hf : f.list.find? (fun x => x.id == id) = none := List.find?_eq_none.2 (fun x hx => by simpa using hn x hx)
    exact GhostV.refl ⟨rfl, by simp [refFate, h0, h1, hf]⟩

def refDead (f : FatesT) (hz : Nat) (t : TupleT) : Bool := decide ((refFate f t.xmin).1 = 3) || (decide ((refFate f t.xmax).1 = 1) && decide ((refFate f t.xmax).2 ≤ hz))
theorem Dead17 (hF : R_gazetteerref17_Fate P) (hR : R_gazetteerref17_Dead P) (f : FatesT) (hz : Nat) (t : TupleT) (hl : f.list.length < 2 ^ 47) : PCalls P n_gazetteerref17_Dead [vFates f, .int .u64 hz, .agg (cTuple t)] (fun r => r = .bool (refDead f hz t)) := by
  refine A_gazetteerref17_Dead hR ?_
  unfold F_gazetteerref17_Dead
  simp [st0]
  refine inv_p (Fate17 hF f t.xmin hl) (by simp) (by simp [pureL, pureLL]) ?_
  rintro _ rfl
  simp
  refine inv_p (Fate17 hF f t.xmax hl) (by simp) (by simp [pureL, pureLL]) ?_
  rintro _ rfl
  simp
  by_cases h3 : (refFate f t.xmin).1 = 3
  · simp [h3]; exact GhostV.refl ⟨rfl, by simp [refDead, h3]⟩
  by_cases h1 : (refFate f t.xmax).1 = 1
  · simp [h3, h1]; exact GhostV.refl ⟨rfl, by simp [refDead, h3, h1]⟩
  · simp [h3, h1]; exact GhostV.refl ⟨rfl, by simp [refDead, h3, h1]⟩

theorem refDead_eq {f : FatesT} {hz : Nat} {t : TupleT} (hf : FatesOk f) (ht : tupS t = true) : refDead f hz t = deadS f hz t := by
  have hx : 0 < t.xmin := by simp [tupS] at ht; omega
  have key : ∀ id, 0 < id → ((refFate f id).1 = 3 ↔ (fateS f id).2.1 = false ∧ (fateS f id).2.2 = false) ∧ ((refFate f id).1 = 1 ↔ (fateS f id).2.1 = true) ∧ ((fateS f id).2.1 = true → (refFate f id).2 = (fateS f id).1) := by
    intro id hid
    unfold refFate fateS
    by_cases h1 : id < f.first
    · simp [show id ≠ 0 by omega, h1, hid]
    · simp only [show id ≠ 0 by omega, h1, and_false, if_false]
      cases f.list.find? (fun x => x.id == id) with
      | none => simp
      | some x => by_cases hn : x.number = 0 <;> simp [hn]; omega
  have zero : (refFate f 0).1 ≠ 1 ∧ (fateS f 0).2.1 = false := by
    refine ⟨by simp [refFate], ?_⟩
    have : f.list.find? (fun x => x.id == 0) = none := List.find?_eq_none.2 (fun x hx => by have := hf.2.2.1 x hx; have := hf.1; simp; omega)
    simp [fateS, this]
  have k1 := (key _ hx).1
  unfold refDead deadS
  by_cases h0 : t.xmax = 0
  · rw [h0]
    simp only [zero.1, zero.2, decide_false, Bool.false_and, Bool.or_false, k1]
    cases (fateS f t.xmin).2.1 <;> cases (fateS f t.xmin).2.2 <;> simp
  · obtain ⟨_, k2, k3⟩ := key t.xmax (by omega)
    simp only [k1, k2]
    cases h : (fateS f t.xmax).2.1
    · cases (fateS f t.xmin).2.1 <;> cases (fateS f t.xmin).2.2 <;> simp
    · rw [k3 h]
      cases (fateS f t.xmin).2.1 <;> cases (fateS f t.xmin).2.2 <;> simp
end Go.Proofs.Ytmgkjbphlbpbfaa.AM
namespace Go.Proofs.Ytmgkjbphlbpbfaa.AM
open Go
set_option linter.unusedVariables false
set_option linter.unusedSimpArgs false
variable {P : Program}

def refDeadL (f : FatesT) (hz : Nat) (l : List StoredT) : List SpotT := (l.filter fun x => refDead f hz x.tuple).map (·.spot)
theorem refDeadL_length (f : FatesT) (hz : Nat) (l : List StoredT) : (refDeadL f hz l).length ≤ l.length := by simp only [refDeadL, List.length_map]; exact List.length_filter_le _ _

def Dead18I (f : FatesT) (hz : Nat) (l : List StoredT) (k : Nat) (r v : V) (st : St) : Prop := ∃ i va nv, k = l.length - i ∧ i ≤ l.length ∧ v = .int .i64 i ∧ r = .msl 1 va 0 (refDeadL f hz (l.take i)).length ∧
  st = ⟨[some (0, .mem 2 [[.int .u64 f.first, .sl .unk 2 (f.list.map cFate) []]]), some (va, .mem 2 ((refDeadL f hz (l.take i)).map cSpot))], nv⟩
theorem Dead18 (hF : R_gazetteerref17_Fate P) (hD : R_gazetteerref17_Dead P) (hR : R_gazetteerref18_Dead P) (f : FatesT) (hz : Nat) (l : List StoredT) (hfl : f.list.length < 2 ^ 40) (hl : l.length < 2 ^ 40) :
    PCalls P n_gazetteerref18_Dead [vFates f, .int .u64 hz, .sl .unk 10 (l.map cStored) []] (fun r => r = .sl .unk 2 ((refDeadL f hz l).map cSpot) []) := by
  refine A_gazetteerref18_Dead hR ?_
  unfold F_gazetteerref18_Dead
  simp [st0]
  refine ⟨Dead18I f hz l, ⟨l.length, GhostV.nil1 2 (by omega) ⟨0, 1, 2, by simp, by simp, by simp, by simp [refDeadL], by simp [refDeadL]⟩⟩, ?_⟩
  rintro k1 v5 v10 st ⟨i, va, nv, rfl, hi, rfl, rfl, rfl⟩
  by_cases hlt : i < l.length
  · have e2 : IntKind.i64.wrap ((i : Int) + 1) = ((i + 1 : Nat) : Int) := by rw [wrap_i64 (by omega)]; omega
    simp [hlt]
    refine inv_p (Dead17 hF hD f hz l[i].tuple (by omega)) (by simp) (by simp [pureL, pureLL]) ?_
    rintro _ rfl
    cases hm : refDead f hz l[i].tuple
    · have e3 : refDeadL f hz (l.take (i + 1)) = refDeadL f hz (l.take i) := by unfold refDeadL; rw [take_snoc hlt, List.filter_append]; simp [hm]
      simp
      refine ⟨l.length - (i + 1), by omega, GhostV.take 2 ⟨i + 1, va, _, rfl, by omega, by rw [e2], by rw [e3], by rw [e3]; rfl⟩⟩
    · have e3 : refDeadL f hz (l.take (i + 1)) = refDeadL f hz (l.take i) ++ [l[i].spot] := by unfold refDeadL; rw [take_snoc hlt, List.filter_append]; simp [hm]
      simp
      have hle : (refDeadL f hz (l.take i)).length ≤ l.length := by
        have := refDeadL_length f hz (l.take i)
        simp only [List.length_take] at this
        omega
      refine ⟨by omega, l.length - (i + 1), by omega, GhostV.take 2 ⟨i + 1, _, _, rfl, by omega, by rw [e2], by rw [e3]; simp; rfl, by rw [e3, List.map_append]; rfl⟩⟩
  · simp [hlt]
    have : refDeadL f hz (l.take i) = refDeadL f hz l := by rw [List.take_of_length_le (by omega)]
    rw [this]
    exact GhostV.row1 (sz := 2) (es := (refDeadL f hz l).map cSpot) (by simp [St.get]) (by simp) ⟨by simp [V.pure, take_all], by simp [mkres1, take_all]⟩

theorem GhostV.agg2 {a : V} {id ver len sz : Nat} {es : List (List V)} {st : St} {K : List V → St → Prop} (ho : st.get id ver = some (.mem sz es)) (h : len = es.length) (hk : K [.agg [a, .sl .unk sz es []]] ⟨[], st.nv⟩) : GhostV [.agg [a, .msl id ver 0 len]] st K := by
  subst h
  refine GhostV.freeze (vs' := [.agg [a, .sl .unk sz es []]]) (st' := ⟨[], st.nv⟩) ho rfl rfl (fun i => ?_) (fun id1 ver1 o1 h => by simp at h) hk
  cases i with
  | zero =>
    refine .agg _ _ rfl (fun i hi => ?_)
    have : i = 0 ∨ i = 1 := by simp at hi; omega
    rcases this with rfl | rfl
    · exact .refl _
    · have := Frz.msl (ver := ver) (sz := sz) (es := es) id 0 es.length (by omega)
      simpa using this
  | succ i => simpa using Frz.refl _
theorem fates18 (hR : R_gazetteerlaw18_fates P) (f : FatesT) : PCalls P n_gazetteerlaw18_fates [vFates f] (fun r => r = vFates ⟨f.first, f.list.take 257⟩) := by
  refine A_gazetteerlaw18_fates hR ?_
  unfold F_gazetteerlaw18_fates
  simp [st0]
  by_cases h : (257 : Int) < f.list.length
  · have e : min 257 f.list.length = 257 := by omega
    simp [h, e]
    exact ⟨by omega, GhostV.agg2 (sz := 2) (es := List.take 257 (List.map cFate f.list)) (by simp [St.get]) (by simp; omega) ⟨by simp [V.pure, pureL], by simp [mkres1]⟩⟩
  · have e : List.take 257 (f.list.map cFate) = f.list.map cFate := List.take_of_length_le (by simp; omega)
    simp [h, e]
    exact ⟨by omega, GhostV.agg2 (sz := 2) (es := List.map cFate f.list) (by simp [St.get, take_all]) (by simp) ⟨by simp [V.pure, pureL], by simp [mkres1]⟩⟩
end Go.Proofs.Ytmgkjbphlbpbfaa.AM
namespace Go.Proofs.Ytmgkjbphlbpbfaa.AM
open Go
set_option linter.unusedVariables false
set_option linter.unusedSimpArgs false
variable {P : Program}

/-- vacuum.Left, from a state with one object: the answer is nil, or an array that is written by nobody else. -/
theorem LeftM (h : LeftR P) (l : List StoredT) (gone : List SpotT) (hl : l.length < 2 ^ 40) (hg : gone.length < 2 ^ 40) {o : Option (Nat × Obj)} {nv : Nat} {K : V → St → Prop}
    (h1 : leftS l gone = [] → ∀ O nv', K (.sl .unk 10 [] []) ⟨o :: O, nv'⟩)
    (h2 : ∀ b va nv' rows, rows.take (leftS l gone).length = (leftS l gone).map cStored → (leftS l gone).length ≤ rows.length → K (.msl 2 va 0 (leftS l gone).length) ⟨[o, b, some (va, .mem 10 rows)], nv'⟩) :
    ACalls P n_vacuum_Left [.sl .unk 10 (l.map cStored) [], .sl .unk 2 (gone.map cSpot) []] ⟨[o], nv⟩ K := by
  refine A_vacuum_Left h.left ?_
  unfold F_vacuum_Left
  simp
  have hf : ∀ x, PCalls P n_vacuum_Left_1 ([.agg (cStored x)] ++ [.eptr [.sl .unk 2 (gone.map cSpot) []] 0]) (fun r => r = .bool (decide (x.spot ∈ gone))) := fun x => Left_1 h.idx h.con h.fn gone x (by omega)
  refine inv_f0 (Clone_Stored h.clone l hl ?_ ?_)
  · rintro rfl
    simp
    refine inv_f0 (DeleteNil h.idxf h.del (by simp [pureL, pureLL]) hf (Bors.cons (.box1 (by simp [St.get])) Bors.nil) ?_)
    exact GhostV.le (LeVs.cons (.nil _ 10) LeVs.nil) (h1 rfl _ _)
  · simp
    refine inv_f0 (DeleteFunc h.idxf h.del (L := [o, some (nv, .mem 1 [[.sl .unk 2 (gone.map cSpot) []]]), some (nv + 1 + 1, .mem 10 (l.map cStored))]) (cap := [.ptr 1 nv 0 0]) l (by omega) (by simp [pureL, pureLL]) hf (by rfl) ?_ ?_)
    · intro L' nv' hL'
      have := hL' 1 (by decide) (by simp)
      exact Bors.cons (.box1 (by simp [St.get, this])) Bors.nil
    · intro nv' rows e1 e2
      simp
      exact GhostV.refl (h2 _ _ _ _ e1 e2)

def vRight (f : FatesT) (r : V) : Prop := ∃ b, r = .bool b ∧ (b = true ↔ FatesOk f)
structure DeadLawR (P : Program) : Prop extends WakeR P where
  items : R_gazetteerlaw18_items P
  fates18 : R_gazetteerlaw18_fates P
  same18 : R_gazetteerlaw18_same P
  same17 : R_gazetteerref17_Same P
  right17 : R_gazetteerref17_Right P
  all17 : R_gazetteerref17_All P
  fate17 : R_gazetteerref17_Fate P
  dead17 : R_gazetteerref17_Dead P
  right10 : R_gazetteerref10_Right P
  box09 : R_gazetteerref09_Box P
  dead18 : R_gazetteerref18_Dead P
  has18 : R_gazetteerref18_Has P
  left18 : R_gazetteerref18_Left P
  law : R_gazetteerlaw18_VacuumDead P

def NilI (k : Nat) (v : V) (st : St) : Prop := v = .int .i64 0
def WrI (o : Option (Nat × Obj)) (va n : Nat) (k : Nat) (v : V) (st : St) : Prop :=
  ∃ i nv b rows, k = n - i ∧ i ≤ n ∧ v = .int .i64 i ∧ st = ⟨[o, b, some (va, .mem 10 rows)], nv⟩ ∧ n ≤ rows.length ∧ ∀ j (hj : j < rows.length), j < n → rows[j].length = 10
theorem vacuumDead (h : DeadLawR P) (hRight : ∀ f : FatesT, f.list.length < 2 ^ 40 → PCalls P n_gazetteerref17_Right [vFates f] (vRight f)) (f : FatesT) (hz : Nat) (l : List StoredT) :
    PCalls P n_gazetteerlaw18_VacuumDead [vFates f, .int .u64 hz, .sl .unk 10 (l.map cStored) []] (fun r => r = .bool true) := by
  refine A_gazetteerlaw18_VacuumDead h.law ?_
  unfold F_gazetteerlaw18_VacuumDead
  simp [st0]
  refine inv_p (wakes18 h.toWakeR) rfl rfl ?_
  rintro _ rfl
  simp
  obtain ⟨x, hx⟩ : ∃ x, x = l.take 130 := ⟨_, rfl⟩
  obtain ⟨F, hF⟩ : ∃ F : FatesT, F = ⟨f.first, f.list.take 257⟩ := ⟨_, rfl⟩
  have hxl : x.length < 2 ^ 40 := by rw [hx]; simp; omega
  have hFl : F.list.length < 2 ^ 40 := by rw [hF]; simp; omega
  have hi : PCalls P n_gazetteerlaw18_items [.sl .unk 10 (l.map cStored) []] (fun r => r = .sl .unk 10 (x.map cStored) []) := by rw [hx]; exact items18 h.items l
  have hfa : PCalls P n_gazetteerlaw18_fates [vFates f] (fun r => r = vFates F) := by rw [hF]; exact AM.fates18 h.fates18 f
  refine inv_p hi (by simp) (by simp [pureL, pureLL]) ?_
  rintro _ rfl
  simp
  refine inv_p hi (by simp) (by simp [pureL, pureLL]) ?_
  rintro _ rfl
  simp
  refine inv_p hfa (by simp) (by simp [pureL, pureLL]) ?_
  rintro _ rfl
  simp
  refine inv_p (vac_Dead h.toVacR F hz x hFl hxl) (by simp) (by simp [pureL, pureLL]) ?_
  intro r hr
  have same : PCalls P n_gazetteerref17_Same [.sl .unk 10 (x.map cStored) [], .sl .unk 10 (x.map cStored) []] (fun r => r = .bool true) := by simpa using Same17 h.same17 x x (by omega)
  rcases hr with ⟨hn, rfl⟩ | ⟨hf, hbad, rfl⟩ | ⟨hf, hall, rfl⟩
  · simp
    refine inv_p same (by simp) (by simp [pureL, pureLL]) ?_
    rintro _ rfl
    simp
    refine inv_p (hRight F hFl) (by simp) (by simp [pureL, pureLL]) ?_
    rintro _ ⟨b, rfl, hb⟩
    have : b = false := by cases b with | false => rfl | true => exact absurd (hb.1 rfl) hn
    subst this
    simp
    exact GhostV.refl ⟨rfl, rfl⟩
  · simp
    refine inv_p same (by simp) (by simp [pureL, pureLL]) ?_
    rintro _ rfl
    simp
    refine inv_p (hRight F hFl) (by simp) (by simp [pureL, pureLL]) ?_
    rintro _ ⟨b, rfl, hb⟩
    have : b = true := hb.2 hf
    subst this
    simp
    refine inv_p (All17 h.box09 h.right10 h.all17 x (by omega)) (by simp) (by simp [pureL, pureLL]) ?_
    rintro _ rfl
    have : (x.all fun x => tupS x.tuple) = false := by
      obtain ⟨y, hy, hy'⟩ := hbad
      simp; exact ⟨y, hy, hy'⟩
    rw [this]
    simp
    exact GhostV.refl ⟨rfl, rfl⟩
  · simp
    refine inv_p same (by simp) (by simp [pureL, pureLL]) ?_
    rintro _ rfl
    simp
    refine inv_p (hRight F hFl) (by simp) (by simp [pureL, pureLL]) ?_
    rintro _ ⟨b, rfl, hb⟩
    have : b = true := hb.2 hf
    subst this
    simp
    refine inv_p (All17 h.box09 h.right10 h.all17 x (by omega)) (by simp) (by simp [pureL, pureLL]) ?_
    rintro _ rfl
    have : (x.all fun x => tupS x.tuple) = true := by simp; exact hall
    rw [this]
    simp
    refine inv_p (Dead18 h.fate17 h.dead17 h.dead18 F hz x hFl hxl) (by simp) (by simp [pureL, pureLL]) ?_
    rintro _ rfl
    have hd : refDeadL F hz x = deadL F hz x := by
      unfold refDeadL deadL
      rw [List.filter_congr (fun y hy => refDead_eq hf (hall y hy))]
    rw [hd]
    have hdl : (deadL F hz x).length < 2 ^ 40 := by have := refDeadL_length F hz x; rw [hd] at this; omega
    simp
    refine inv_p (same18 h.same18 (deadL F hz x) (deadL F hz x) (by omega)) (by simp) (by simp [pureL, pureLL]) ?_
    rintro _ rfl
    simp
    have rest : ∀ st, GhostV [.bool true] st fun vs st => (mkres vs).pure = true ∧ mkres vs = .bool true := fun st => GhostV.refl ⟨rfl, rfl⟩
    refine inv_f0 (LeftM h.toLeftR x (deadL F hz x) hxl hdl ?_ ?_)
    · intro he O nv'
      simp
      refine inv_p (Left18 h.has18 h.left18 x (deadL F hz x) hxl hdl) (by simp) (by simp [pureL, pureLL]) ?_
      rintro _ rfl
      rw [he]
      simp
      refine inv_p (by simpa using Same17 h.same17 [] [] (by simp)) (by simp) (by simp [pureL, pureLL]) ?_
      rintro _ rfl
      simp
      refine ⟨NilI, ⟨0, GhostV.refl rfl⟩, ?_⟩
      rintro k v st rfl
      simp
      refine inv_p same (by simp) (by simp [pureL, pureLL]) ?_
      rintro _ rfl
      exact rest _
    · intro b va nv' rows e1 e2
      simp
      refine inv_p (Left18 h.has18 h.left18 x (deadL F hz x) hxl hdl) (by simp) (by simp [pureL, pureLL]) ?_
      rintro _ rfl
      obtain ⟨y, hy⟩ : ∃ y, y = leftS x (deadL F hz x) := ⟨_, rfl⟩
      have hyl : y.length < 2 ^ 40 := by
        have := List.length_filter_le (fun x_1 : StoredT => !decide (x_1.spot ∈ deadL F hz x)) x
        rw [hy]; unfold leftS; omega
      rw [← hy] at e1 e2 ⊢
      simp
      have row : ∀ i, i < y.length → rows.getD i [] = (y.map cStored).getD i [] := fun i hi => by
        rw [← e1]; simp [List.getD, List.getElem?_take, hi]
      refine inv_look (Same17 h.same17 y y (by omega)) (Bors.cons (.msl _ _ _ _ 10 rows (y.map cStored) (by simp [St.get]) (by omega) (by simp) (fun i hi => by rw [getD_map _ _ _ hi]; rfl) (fun i j hi hj => by
        rw [Nat.zero_add, row i hi]; exact .refl _)) (Bors.cons (.refl _) Bors.nil)) (by simp [pureL, pureLL]) ?_
      rintro _ rfl
      refine ⟨rfl, ?_⟩
      simp
      refine ⟨WrI (some (0, .mem 2 [[.int .u64 F.first, .sl .unk 2 (F.list.map cFate) []]])) va y.length, ⟨y.length, GhostV.refl ⟨0, _, b, rows, by simp, by simp, by simp, rfl, e2, fun j hj hj2 => ?_⟩⟩, ?_⟩
      · have := row j hj2
        rw [getD_map _ _ _ hj2] at this
        simp [List.getD, hj] at this
        rw [this]; rfl
      rintro k v st ⟨i, nv, b, rows, rfl, hi, rfl, rfl, e2, e10⟩
      by_cases hlt : i < y.length
      · have hir : i < rows.length := by omega
        have e3 : IntKind.i64.wrap ((i : Int) + 1) = ((i + 1 : Nat) : Int) := by rw [wrap_i64 (by omega)]; omega
        have r10 := e10 i hir hlt
        simp [hlt, hir, r10]
        refine ⟨y.length - (i + 1), by omega, GhostV.refl ⟨i + 1, nv, b, _, rfl, by omega, by rw [e3], rfl, by simp; exact e2, fun j hj hj2 => ?_⟩⟩
        simp at hj
        rw [List.getElem_set]
        split
        · simp [r10]
        · exact e10 j hj hj2
      · simp [hlt]
        refine inv_p same (by simp) (by simp [pureL, pureLL]) ?_
        rintro _ rfl
        exact rest _
end Go.Proofs.Ytmgkjbphlbpbfaa.AM
namespace Go.Proofs.Ytmgkjbphlbpbfaa.AM
open Go
set_option linter.unusedVariables false
set_option linter.unusedSimpArgs false
variable {P : Program}

def RightI (f : FatesT) (k : Nat) (v : V) (st : St) : Prop := ∃ i nv, k = f.list.length - i ∧ i ≤ f.list.length ∧ v = .int .i64 i ∧ st = ⟨[some (0, .mem 2 [[.int .u64 f.first, .sl .unk 2 (f.list.map cFate) []]])], nv⟩ ∧ FOk f.first (f.list.take i)
def RightJ (f : FatesT) (i nv : Nat) (x : FateT) (k : Nat) (v : V) (st : St) : Prop := ∃ j, k = i - j ∧ j ≤ i ∧ v = .int .i64 j ∧
  st = ⟨[some (0, .mem 2 [[.int .u64 f.first, .sl .unk 2 (f.list.map cFate) []]]), some (nv, .mem 2 [cFate x])], nv + 1⟩ ∧ ∀ a ∈ f.list.take j, x.number = 0 ∨ a.number ≠ x.number
theorem Right17 (hR : R_gazetteerref17_Right P) (f : FatesT) (hl : f.list.length < 2 ^ 40) : PCalls P n_gazetteerref17_Right [vFates f] (vRight f) := by
  refine A_gazetteerref17_Right hR ?_
  unfold F_gazetteerref17_Right
  simp [st0]
  by_cases h1 : f.first = 0
  · simp [h1]
    exact GhostV.refl ⟨rfl, false, rfl, by simp [FatesOk, h1]⟩
  by_cases h2 : (256 : Int) < f.list.length
  · simp [h1, h2]
    exact GhostV.refl ⟨rfl, false, rfl, by simp [FatesOk]; omega⟩
  simp [h1, h2]
  refine ⟨RightI f, ⟨f.list.length, GhostV.refl ⟨0, 1, by simp, by simp, by simp, rfl, by simp [FOk]⟩⟩, ?_⟩
  rintro k1 v19 st ⟨i, nv, rfl, hi, rfl, rfl, hok⟩
  by_cases hlt : i < f.list.length
  · have hsn := take_snoc hlt
    have hg : f.list[i]? = some f.list[i] := List.getElem?_eq_getElem hlt
    have bad' : ∀ st, ¬ FOk f.first (f.list.take (i + 1)) → GhostV [.bool false] st (fun vs st => (mkres vs).pure = true ∧ vRight f (mkres vs)) := fun st hb =>
      GhostV.refl ⟨rfl, false, rfl, by simp; exact fun h => hb h.2.2.take⟩
    simp only [hsn, FOk.snoc] at bad'
    have e2 : IntKind.i64.wrap ((i : Int) + 1) = ((i + 1 : Nat) : Int) := by rw [wrap_i64 (by omega)]; omega
    simp [hlt]
    by_cases hA : f.list[i].id < f.first
    · simp [hA, hlt]
      exact bad' _ (fun h => by have := h.2.1; omega)
    simp [hA]
    by_cases h0 : 0 < i
    · have e1 : IntKind.i64.wrap ((i : Int) - 1) = ((i - 1 : Nat) : Int) := by rw [wrap_i64 (by omega)]; omega
      have hi1 : i - 1 < f.list.length := by omega
      have hg1 : f.list[i - 1]? = some f.list[i - 1] := List.getElem?_eq_getElem hi1
      by_cases hB : f.list[i].id ≤ f.list[i - 1].id
      · simp [hA, h0, e1, hi1, hg1, hB]
        refine bad' _ (fun h => ?_)
        have := h.2.2.1 f.list[i - 1] (List.mem_take_iff_getElem.2 ⟨i - 1, by omega, rfl⟩)
        omega
      · simp [hA, h0, e1, hi1, hg1, hB]
        have hall : ∀ a ∈ f.list.take i, a.id < f.list[i].id := by
          intro a ha
          obtain ⟨j, hj, rfl⟩ := List.mem_take_iff_getElem.1 ha
          have hr : Rising (f.list.take i) := hok.2.1
          by_cases e : j = i - 1
          · subst e; omega
          · have h3 := hr.lt (i := j) (j := i - 1) (by omega) (by simp; omega)
            simp at h3; omega
        refine ⟨RightJ f i nv f.list[i], ⟨i, GhostV.refl ⟨0, by simp, by simp, rfl, rfl, by simp⟩⟩, ?_⟩
        rintro k2 v5 st ⟨j, rfl, hj, rfl, rfl, hn⟩
        by_cases hji : j < i
        · have hjl : j < f.list.length := by omega
          have hgj : f.list[j]? = some f.list[j] := List.getElem?_eq_getElem hjl
          have e3 : IntKind.i64.wrap ((j : Int) + 1) = ((j + 1 : Nat) : Int) := by rw [wrap_i64 (by omega)]; omega
          have next : (f.list[i].number = 0 ∨ f.list[j].number ≠ f.list[i].number) → ∃ m, m < i - j ∧ GhostV [.int .i64 (IntKind.i64.wrap ((j : Int) + 1))] ⟨[some (0, .mem 2 [[.int .u64 f.first, .sl .unk 2 (f.list.map cFate) []]]), some (nv, .mem 2 [cFate f.list[i]])], nv + 1⟩ (app (n := 1) (RightJ f i nv f.list[i] m)) := fun hh =>
            ⟨i - (j + 1), by omega, GhostV.refl ⟨j + 1, rfl, by omega, by rw [e3], rfl, fun a ha => by
              rw [take_snoc hjl, List.mem_append] at ha
              rcases ha with ha | ha
              · exact hn a ha
              · simp at ha; subst ha; exact hh⟩⟩
          by_cases hz : f.list[i].number = 0
          · simp [hji, hz]
            simpa [hz] using next (.inl hz)
          · by_cases he : f.list[j].number = f.list[i].number
            · simp [hji, hz, hjl, hgj, he]
              refine bad' _ (fun h => ?_)
              rcases h.2.2.2 f.list[j] (List.mem_take_iff_getElem.2 ⟨j, by omega, rfl⟩) with h | h
              · exact hz h
              · exact h he
            · simp [hji, hz, hjl, hgj, he]
              simpa using next (.inr he)
        · simp [hji]
          have hji' : j = i := by omega
          subst hji'
          exact ⟨f.list.length - (j + 1), by omega, GhostV.take 1 ⟨j + 1, _, rfl, by omega, by rw [e2], rfl, by rw [hsn, FOk.snoc]; exact ⟨hok, by omega, hall, hn⟩⟩⟩
    · simp [hA, h0]
      have hall : ∀ a ∈ f.list.take i, a.id < f.list[i].id := by
        intro a ha
        obtain ⟨j, hj, rfl⟩ := List.mem_take_iff_getElem.1 ha
        omega
      refine ⟨RightJ f i nv f.list[i], ⟨i, GhostV.refl ⟨0, by simp, by simp, rfl, rfl, by simp⟩⟩, ?_⟩
      rintro k2 v5 st ⟨j, rfl, hj, rfl, rfl, hn⟩
      by_cases hji : j < i
      · have hjl : j < f.list.length := by omega
        have hgj : f.list[j]? = some f.list[j] := List.getElem?_eq_getElem hjl
        have e3 : IntKind.i64.wrap ((j : Int) + 1) = ((j + 1 : Nat) : Int) := by rw [wrap_i64 (by omega)]; omega
        have next : (f.list[i].number = 0 ∨ f.list[j].number ≠ f.list[i].number) → ∃ m, m < i - j ∧ GhostV [.int .i64 (IntKind.i64.wrap ((j : Int) + 1))] ⟨[some (0, .mem 2 [[.int .u64 f.first, .sl .unk 2 (f.list.map cFate) []]]), some (nv, .mem 2 [cFate f.list[i]])], nv + 1⟩ (app (n := 1) (RightJ f i nv f.list[i] m)) := fun hh =>
          ⟨i - (j + 1), by omega, GhostV.refl ⟨j + 1, rfl, by omega, by rw [e3], rfl, fun a ha => by
            rw [take_snoc hjl, List.mem_append] at ha
            rcases ha with ha | ha
            · exact hn a ha
            · simp at ha; subst ha; exact hh⟩⟩
        by_cases hz : f.list[i].number = 0
        · simp [hji, hz]
          simpa [hz] using next (.inl hz)
        · by_cases he : f.list[j].number = f.list[i].number
          · simp [hji, hz, hjl, hgj, he]
            refine bad' _ (fun h => ?_)
            rcases h.2.2.2 f.list[j] (List.mem_take_iff_getElem.2 ⟨j, by omega, rfl⟩) with h | h
            · exact hz h
            · exact h he
          · simp [hji, hz, hjl, hgj, he]
            simpa using next (.inr he)
      · simp [hji]
        have hji' : j = i := by omega
        subst hji'
        exact ⟨f.list.length - (j + 1), by omega, GhostV.take 1 ⟨j + 1, _, rfl, by omega, by rw [e2], rfl, by rw [hsn, FOk.snoc]; exact ⟨hok, by omega, hall, hn⟩⟩⟩
  · simp [hlt]
    rw [List.take_of_length_le (by omega)] at hok
    exact GhostV.refl ⟨rfl, true, rfl, by simp [FatesOk]; exact ⟨by omega, by omega, hok⟩⟩
end Go.Proofs.Ytmgkjbphlbpbfaa.AM

namespace Go.Proofs.Ytmgkjbphlbpbfaa.AM
open Go
set_option linter.unusedVariables false
set_option linter.unusedSimpArgs false
variable {P : Program}

structure SpotsR (P : Program) : Prop where
  spots : R_gazetteerlaw18_spots P
  rspot : R_gazetteerref18_Spot P
  rentry : R_gazetteerref18_Entry P
  cloneS : R_slices_Clone_Spot_Spot P
  batches : R_vacuum_Batches P
  law : R_gazetteerlaw18_VacuumSpots P

theorem spots18 (h : SpotsR P) (l : List SpotT) : PCalls P n_gazetteerlaw18_spots [.sl .unk 2 (l.map cSpot) []] (fun r => r = .sl .unk 2 ((l.take 130).map cSpot) []) := by
  refine A_gazetteerlaw18_spots h.spots ?_
  unfold F_gazetteerlaw18_spots
  simp [st0]
  by_cases h : (130 : Int) < l.length
  · have e : min 130 l.length = 130 := by omega
    simp [h, e]
    refine ⟨by omega, ?_⟩
    exact GhostV.row1 (sz := 2) rfl (by simp; omega) ⟨by simp [V.pure, List.take_take, ← List.map_take], by simp [mkres1, List.take_take]⟩
  · have e : List.take 130 (l.map cSpot) = l.map cSpot := List.take_of_length_le (by simp; omega)
    simp [h, e]
    refine ⟨by omega, ?_⟩
    exact GhostV.row1 (sz := 2) rfl (by simp) ⟨by simp [V.pure, List.take_take, ← List.map_take], by simp [mkres1, List.take_take, ← List.map_take]⟩
theorem rSpot18 (h : SpotsR P) (s : SpotT) : PCalls P n_gazetteerref18_Spot [.agg (cSpot s)] (fun r => r = .bool (decide (spotOk s))) := by
  refine A_gazetteerref18_Spot h.rspot ?_
  unfold F_gazetteerref18_Spot
  simp [st0]
  have fin : ∀ (b : Bool) st, b = decide (spotOk s) → GhostV [.bool b] st fun vs st => (mkres vs).pure = true ∧ mkres vs = .bool (decide (spotOk s)) := fun b st hb => GhostV.refl ⟨rfl, by rw [hb]; rfl⟩
  by_cases h1 : 0 ≤ s.page
  · by_cases h2 : s.page < 32
    · by_cases h3 : 0 ≤ s.slot
      · by_cases h4 : s.slot < 4
        · simp [h1, h2, h3, h4]; exact fin _ _ (by simp [spotOk, *])
        · simp [h1, h2, h3, h4]; exact fin _ _ (by simp [spotOk, *])
      · simp [h1, h2, h3]; exact fin _ _ (by simp [spotOk, *])
    · simp [h1, h2]; exact fin _ _ (by simp [spotOk, *])
  · simp [h1]; exact fin _ _ (by simp [spotOk, *])
theorem rEntry18 (h : SpotsR P) (s : SpotT) (hs : spotOk s) : PCalls P n_gazetteerref18_Entry [.agg (cSpot s)] (fun r => r = .int .u32 (4 * s.page + s.slot + 1)) := by
  refine A_gazetteerref18_Entry h.rentry ?_
  unfold F_gazetteerref18_Entry
  unfold spotOk at hs
  have e1 : IntKind.i64.wrap (4 * s.page) = 4 * s.page := wrap_i64 (by omega)
  have e2 : IntKind.i64.wrap (4 * s.page + s.slot) = 4 * s.page + s.slot := wrap_i64 (by omega)
  have e3 : IntKind.i64.wrap (4 * s.page + s.slot + 1) = 4 * s.page + s.slot + 1 := wrap_i64 (by omega)
  have e4 : IntKind.u32.wrap (4 * s.page + s.slot + 1) = 4 * s.page + s.slot + 1 := by simp [IntKind.wrap, IntKind.signed, IntKind.bits]; omega
  simp [st0, e1, e2, e3, e4]
  exact GhostV.refl ⟨rfl, rfl⟩
theorem Clone_Spot (hR : R_slices_Clone_Spot_Spot P) (l : List SpotT) (hl : l.length < 2 ^ 40) (hne : l ≠ []) {L : List (Option (Nat × Obj))} {nv : Nat} {K : V → St → Prop}
    (h2 : K (.msl L.length (nv + 1) 0 l.length) ⟨L ++ [some (nv + 1, .mem 2 (l.map cSpot))], nv + 2⟩) :
    ACalls P n_slices_Clone_Spot_Spot [.sl .unk 2 (l.map cSpot) []] ⟨L, nv⟩ K := by
  refine A_slices_Clone_Spot_Spot hR ?_
  unfold F_slices_Clone_Spot_Spot
  cases l with
  | nil => exact absurd rfl hne
  | cons x l =>
    simp
    refine ⟨by simp at hl; omega, ?_⟩
    exact GhostV.refl (by simpa using h2)

/-! ### Batches -/
theorem getB {A R : List (Option (Nat × Obj))} {i : Nat} {x : Option (Nat × Obj)} (h : A[i]? = some x) : (A ++ R)[i]? = some x := by
  rw [List.getElem?_append_left (List.getElem?_eq_some_iff.1 h).1]; exact h
theorem setB {A R : List (Option (Nat × Obj))} {i : Nat} {x y : Option (Nat × Obj)} (h : A[i]? = some x) : (A ++ R).set i y = A.set i y ++ R := List.set_append_left _ _ (List.getElem?_eq_some_iff.1 h).1

structure Bt where
  id : Nat
  ver : Nat
  l : List SpotT
@[simp] def cBt (q : Bt) : List V := [.msl q.id q.ver 0 q.l.length]
structure BatA (L : List (Option (Nat × Obj))) (i0 vb : Nat) (qs : List Bt) (A : List (Option (Nat × Obj))) : Prop where
  il : L.length = i0
  pre : A.take i0 = L
  out : A[i0]? = some (some (vb, .mem 1 (qs.map cBt)))
  ins : ∀ q ∈ qs, i0 < q.id ∧ A[q.id]? = some (some (q.ver, .mem 2 (q.l.map cSpot)))
  nd : (qs.map (·.id)).Nodup
/-- The batches of a row. -/
structure Chunks (n : Int) (ls : List (List SpotT)) (more : Bool) : Prop where
  sz : ∀ x ∈ ls, x ≠ [] ∧ (x.length : Int) ≤ n
  full : ∀ i x, ls[i]? = some x → i + 1 < ls.length ∨ more = true → (x.length : Int) = n
def BatI (l : List SpotT) (n : Int) (L : List (Option (Nat × Obj))) (i0 : Nat) (k : Nat) (v6 v7 : V) (st : St) : Prop :=
  ∃ (rest : List SpotT) (qs : List Bt) (A : List (Option (Nat × Obj))) (vb nv : Nat), rest.length = k ∧ rest.length ≤ 130 ∧ qs.length + rest.length ≤ 130 ∧ v7 = .sl .unk 2 (rest.map cSpot) [] ∧ v6 = .msl i0 vb 0 qs.length ∧
    BatA L i0 vb qs A ∧ (qs.map (·.l)).flatten ++ rest = l ∧ Chunks n (qs.map (·.l)) (!rest.isEmpty) ∧ st = ⟨A, nv⟩
theorem Batches_N (h : SpotsR P) (l : List SpotT) (n : Int) (hl : l.length ≤ 130) (hn1 : -9223372036854775808 ≤ n ∧ n < 9223372036854775808) {L : List (Option (Nat × Obj))} {nv : Nat} {K : V → St → Prop}
    (hk1 : n < 1 → K (.tup [.sl .nil 0 [] [], .int .i64 2]) ⟨L, nv⟩)
    (hk2 : ¬ n < 1 → ∀ qs A vb nv', BatA L L.length vb qs A → (qs.map (·.l)).flatten = l → Chunks n (qs.map (·.l)) false → K (.tup [.msl L.length vb 0 qs.length, .int .i64 0]) ⟨A, nv'⟩) :
    ACalls P n_vacuum_Batches [.sl .unk 2 (l.map cSpot) [], .int .i64 n] ⟨L, nv⟩ K := by
  refine A_vacuum_Batches h.batches ?_
  unfold F_vacuum_Batches
  simp
  by_cases h1 : n < 1
  · simp [h1]
    exact GhostV.refl (by simpa using hk1 h1)
  · simp [h1]
    refine ⟨BatI l n L L.length, ⟨l.length, GhostV.nil1 1 (by decide) ⟨l, [], L ++ [some (nv, .mem 1 [])], nv, nv + 1, rfl, hl, by simpa using hl, rfl, rfl, ⟨rfl, by simp, by simp, fun q hq => (by cases hq), List.nodup_nil⟩, by simp, ⟨fun x hx => by simp at hx, fun i x hx => by simp at hx⟩, rfl⟩⟩, ?_⟩
    rintro _ v6 v7 st ⟨rest, qs, A, vb, nv1, rfl, hr, hqr, rfl, rfl, hA, hfl, hch, rfl⟩
    by_cases hz : rest = []
    · subst hz
      simp
      refine GhostV.refl ?_
      have := hk2 h1 qs A vb nv1 hA (by simpa using hfl) (by simpa using hch)
      simpa using this
    · have hpos : 0 < rest.length := List.length_pos_iff.2 hz
      obtain ⟨m, hm⟩ : ∃ m : Nat, (if (rest.length : Int) < n then (rest.length : Int) else n) = m := ⟨(if (rest.length : Int) < n then (rest.length : Int) else n).toNat, by split <;> omega⟩
      have hml : m ≤ rest.length := by split at hm <;> omega
      have hm0 : 0 < m := by split at hm <;> omega
      have hmm : min m rest.length = m := by omega
      have htk : (rest.take m).length = m := by simp; omega
      have htm : List.take m (rest.map cSpot) = (rest.take m).map cSpot := by rw [List.map_take]
      have hdm : List.drop m (rest.map cSpot) = (rest.drop m).map cSpot := by rw [List.map_drop]
      have hm0' : ¬ m = 0 := by omega
      have hsl : sliceV ⟨A, nv1⟩ 2 (.sl .unk 2 (rest.map cSpot) []) none (some (.int .i64 (m : Int))) (some (.int .i64 (m : Int))) = some (.sl .nn 2 ((rest.take m).map cSpot) []) := by
        simp [sliceV, bounds, V.asInt, hml, hz, hm0']
      simp [hpos, hm, hml, hmm, hz, hsl]
      rw [htm]
      refine inv_f0 (ACalls.le (Clone_Spot h.cloneS (rest.take m) (by omega) (by intro e; rw [e] at htk; simp at htk; omega) ?_) (.cons .slk .nil))
      have f1 : ∀ R, (A ++ R)[L.length]? = _ := fun R => getB hA.out
      have f2 : ∀ R x, (A ++ R).set L.length x = A.set L.length x ++ R := fun R x => setB hA.out
      simp [f1, f2, htk, hml]
      have e1 : List.take (rest.length - m) (List.drop m (rest.map cSpot)) = (rest.drop m).map cSpot := by rw [List.take_of_length_le (by simp), List.map_drop]
      have hil := (List.getElem?_eq_some_iff.1 hA.out).1
      have hil2 := hA.il
      refine ⟨by omega, rest.length - m, by omega, ?_⟩
      rw [e1, htm]
      refine GhostV.le (.cons (.refl _) (.cons .slk .nil)) ?_
      refine ⟨rest.drop m, qs ++ [⟨A.length, nv1 + 1, rest.take m⟩], _, nv1 + 2 + 1, nv1 + 2 + 1 + 1, by simp, by simp; omega, by simp; omega, rfl, by simp, ⟨hA.il, ?_, ?_, ?_, ?_⟩, ?_, ⟨?_, ?_⟩, rfl⟩
      · rw [List.take_append_of_le_length (by simp; omega), List.take_set_of_le (Nat.le_refl _)]; exact hA.pre
      · refine getB ?_
        rw [List.getElem?_set_self hil]; simp [htk]
      · intro q hq
        rcases List.mem_append.1 hq with hq | hq
        · obtain ⟨h3, h4⟩ := hA.ins q hq
          exact ⟨h3, getB (by rw [List.getElem?_set_ne (by omega)]; exact h4)⟩
        · rw [List.mem_singleton.1 hq]
          exact ⟨hil, by simp⟩
      · rw [List.map_append]
        refine List.nodup_append.2 ⟨hA.nd, by simp, fun a ha b hb => ?_⟩
        obtain ⟨q, hq, rfl⟩ := List.mem_map.1 ha
        have := (List.getElem?_eq_some_iff.1 (hA.ins q hq).2).1
        simp at hb
        omega
      · rw [← hfl]; simp
      · intro x hx
        simp only [List.map_append, List.mem_append, List.map_cons, List.map_nil, List.mem_singleton] at hx
        rcases hx with hx | rfl
        · exact hch.sz x hx
        · refine ⟨by intro e; rw [e] at htk; simp at htk; omega, ?_⟩
          rw [htk]; split at hm <;> omega
      · intro i x hx hor
        simp only [List.map_append, List.map_cons, List.map_nil] at hx hor
        by_cases hlt : i < (qs.map (·.l)).length
        · rw [List.getElem?_append_left hlt] at hx
          exact hch.full i x hx (.inr (by simp [hz]))
        · rw [List.getElem?_append_right (by omega)] at hx
          have hi0 : i - (qs.map (·.l)).length = 0 := by
            have := (List.getElem?_eq_some_iff.1 hx).1; simp at this; simp; omega
          rw [hi0] at hx
          simp at hx; subst hx
          simp at hor
          rw [htk]
          split at hm
          · exfalso
            rcases hor with hor | hor
            · have hll : (qs.map (·.l)).length = qs.length := by simp
              omega
            · omega
          · omega
end Go.Proofs.Ytmgkjbphlbpbfaa.AM

namespace Go.Proofs.Ytmgkjbphlbpbfaa.AM
open Go
set_option linter.unusedVariables false
set_option linter.unusedSimpArgs false
variable {P : Program}

@[simp] def c32 (x : Nat) : List V := [.int .u32 x]
theorem p_32 (l : List Nat) : pureLL (l.map c32) = true := pureLL_map (fun _ => rfl) l
structure SpotsLawR (P : Program) : Prop extends WakeR P, SpotsR P where
  spot : R_vacuum_Spot P
  same : R_gazetteerlaw18_same P
def SpI (n : Nat) (q : Nat → Prop) (k : Nat) (v : V) (st : St) : Prop := ∃ i nv, k = n - i ∧ i ≤ n ∧ v = .int .i64 ((i : Nat) : Int) ∧ q i ∧ st = ⟨[], nv⟩
def SpJ (st : St) : Prop := ∃ nv, st = ⟨[], nv⟩
theorem Bor.rowS {st : St} {id ver : Nat} {l : List SpotT} (h : st.get id ver = some (.mem 2 (l.map cSpot))) : Bor st (.msl id ver 0 l.length) (.sl .unk 2 (l.map cSpot) []) :=
  .msl id ver 0 l.length 2 _ _ h (by simp) (by simp) (fun i hi => by rw [getD_map _ _ _ hi]; rfl) (fun i j hi hj => by rw [Nat.zero_add]; exact .refl _)
/-- What is left of the batches. -/
structure BatB (i0 vb : Nat) (qs : List Bt) (i : Nat) (A : List (Option (Nat × Obj))) : Prop where
  out : A[i0]? = some (some (vb, .mem 1 (qs.map cBt)))
  ins : ∀ j q, qs[j]? = some q → i ≤ j → 0 < q.id ∧ A[q.id]? = some (some (q.ver, .mem 2 (q.l.map cSpot)))
theorem chunks_len {n : Int} {qs : List Bt} {b : Bool} (h : Chunks n (qs.map (·.l)) b) (hl : (qs.map (·.l)).flatten.length ≤ 130) : qs.length ≤ 130 := by
  have key : ∀ ls : List (List SpotT), (∀ x ∈ ls, x ≠ []) → ls.length ≤ ls.flatten.length := by
    intro ls
    induction ls with
    | nil => intro _; simp
    | cons x ls ih =>
      intro hx
      have h1 := List.length_pos_iff.2 (hx x (by simp))
      have h2 := ih (fun y hy => hx y (by simp [hy]))
      simp only [List.flatten_cons, List.length_append, List.length_cons]; omega
  have := key (qs.map (·.l)) (fun x hx => (h.sz x hx).1)
  simp only [List.length_map] at this; omega
def Sp4 (qs : List Bt) (vb : Nat) (k : Nat) (v18 v115 : V) (st : St) : Prop := ∃ i A va nv all, k = qs.length - i ∧ i ≤ qs.length ∧ v115 = .int .i64 ((i : Nat) : Int) ∧ BatB 0 vb qs i A ∧ ((qs.take i).map (·.l)).flatten = all ∧ v18 = .msl A.length va 0 (all : List SpotT).length ∧ st = ⟨A ++ [some (va, .mem 2 (all.map cSpot))], nv⟩
def Sp5 (m : Nat) (x : Option (Nat × Obj)) (t : List (Option (Nat × Obj))) (p ver : Nat) (y : Option (Nat × Obj)) (k : Nat) (v : V) (st : St) : Prop := ∃ i nv rows, k = m - i ∧ i ≤ m ∧ v = .int .i64 ((i : Nat) : Int) ∧ m ≤ (rows : List (List V)).length ∧ (∀ j e, j < m → rows[j]? = some e → e.length = 2) ∧ st = ⟨x :: (t.set p (some (ver, .mem 2 rows)) ++ [y]), nv⟩
theorem vacuumSpots (h : SpotsLawR P) (l : List SpotT) (n : Int) (es : List Nat) (hn : -9223372036854775808 ≤ n ∧ n < 9223372036854775808) :
    PCalls P n_gazetteerlaw18_VacuumSpots [.sl .unk 2 (l.map cSpot) [], .int .i64 n, .sl .unk 1 (es.map c32) []] (fun r => r = .bool true) := by
  refine A_gazetteerlaw18_VacuumSpots h.law ?_
  unfold F_gazetteerlaw18_VacuumSpots
  simp [st0]
  refine inv_p (wakes18 h.toWakeR) (by simp) (by simp [pureL]) ?_
  rintro _ rfl
  simp
  refine inv_p (spots18 h.toSpotsR l) (by simp) (by simp [pureL, pureLL]) ?_
  rintro _ rfl
  have hs2 := spots18 h.toSpotsR (l.take 130)
  rw [List.take_take, Nat.min_self] at hs2
  generalize hF0 : l.take 130 = F0 at hs2 ⊢
  simp
  refine inv_p hs2 (by simp) (by simp [pureL, pureLL]) ?_
  rintro _ rfl
  subst hF0
  have hF : (l.take 130).length ≤ 130 := by simp; omega
  generalize l.take 130 = F at hF ⊢
  simp
  refine ⟨SpI F.length (fun _ => True), ⟨F.length, GhostV.refl ⟨0, 0, by simp, by simp, by simp, trivial, rfl⟩⟩, ?_⟩
  rintro k1 v st ⟨i, nv, rfl, hi, rfl, _, rfl⟩
  have e2 : IntKind.i64.wrap ((i : Int) + 1) = ((i + 1 : Nat) : Int) := by rw [wrap_i64 (by omega)]; omega
  by_cases hlt : i < F.length
  · obtain ⟨s, hs⟩ : ∃ s, s = F[i] := ⟨_, rfl⟩
    simp [hlt, ← hs]
    refine inv_p (Entry h.entry s) (by simp) (by simp [pureL, pureLL]) ?_
    rintro _ (⟨hno, rfl⟩ | ⟨hok, rfl⟩)
    · simp
      refine inv_p (rSpot18 h.toSpotsR s) (by simp) (by simp [pureL, pureLL]) ?_
      rintro _ rfl
      simp [hno]
      exact ⟨F.length - (i + 1), by omega, GhostV.bare ⟨i + 1, _, rfl, by omega, by rw [e2], trivial, rfl⟩⟩
    · simp
      refine inv_p (rSpot18 h.toSpotsR s) (by simp) (by simp [pureL, pureLL]) ?_
      rintro _ rfl
      simp [hok]
      refine inv_p (rEntry18 h.toSpotsR s hok) (by simp) (by simp [pureL, pureLL]) ?_
      rintro _ rfl
      have e3 : s.page * 4 + s.slot + 1 = 4 * s.page + s.slot + 1 := by omega
      simp [e3]
      exact ⟨F.length - (i + 1), by omega, GhostV.bare ⟨i + 1, _, rfl, by omega, by rw [e2], trivial, rfl⟩⟩
  · simp [hlt]
    refine ⟨SpJ, ?_, ?_⟩
    · simp
      refine ⟨SpI es.length (fun i => i ≤ 20), ⟨es.length, GhostV.refl ⟨0, nv, by simp, by simp, by simp, by decide, rfl⟩⟩, ?_⟩
      rintro k3 v59 st ⟨j, nv2, rfl, hj, rfl, hmax, rfl⟩
      have e3 : IntKind.i64.wrap ((j : Int) + 1) = ((j + 1 : Nat) : Int) := by rw [wrap_i64 (by omega)]; omega
      by_cases hlt2 : j < es.length
      · obtain ⟨x, hx⟩ : ∃ x, x = es[j] := ⟨_, rfl⟩
        simp [hlt2, ← hx]
        by_cases h20 : j = 20
        · subst h20
          simp
          exact GhostV.refl ⟨_, rfl⟩
        · have h20' : ¬ ((j : Int) = 20) := by omega
          simp [h20']
          refine inv_p (Spot h.spot x) (by simp) (by simp [pureL, pureLL]) ?_
          rintro _ (⟨hno, rfl⟩ | ⟨h1, h2, rfl⟩)
          · have nxt : ∀ nv', ∃ j_1, j_1 < es.length - j ∧ GhostV [.int .i64 (IntKind.i64.wrap ((j : Int) + 1))] ⟨[some (nv2, .mem 2 [[.int .i64 0, .int .i64 0]])], nv'⟩ (app (n := 1) (SpI es.length (fun i => i ≤ 20) j_1)) := fun nv' => ⟨es.length - (j + 1), by omega, GhostV.bare ⟨j + 1, _, rfl, by omega, by rw [e3], show j + 1 ≤ 20 by omega, rfl⟩⟩
            by_cases h0 : x = 0
            · simp [h0]
              exact nxt _
            · have h128 : (128 : Int) < x := by omega
              have h01 : ¬ ((x : Int) < 1) := by omega
              simp [h0, h01, h128]
              exact nxt _
          · have hok : spotOk ⟨((x : Int) - 1) / 4, ((x : Int) - 1) % 4⟩ := by unfold spotOk; simp only; omega
            have h128 : ¬ (128 : Int) < x := by omega
            have h01 : ¬ ((x : Int) < 1) := by omega
            have h0 : ¬ x = 0 := by omega
            simp [h0, h01, h128]
            refine inv_p (rSpot18 h.toSpotsR ⟨((x : Int) - 1) / 4, ((x : Int) - 1) % 4⟩) (by simp) (by simp [pureL, pureLL]) ?_
            rintro _ rfl
            simp [hok]
            refine inv_p (rEntry18 h.toSpotsR ⟨((x : Int) - 1) / 4, ((x : Int) - 1) % 4⟩ hok) (by simp) (by simp [pureL, pureLL]) ?_
            rintro _ rfl
            have e5 : 4 * (((x : Int) - 1) / 4) + ((x : Int) - 1) % 4 + 1 = x := by omega
            simp [e5]
            exact ⟨es.length - (j + 1), by omega, GhostV.bare ⟨j + 1, _, rfl, by omega, by rw [e3], show j + 1 ≤ 20 by omega, rfl⟩⟩
      · simp [hlt2]
        exact GhostV.refl ⟨_, rfl⟩
    · rintro st ⟨nv2, rfl⟩
      simp
      refine inv_f0 (Batches_N h.toSpotsR F n hF hn ?_ ?_)
      · intro h1
        simp [h1]
        exact GhostV.refl ⟨rfl, rfl⟩
      · intro h1 qs A vb nv3 hA hfl hch
        have hql : qs.length ≤ 130 := chunks_len hch (by rw [hfl]; exact hF)
        simp [h1]
        refine ⟨Sp4 qs vb, ⟨qs.length, GhostV.nil1 2 (by decide) ⟨0, A, nv3, nv3 + 1, [], rfl, by omega, rfl, ⟨by simpa using hA.out, fun j q hj _ => by simpa using hA.ins q (List.mem_of_getElem? hj)⟩, rfl, rfl, rfl⟩⟩, ?_⟩
        rintro k4 v18 v115 st ⟨i4, A4, va, nv4, all, rfl, hi4, rfl, hB, hall, rfl, rfl⟩
        have e4 : IntKind.i64.wrap ((i4 : Int) + 1) = ((i4 + 1 : Nat) : Int) := by rw [wrap_i64 (by have := hql; omega)]; omega
        by_cases hlt4 : i4 < qs.length
        · obtain ⟨q, hq⟩ : ∃ q, qs[i4]? = some q := ⟨qs[i4], List.getElem?_eq_getElem hlt4⟩
          obtain ⟨t, rfl⟩ : ∃ t, A4 = some (vb, .mem 1 (qs.map cBt)) :: t := by
            have := hB.out
            cases A4 with
            | nil => cases this
            | cons x t => simp at this; subst this; exact ⟨t, rfl⟩
          obtain ⟨hid0, hin⟩ := hB.ins i4 q hq (Nat.le_refl _)
          obtain ⟨p, hp⟩ : ∃ p, q.id = p + 1 := ⟨q.id - 1, by omega⟩
          have hin : t[p]? = some (some (q.ver, .mem 2 (q.l.map cSpot))) := by rw [hp] at hin; simpa using hin
          have f1 : ∀ R, (t ++ R)[p]? = _ := fun R => getB hin
          have f2 : ∀ R x, (t ++ R).set p x = t.set p x ++ R := fun R x => setB hin
          have hqm : q.l ∈ qs.map (·.l) := List.mem_map.2 ⟨q, List.mem_of_getElem? hq, rfl⟩
          obtain ⟨hne, hle⟩ := hch.sz q.l hqm
          have hgt : ¬ n < (q.l.length : Int) := by omega
          have hql2 : q.l.length ≤ 130 := by have := (List.sublist_flatten_of_mem hqm).length_le; rw [hfl] at this; omega
          have hqe : qs[i4] = q := by rw [List.getElem?_eq_getElem hlt4] at hq; simpa using hq
          have hfull : ¬ (i4 + 1 < qs.length ∧ ¬ (q.l.length : Int) = n) := by
            rintro ⟨h3, h4⟩
            exact h4 (hch.full i4 q.l (by simp [hq]) (.inl (by simpa using h3)))
          have h6 : (i4 : Int) + 1 < qs.length → (q.l.length : Int) = n := fun h => Classical.byContradiction fun hno => hfull ⟨by omega, hno⟩
          have hn0 : ¬ n = 0 := by omega
          by_cases h5 : (i4 : Int) + 1 < qs.length
          all_goals first | (have h7 : decide ((q.l.length : Int) = n) = true := decide_eq_true (h6 h5); simp [hlt4, hq, hqe, hp, f1, f2, hne, hgt, e4, h5, h7]) | simp [hlt4, hq, hqe, hp, f1, f2, hne, hgt, e4, h5]
          all_goals
            have hall3 : all.length ≤ 130 := by
              have h8 : (qs.map (·.l)).flatten.length = all.length + ((qs.drop i4).map (·.l)).flatten.length := by
                rw [← hall, ← List.length_append, ← List.flatten_append, ← List.map_append, List.take_append_drop]
              rw [hfl] at h8; omega
            refine ⟨by omega, Sp5 q.l.length (some (vb, .mem 1 (qs.map cBt))) t p q.ver (some (nv4, .mem 2 ((all ++ q.l).map cSpot))), ⟨q.l.length, GhostV.refl ⟨0, nv4 + 1, q.l.map cSpot, by simp, by simp, by simp, by simp, fun j e hj he => ?_, ?_⟩⟩, ?_⟩
            · obtain ⟨x, _, rfl⟩ := List.mem_map.1 (List.mem_of_getElem? he)
              rfl
            · rw [set_self hin, List.take_of_length_le (by simp)]; simp
            · rintro k5 v147 st ⟨i5, nv5, rows, rfl, hi5, rfl, hrl, hr2, rfl⟩
              have e5 : IntKind.i64.wrap ((i5 : Int) + 1) = ((i5 + 1 : Nat) : Int) := by rw [wrap_i64 (by omega)]; omega
              have hpl : p < t.length := (List.getElem?_eq_some_iff.1 hin).1
              have g1 : ∀ y R, (t.set p y ++ R)[p]? = some y := fun y R => getB (by rw [List.getElem?_set_self hpl])
              have g2 : ∀ y z R, (t.set p y ++ R).set p z = t.set p z ++ R := fun y z R => by rw [List.set_append_left _ _ (by simpa using hpl), List.set_set]
              by_cases hlt5 : i5 < q.l.length
              · have hqr : i5 < rows.length := by omega
                obtain ⟨e, he⟩ : ∃ e, rows[i5]? = some e := ⟨rows[i5], List.getElem?_eq_getElem hqr⟩
                have he2 := hr2 i5 e hlt5 he
                simp [hlt5, g1, g2, he, e5]
                refine ⟨by omega, q.l.length - (i5 + 1), by omega, GhostV.refl ⟨i5 + 1, nv5, rows.set i5 (.int .i64 99 :: e.tail), rfl, by omega, by simp, by simpa using hrl, fun j e' hj he' => ?_, by simp⟩⟩
                by_cases hqq : i5 = j
                · subst hqq
                  rw [List.getElem?_set_self hqr] at he'
                  simp only [Option.some.injEq] at he'
                  subst he'
                  simp; omega
                · rw [List.getElem?_set_ne hqq] at he'
                  exact hr2 j e' hj he'
              · simp [hlt5]
                refine ⟨qs.length - (i4 + 1), by omega, GhostV.refl ⟨i4 + 1, some (vb, .mem 1 (qs.map cBt)) :: t.set p (some (q.ver, .mem 2 rows)), nv4, nv5, all ++ q.l, rfl, by omega, by simp [e4], ⟨by simp, fun j q' hj hij => ?_⟩, ?_, by simp, by simp⟩⟩
                · obtain ⟨h9, h10⟩ := hB.ins j q' hj (by omega)
                  refine ⟨h9, ?_⟩
                  have hdiff : q'.id ≠ q.id := by
                    intro heq
                    have h11 : (qs.map (·.id))[j]? = some q'.id := by simp [hj]
                    have h12 : (qs.map (·.id))[i4]? = some q.id := by simp [hq]
                    have hjl := (List.getElem?_eq_some_iff.1 h11).1
                    have := (List.getElem?_inj (i := j) (j := i4) hjl hA.nd).1 (by rw [h11, h12, heq])
                    omega
                  obtain ⟨p', hp'⟩ : ∃ p', q'.id = p' + 1 := ⟨q'.id - 1, by omega⟩
                  rw [hp'] at h10 ⊢
                  simp at h10 ⊢
                  rw [List.getElem?_set_ne (by omega)]; exact h10
                · rw [← hall, take_snoc hlt4, hqe, List.map_append, List.flatten_append]; simp
        · simp [hlt4]
          have hall2 : all = F := by rw [← hall, List.take_of_length_le (by omega), hfl]
          subst hall2
          refine inv_look (same18 h.same all all (by omega)) (Bors.cons (Bor.rowS (by simp [St.get])) (Bors.cons (.refl _) Bors.nil)) (by simp [pureL, pureLL]) ?_
          rintro _ rfl
          refine ⟨rfl, ?_⟩
          simp
          refine inv_p (same18 h.same all all (by omega)) (by simp) (by simp [pureL, pureLL]) ?_
          rintro _ rfl
          simp
          exact GhostV.refl ⟨rfl, rfl⟩
end Go.Proofs.Ytmgkjbphlbpbfaa.AM
