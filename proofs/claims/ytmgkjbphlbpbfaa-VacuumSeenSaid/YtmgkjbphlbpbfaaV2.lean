/- vision: what became of transactions, who sees what. -/
import Derived.Test.YtmgkjbphlbpbfaaV1
namespace Go.Proofs.Ytmgkjbphlbpbfaa.AM
open Go
set_option linter.unusedVariables false
set_option linter.unusedSimpArgs false
variable {P : Program}

def Rising (l : List FateT) : Prop := l.Pairwise (fun a b => a.id < b.id)

theorem Rising.lt {l : List FateT} (h : Rising l) {i j : Nat} (hi : i < j) (hj : j < l.length) : l[i].id < l[j].id := List.pairwise_iff_getElem.1 h i j _ _ hi

theorem find_bs {l : List FateT} {id i : Nat} (hs : Rising l) (hb : BsOk l id i) : l.find? (fun x => x.id == id) = if h : i < l.length then (if l[i].id = id then some l[i] else none) else none := by
  obtain ⟨h1, h2, h3⟩ := hb
  have below : ∀ j (hj : j < l.length), j < i → l[j].id < id := by
    intro j hj hji
    have hi : i - 1 < l.length := by omega
    have := h2 (i - 1) hi (by omega)
    by_cases e : j = i - 1
    · subst e; exact this
    · have := hs.lt (show j < i - 1 by omega) hi; omega
  by_cases hi : i < l.length
  · rw [dif_pos hi]
    have h3 := h3 hi
    by_cases he : l[i].id = id
    · rw [if_pos he, List.find?_eq_some_iff_getElem]
      refine ⟨by simp [he], i, hi, rfl, fun j hj => ?_⟩
      have := below j (by omega) hj
      simp; omega
    · rw [if_neg he, List.find?_eq_none]
      intro x hx
      obtain ⟨j, hj, rfl⟩ := List.getElem_of_mem hx
      simp
      rcases Nat.lt_trichotomy j i with h | h | h
      · have := below j hj h; omega
      · subst h; exact he
      · have := hs.lt h hj; omega
  · rw [dif_neg hi, List.find?_eq_none]
    intro x hx
    obtain ⟨j, hj, rfl⟩ := List.getElem_of_mem hx
    have := below j hj (by omega)
    simp; omega

def fateS (f : FatesT) (id : Nat) : Nat × Bool × Bool :=
  if 0 < id ∧ id < f.first then (0, true, false)
  else match f.list.find? (fun x => x.id == id) with
    | none => (0, false, false)
    | some x => (x.number, decide (0 < x.number), decide (x.number = 0))

structure FateR (P : Program) : Prop where
  nan : R_cmp_isNaN_uint64 P
  cmp : R_cmp_Compare_uint64 P
  fate1 : R_vision_fate_1 P
  bs : R_slices_BinarySearchFunc_Fate_Fate_uint64 P
  fate : R_vision_fate P

theorem fate (h : FateR P) (f : FatesT) (id : Nat) (hl : f.list.length < 2 ^ 40) (hs : Rising f.list) :
    PCalls P n_vision_fate [.agg [.int .u64 f.first, .sl .unk 2 (f.list.map cFate) []], .int .u64 id] (fun r => r = .tup [.int .u64 (fateS f id).1, .bool (fateS f id).2.1, .bool (fateS f id).2.2]) := by
  refine A_vision_fate h.fate ?_
  unfold F_vision_fate
  simp [st0]
  by_cases h2 : 0 < id ∧ id < f.first
  · obtain ⟨h0, h1⟩ := h2
    simp [h0, h1]
    exact GhostV.refl (by simp [fateS, h0, h1])
  · have e0 : fateS f id = match f.list.find? (fun x => x.id == id) with | none => (0, false, false) | some x => (x.number, decide (0 < x.number), decide (x.number = 0)) := by unfold fateS; rw [if_neg h2]
    have go : ∀ {i : Nat}, BsOk f.list id i → (if h : i < f.list.length then (if f.list[i].id = id then some f.list[i] else none) else none) = f.list.find? (fun x => x.id == id) := fun hb => (find_bs hs hb).symm
    rw [e0]
    by_cases h0 : 0 < id
    · have h1 : ¬ id < f.first := fun h => h2 ⟨h0, h⟩
      simp [h0, h1]
      refine inv_p (bsearch h.bs h.fate1 h.cmp h.nan .unk f.list [] id hl) (by simp) (by simp [pureLL]) ?_
      rintro _ ⟨i, hb, rfl⟩
      rw [← go hb]
      by_cases hi : i < f.list.length
      · by_cases he : f.list[i].id = id
        · simp [fnd, hi, he]
          exact GhostV.refl (by simp)
        · simp [fnd, hi, he]
          exact GhostV.refl (by simp)
      · simp [fnd, hi]
        exact GhostV.refl (by simp)
    · simp [h0]
      refine inv_p (bsearch h.bs h.fate1 h.cmp h.nan .unk f.list [] id hl) (by simp) (by simp [pureLL]) ?_
      rintro _ ⟨i, hb, rfl⟩
      rw [← go hb]
      by_cases hi : i < f.list.length
      · by_cases he : f.list[i].id = id
        · simp [fnd, hi, he]
          exact GhostV.refl (by simp)
        · simp [fnd, hi, he]
          exact GhostV.refl (by simp)
      · simp [fnd, hi]
        exact GhostV.refl (by simp)

def countsS (f : FatesT) (e : EyeT) (id : Nat) : Bool :=
  if e.reads then (fateS f id).2.1 && decide ((fateS f id).1 ≤ e.snap) else (fateS f id).2.1 || (decide (0 < id) && decide (id = e.own))

@[simp] def vLook (f : FatesT) (e : EyeT) : V := .agg [.int .u64 e.own, .bool e.reads, .int .u64 e.snap, .int .u64 f.first, .sl .unk 2 (f.list.map cFate) []]
@[simp] def vFates (f : FatesT) : V := .agg [.int .u64 f.first, .sl .unk 2 (f.list.map cFate) []]

theorem counts (h : FateR P) (hR : R_vision_look_counts P) (f : FatesT) (e : EyeT) (id : Nat) (hl : f.list.length < 2 ^ 40) (hs : Rising f.list) :
    PCalls P n_vision_look_counts [vLook f e, .int .u64 id] (fun r => r = .bool (countsS f e id)) := by
  refine A_vision_look_counts hR ?_
  unfold F_vision_look_counts
  simp [st0]
  refine inv_p (fate h f id hl hs) (by simp) (by simp [pureLL]) ?_
  rintro _ rfl
  simp
  unfold countsS
  generalize fateS f id = z
  obtain ⟨n, d, o⟩ := z
  cases hr : e.reads
  · cases d
    · by_cases h0 : 0 < id
      · simp [hr, h0]; exact GhostV.refl (by simp)
      · simp [hr, h0]; exact GhostV.refl (by simp)
    · simp [hr]; exact GhostV.refl (by simp)
  · cases d
    · simp [hr]; exact GhostV.refl (by simp)
    · simp [hr]; exact GhostV.refl (by simp)

def seesS (f : FatesT) (e : EyeT) (t : TupleT) : Bool := countsS f e t.xmin && !countsS f e t.xmax

theorem sees (h : FateR P) (hc : R_vision_look_counts P) (hR : R_vision_look_sees P) (f : FatesT) (e : EyeT) (t : TupleT) (hl : f.list.length < 2 ^ 40) (hs : Rising f.list) :
    PCalls P n_vision_look_sees [vLook f e, .agg (cTuple t)] (fun r => r = .bool (seesS f e t)) := by
  refine A_vision_look_sees hR ?_
  unfold F_vision_look_sees
  simp [st0]
  refine inv_p (counts h hc f e t.xmin hl hs) (by simp) (by simp [pureLL]) ?_
  rintro _ rfl
  cases h1 : countsS f e t.xmin
  · simp; exact GhostV.refl (by simp [seesS, h1])
  · simp
    refine inv_p (counts h hc f e t.xmax hl hs) (by simp) (by simp [pureLL]) ?_
    rintro _ rfl
    simp; exact GhostV.refl (by simp [seesS, h1])

def boxS (k : KeyT) : Bool := decide (k.x0 ≤ k.x1) && decide (k.y0 ≤ k.y1)

theorem key_box (hR : R_key_box P) (k : KeyT) : PCalls P n_key_box [.agg (cKey k)] (fun r => r = .bool (boxS k)) := by
  refine A_key_box hR ?_
  unfold F_key_box
  simp [st0]
  by_cases h : k.x0 ≤ k.x1
  · simp [h]; exact GhostV.refl (by simp [boxS, h])
  · simp [h]; exact GhostV.refl (by simp [boxS, h])

theorem key_Check (hR : R_key_Check P) (hb : R_key_box P) (k : KeyT) : PCalls P n_key_Check [.int .i64 1, .agg (cKey k)] (fun r => r = .int .i64 (if boxS k then 0 else 2)) := by
  refine A_key_Check hR ?_
  unfold F_key_Check
  simp [st0]
  refine inv_p (key_box hb k) (by simp) (by simp) ?_
  rintro _ rfl
  refine ⟨fun v st => v = .bool (boxS k), ?_, ?_⟩
  · simp
    exact GhostV.refl rfl
  · rintro _ st rfl
    cases h : boxS k
    · simp; exact GhostV.refl (by simp)
    · simp; exact GhostV.refl (by simp)

/-- Is it a tuple? -/
def tupS (t : TupleT) : Bool := !(decide (t.row = 0) || decide (t.xmin = 0) || decide (4294967295 < t.xmin) || decide (4294967295 < t.xmax) || !boxS t.key)

theorem heap_Check (hR : R_heap_Check P) (hk : R_key_Check P) (hb : R_key_box P) (t : TupleT) : PCalls P n_heap_Check [.agg (cTuple t)] (fun r => r = .int .i64 (if tupS t then 0 else 200)) := by
  refine A_heap_Check hR ?_
  unfold F_heap_Check
  simp [st0]
  by_cases h1 : t.row = 0
  · simp [h1]; exact GhostV.refl (by simp [tupS, h1])
  by_cases h2 : t.xmin = 0
  · simp [h1, h2]; exact GhostV.refl (by simp [tupS, h1, h2])
  by_cases h3 : (4294967295 : Int) < t.xmin
  · have h3' : 4294967295 < t.xmin := by omega
    simp [h1, h2, h3]; exact GhostV.refl (by simp [tupS, h1, h2, h3'])
  by_cases h4 : (4294967295 : Int) < t.xmax
  · have h4' : 4294967295 < t.xmax := by omega
    simp [h1, h2, h3, h4]; exact GhostV.refl (by simp [tupS, h1, h2, h4'])
  have h3' : ¬ 4294967295 < t.xmin := by omega
  have h4' : ¬ 4294967295 < t.xmax := by omega
  simp [h1, h2, h3, h4]
  refine inv_p (key_Check hk hb t.key) (by simp) (by simp) ?_
  rintro _ rfl
  cases h : boxS t.key
  · simp; exact GhostV.refl (by simp [tupS, h1, h2, h3', h4', h])
  · simp; exact GhostV.refl (by simp [tupS, h1, h2, h3', h4', h])

end Go.Proofs.Ytmgkjbphlbpbfaa.AM
