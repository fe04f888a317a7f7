/- vision and vacuum: the functions, walked. -/
import Derived.Test.YtmgkjbphlbpbfaaAmG
import Derived.Test.YtmgkjbphlbpbfaaVCode
import Derived.IntWalk
namespace Go.Proofs.Ytmgkjbphlbpbfaa.AM
open Go
set_option linter.unusedVariables false
set_option linter.unusedSimpArgs false
variable {P : Program}

theorem isNaN_u64 (hR : R_cmp_isNaN_uint64 P) (a : Nat) : PCalls P n_cmp_isNaN_uint64 [.int .u64 a] (fun r => r = .bool false) := by
  refine A_cmp_isNaN_uint64 hR ?_
  unfold F_cmp_isNaN_uint64
  simp
  exact GhostV.refl (by simp)

def cmpN (a b : Nat) : Int := if a < b then -1 else if b < a then 1 else 0

theorem Compare_u64 (hR : R_cmp_Compare_uint64 P) (h1 : R_cmp_isNaN_uint64 P) (a b : Nat) : PCalls P n_cmp_Compare_uint64 [.int .u64 a, .int .u64 b] (fun r => r = .int .i64 (cmpN a b)) := by
  refine A_cmp_Compare_uint64 hR ?_
  unfold F_cmp_Compare_uint64
  simp
  refine inv_p (isNaN_u64 h1 a) rfl rfl ?_
  rintro _ rfl
  simp
  refine inv_p (isNaN_u64 h1 b) rfl rfl ?_
  rintro _ rfl
  simp
  repeat' ((first | refine cd (fun h => ?_) (fun h => ?_)); all_goals simp [h])
  all_goals (refine GhostV.refl ?_; simp_all [cmpN])
  all_goals omega

theorem fate_1 (hR : R_vision_fate_1 P) (h0 : R_cmp_Compare_uint64 P) (h1 : R_cmp_isNaN_uint64 P) (x : FateT) (id : Nat) : PCalls P n_vision_fate_1 [.agg (cFate x), .int .u64 id] (fun r => r = .int .i64 (cmpN x.id id)) := by
  refine A_vision_fate_1 hR ?_
  unfold F_vision_fate_1
  simp [st0]
  refine inv_p (Compare_u64 h0 h1 x.id id) rfl rfl ?_
  rintro _ rfl
  simp
  exact GhostV.refl (by simp)

/-- What a binary search finds. -/
def BsOk (l : List FateT) (id i : Nat) : Prop := i ≤ l.length ∧ (∀ j, (h : j < l.length) → j + 1 = i → l[j].id < id) ∧ ∀ h : i < l.length, id ≤ l[i].id

def fnd (l : List FateT) (i id : Nat) : Bool := match l[i]? with | some x => decide (x.id = id) | none => false

theorem bsearch (hR : R_slices_BinarySearchFunc_Fate_Fate_uint64 P) (hf : R_vision_fate_1 P) (h0 : R_cmp_Compare_uint64 P) (h1 : R_cmp_isNaN_uint64 P) (k : SK) (l : List FateT) (sp : List (List V)) (id : Nat) (hl : l.length < 2 ^ 40) :
    PCalls P n_slices_BinarySearchFunc_Fate_Fate_uint64 [.sl k 2 (l.map cFate) sp, .int .u64 id, .fn (.func n_vision_fate_1) [] []] (fun r => ∃ i : Nat, BsOk l id i ∧ r = .tup [.int .i64 i, .bool (fnd l i id)]) := by
  refine A_slices_BinarySearchFunc_Fate_Fate_uint64 hR ?_
  unfold F_slices_BinarySearchFunc_Fate_Fate_uint64
  simp [st0]
  refine ⟨fun k v9 v10 st => ∃ i j : Nat, k = j - i ∧ i ≤ j ∧ j ≤ l.length ∧ v9 = .int .i64 i ∧ v10 = .int .i64 j ∧ st = st0 ∧ (∀ q, (h : q < l.length) → q + 1 = i → l[q].id < id) ∧ ∀ h : j < l.length, id ≤ l[j].id,
    ⟨l.length, GhostV.refl ⟨0, l.length, by omega, by omega, by omega, by simp, by simp, rfl, by omega, by omega⟩⟩, ?_⟩
  rintro k1 v9 v10 st ⟨i, j, rfl, hij, hj, rfl, rfl, rfl, hlo, hhi⟩
  simp
  by_cases hlt : i < j
  · have e1 : IntKind.i64.wrap ((i : Int) + j) = (i : Int) + j := wrap_i64 (by omega)
    have e2 : IntKind.u64.wrap ((i : Int) + j) = (i : Int) + j := by simp [IntKind.wrap, IntKind.signed, IntKind.bits]; omega
    obtain ⟨m, hm0⟩ : ∃ m, m = (i + j) / 2 := ⟨_, rfl⟩
    have e3 : IntKind.i64.wrap (((i : Int) + j).fdiv 2) = m := by rw [Int.fdiv_eq_ediv_of_nonneg _ (by omega), wrap_i64 (by omega)]; omega
    have hm : m < l.length := by omega
    simp [hlt, e1, e2, e3, IntKind.bits, hm]
    refine inv_p (fate_1 hf h0 h1 l[m] id) (by simp) (by simp) ?_
    rintro _ rfl
    simp
    by_cases hc : l[m].id < id
    · have e4 : IntKind.i64.wrap ((m : Int) + 1) = ((m + 1 : Nat) : Int) := by rw [wrap_i64 (by omega)]; omega
      simp [cmpN, hc, e4]
      exact ⟨_, by omega, GhostV.refl ⟨m + 1, j, rfl, by omega, by omega, by simp, rfl, rfl, fun q hq hq' => by
        obtain rfl : q = m := by omega
        exact hc, hhi⟩⟩
    · have hc' : ¬ cmpN l[m].id id < 0 := by unfold cmpN; rw [if_neg hc]; split <;> omega
      simp [hc']
      exact ⟨_, by omega, GhostV.refl ⟨i, m, rfl, by omega, by omega, rfl, by simp, rfl, hlo, fun _ => by omega⟩⟩
  · obtain rfl : i = j := by omega
    simp
    have fin : ∀ b : Bool, b = fnd l i id → GhostV [.int .i64 i, .bool b] st0 fun vs st => (mkres vs).pure = true ∧ ∃ i, BsOk l id i ∧ mkres vs = .tup [.int .i64 i, .bool (fnd l i id)] := by
      rintro _ rfl
      exact GhostV.refl ⟨by simp, i, ⟨hj, hlo, hhi⟩, by simp⟩
    by_cases hl2 : i < l.length
    · simp [hl2]
      refine inv_p (fate_1 hf h0 h1 l[i] id) (by simp) (by simp) ?_
      rintro _ rfl
      simp [hl2]
      refine fin _ ?_
      have := hhi hl2
      by_cases he : l[i].id = id
      · simp [fnd, hl2, he, cmpN]
      · have : cmpN l[i].id id = 1 := by unfold cmpN; rw [if_neg (by omega), if_pos (by omega)]
        simp [fnd, hl2, he, this]
    · simp [hl2]
      exact fin _ (by simp [fnd, hl2])
end Go.Proofs.Ytmgkjbphlbpbfaa.AM

namespace Go.Proofs.Ytmgkjbphlbpbfaa.AM
open Go
set_option linter.unusedVariables false
set_option linter.unusedSimpArgs false
variable {P : Program}

def Rising (l : List FateT) : Prop := l.Pairwise (fun a b => a.id < b.id)

theorem Rising.lt {l : List FateT} (h : Rising l) {i j : Nat} (hi : i < j) (hj : j < l.length) : l[i].id < l[j].id := List.pairwise_iff_getElem.1 h i j _ _ hi

theorem find_bs {l : List FateT} {id i : Nat} (hs : Rising l) (hb : BsOk l id i) : l.find? (fun x => x.id == id) = if h : i < l.length then (if l[i].id = id then some l[i] else none) else none := by
  obtain ⟨h1, h2, h3⟩ := hb
  have below : ∀ j (hj : j < l.length), j < i → l[j].id < id := by
    intro j hj hji
    have hi : i - 1 < l.length := by omega
    have := h2 (i - 1) hi (by omega)
    by_cases e : j = i - 1
    · subst e; exact this
    · have := hs.lt (show j < i - 1 by omega) hi; omega
  by_cases hi : i < l.length
  · rw [dif_pos hi]
    have h3 := h3 hi
    by_cases he : l[i].id = id
    · rw [if_pos he, List.find?_eq_some_iff_getElem]
      refine ⟨by simp [he], i, hi, rfl, fun j hj => ?_⟩
      have := below j (by omega) hj
      simp; omega
    · rw [if_neg he, List.find?_eq_none]
      intro x hx
      obtain ⟨j, hj, rfl⟩ := List.getElem_of_mem hx
      simp
      rcases Nat.lt_trichotomy j i with h | h | h
      · have := below j hj h; omega
      · subst h; exact he
      · have := hs.lt h hj; omega
  · rw [dif_neg hi, List.find?_eq_none]
    intro x hx
    obtain ⟨j, hj, rfl⟩ := List.getElem_of_mem hx
    have := below j hj (by omega)
    simp; omega

def fateS (f : FatesT) (id : Nat) : Nat × Bool × Bool :=
  if 0 < id ∧ id < f.first then (0, true, false)
  else match f.list.find? (fun x => x.id == id) with
    | none => (0, false, false)
    | some x => (x.number, decide (0 < x.number), decide (x.number = 0))

structure FateR (P : Program) : Prop where
  nan : R_cmp_isNaN_uint64 P
  cmp : R_cmp_Compare_uint64 P
  fate1 : R_vision_fate_1 P
  bs : R_slices_BinarySearchFunc_Fate_Fate_uint64 P
  fate : R_vision_fate P

theorem fate (h : FateR P) (f : FatesT) (id : Nat) (hl : f.list.length < 2 ^ 40) (hs : Rising f.list) :
    PCalls P n_vision_fate [.agg [.int .u64 f.first, .sl .unk 2 (f.list.map cFate) []], .int .u64 id] (fun r => r = .tup [.int .u64 (fateS f id).1, .bool (fateS f id).2.1, .bool (fateS f id).2.2]) := by
  refine A_vision_fate h.fate ?_
  unfold F_vision_fate
  simp [st0]
  by_cases h2 : 0 < id ∧ id < f.first
  · obtain ⟨h0, h1⟩ := h2
    simp [h0, h1]
    exact GhostV.refl (by simp [fateS, h0, h1])
  · have e0 : fateS f id = match f.list.find? (fun x => x.id == id) with | none => (0, false, false) | some x => (x.number, decide (0 < x.number), decide (x.number = 0)) := by unfold fateS; rw [if_neg h2]
    have go : ∀ {i : Nat}, BsOk f.list id i → (if h : i < f.list.length then (if f.list[i].id = id then some f.list[i] else none) else none) = f.list.find? (fun x => x.id == id) := fun hb => (find_bs hs hb).symm
    rw [e0]
    by_cases h0 : 0 < id
    · have h1 : ¬ id < f.first := fun h => h2 ⟨h0, h⟩
      simp [h0, h1]
      refine inv_p (bsearch h.bs h.fate1 h.cmp h.nan .unk f.list [] id hl) (by simp) (by simp [pureLL]) ?_
      rintro _ ⟨i, hb, rfl⟩
      rw [← go hb]
      by_cases hi : i < f.list.length
      · by_cases he : f.list[i].id = id
        · simp [fnd, hi, he]
          exact GhostV.refl (by simp)
        · simp [fnd, hi, he]
          exact GhostV.refl (by simp)
      · simp [fnd, hi]
        exact GhostV.refl (by simp)
    · simp [h0]
      refine inv_p (bsearch h.bs h.fate1 h.cmp h.nan .unk f.list [] id hl) (by simp) (by simp [pureLL]) ?_
      rintro _ ⟨i, hb, rfl⟩
      rw [← go hb]
      by_cases hi : i < f.list.length
      · by_cases he : f.list[i].id = id
        · simp [fnd, hi, he]
          exact GhostV.refl (by simp)
        · simp [fnd, hi, he]
          exact GhostV.refl (by simp)
      · simp [fnd, hi]
        exact GhostV.refl (by simp)

def countsS (f : FatesT) (e : EyeT) (id : Nat) : Bool :=
  if e.reads then (fateS f id).2.1 && decide ((fateS f id).1 ≤ e.snap) else (fateS f id).2.1 || (decide (0 < id) && decide (id = e.own))

@[simp] def vLook (f : FatesT) (e : EyeT) : V := .agg [.int .u64 e.own, .bool e.reads, .int .u64 e.snap, .int .u64 f.first, .sl .unk 2 (f.list.map cFate) []]
@[simp] def vFates (f : FatesT) : V := .agg [.int .u64 f.first, .sl .unk 2 (f.list.map cFate) []]

theorem counts (h : FateR P) (hR : R_vision_look_counts P) (f : FatesT) (e : EyeT) (id : Nat) (hl : f.list.length < 2 ^ 40) (hs : Rising f.list) :
    PCalls P n_vision_look_counts [vLook f e, .int .u64 id] (fun r => r = .bool (countsS f e id)) := by
  refine A_vision_look_counts hR ?_
  unfold F_vision_look_counts
  simp [st0]
  refine inv_p (fate h f id hl hs) (by simp) (by simp [pureLL]) ?_
  rintro _ rfl
  simp
  unfold countsS
  generalize fateS f id = z
  obtain ⟨n, d, o⟩ := z
  cases hr : e.reads
  · cases d
    · by_cases h0 : 0 < id
      · simp [hr, h0]; exact GhostV.refl (by simp)
      · simp [hr, h0]; exact GhostV.refl (by simp)
    · simp [hr]; exact GhostV.refl (by simp)
  · cases d
    · simp [hr]; exact GhostV.refl (by simp)
    · simp [hr]; exact GhostV.refl (by simp)

def seesS (f : FatesT) (e : EyeT) (t : TupleT) : Bool := countsS f e t.xmin && !countsS f e t.xmax

theorem sees (h : FateR P) (hc : R_vision_look_counts P) (hR : R_vision_look_sees P) (f : FatesT) (e : EyeT) (t : TupleT) (hl : f.list.length < 2 ^ 40) (hs : Rising f.list) :
    PCalls P n_vision_look_sees [vLook f e, .agg (cTuple t)] (fun r => r = .bool (seesS f e t)) := by
  refine A_vision_look_sees hR ?_
  unfold F_vision_look_sees
  simp [st0]
  refine inv_p (counts h hc f e t.xmin hl hs) (by simp) (by simp [pureLL]) ?_
  rintro _ rfl
  cases h1 : countsS f e t.xmin
  · simp; exact GhostV.refl (by simp [seesS, h1])
  · simp
    refine inv_p (counts h hc f e t.xmax hl hs) (by simp) (by simp [pureLL]) ?_
    rintro _ rfl
    simp; exact GhostV.refl (by simp [seesS, h1])

def boxS (k : KeyT) : Bool := decide (k.x0 ≤ k.x1) && decide (k.y0 ≤ k.y1)

theorem key_box (hR : R_key_box P) (k : KeyT) : PCalls P n_key_box [.agg (cKey k)] (fun r => r = .bool (boxS k)) := by
  refine A_key_box hR ?_
  unfold F_key_box
  simp [st0]
  by_cases h : k.x0 ≤ k.x1
  · simp [h]; exact GhostV.refl (by simp [boxS, h])
  · simp [h]; exact GhostV.refl (by simp [boxS, h])

theorem key_Check (hR : R_key_Check P) (hb : R_key_box P) (k : KeyT) : PCalls P n_key_Check [.int .i64 1, .agg (cKey k)] (fun r => r = .int .i64 (if boxS k then 0 else 2)) := by
  refine A_key_Check hR ?_
  unfold F_key_Check
  simp [st0]
  refine inv_p (key_box hb k) (by simp) (by simp) ?_
  rintro _ rfl
  refine ⟨fun v st => v = .bool (boxS k), ?_, ?_⟩
  · simp
    exact GhostV.refl rfl
  · rintro _ st rfl
    cases h : boxS k
    · simp; exact GhostV.refl (by simp)
    · simp; exact GhostV.refl (by simp)

/-- Is it a tuple? -/
def tupS (t : TupleT) : Bool := !(decide (t.row = 0) || decide (t.xmin = 0) || decide (4294967295 < t.xmin) || decide (4294967295 < t.xmax) || !boxS t.key)

theorem heap_Check (hR : R_heap_Check P) (hk : R_key_Check P) (hb : R_key_box P) (t : TupleT) : PCalls P n_heap_Check [.agg (cTuple t)] (fun r => r = .int .i64 (if tupS t then 0 else 200)) := by
  refine A_heap_Check hR ?_
  unfold F_heap_Check
  simp [st0]
  by_cases h1 : t.row = 0
  · simp [h1]; exact GhostV.refl (by simp [tupS, h1])
  by_cases h2 : t.xmin = 0
  · simp [h1, h2]; exact GhostV.refl (by simp [tupS, h1, h2])
  by_cases h3 : (4294967295 : Int) < t.xmin
  · have h3' : 4294967295 < t.xmin := by omega
    simp [h1, h2, h3]; exact GhostV.refl (by simp [tupS, h1, h2, h3'])
  by_cases h4 : (4294967295 : Int) < t.xmax
  · have h4' : 4294967295 < t.xmax := by omega
    simp [h1, h2, h3, h4]; exact GhostV.refl (by simp [tupS, h1, h2, h4'])
  have h3' : ¬ 4294967295 < t.xmin := by omega
  have h4' : ¬ 4294967295 < t.xmax := by omega
  simp [h1, h2, h3, h4]
  refine inv_p (key_Check hk hb t.key) (by simp) (by simp) ?_
  rintro _ rfl
  cases h : boxS t.key
  · simp; exact GhostV.refl (by simp [tupS, h1, h2, h3', h4', h])
  · simp; exact GhostV.refl (by simp [tupS, h1, h2, h3', h4', h])

end Go.Proofs.Ytmgkjbphlbpbfaa.AM

namespace Go.Proofs.Ytmgkjbphlbpbfaa.AM
open Go
set_option linter.unusedVariables false
set_option linter.unusedSimpArgs false
variable {P : Program}

def FOk (first : Nat) (l : List FateT) : Prop := (∀ x ∈ l, first ≤ x.id) ∧ l.Pairwise (fun a b => a.id < b.id) ∧ l.Pairwise (fun a b => b.number = 0 ∨ a.number ≠ b.number)
def FatesOk (f : FatesT) : Prop := 0 < f.first ∧ f.list.length ≤ 256 ∧ FOk f.first f.list

theorem FOk.snoc {first : Nat} {l : List FateT} {x : FateT} : FOk first (l ++ [x]) ↔ FOk first l ∧ first ≤ x.id ∧ (∀ a ∈ l, a.id < x.id) ∧ (∀ a ∈ l, x.number = 0 ∨ a.number ≠ x.number) := by
  unfold FOk
  simp only [List.mem_append, List.mem_singleton, List.pairwise_append, List.pairwise_singleton, List.forall_mem_singleton, true_and, forall_eq_or_imp, forall_eq]
  constructor
  · rintro ⟨h1, ⟨h2, h3⟩, h4, h5⟩
    exact ⟨⟨fun x hx => h1 x (.inl hx), h2, h4⟩, h1 _ (.inr rfl), fun a ha => h3 a ha, fun a ha => h5 a ha⟩
  · rintro ⟨⟨h1, h2, h4⟩, h6, h3, h5⟩
    refine ⟨?_, ⟨h2, ?_⟩, h4, ?_⟩
    · rintro y (hy | rfl)
      · exact h1 y hy
      · exact h6
    · rintro a ha; exact h3 a ha
    · rintro a ha; exact h5 a ha

theorem FOk.take {first : Nat} {l : List FateT} {i : Nat} (h : FOk first l) : FOk first (l.take i) :=
  ⟨fun x hx => h.1 x (List.mem_of_mem_take hx), h.2.1.sublist (List.take_sublist _ _), h.2.2.sublist (List.take_sublist _ _)⟩


def entN (m : Nat) : V × V := (.int .u64 m, .bool true)

theorem mfind_nat (n : Nat) : ∀ (ks : List Nat) (i : Nat), mfind (.one .int) (.int .u64 n) (ks.map entN) i = some (if n ∈ ks then some (i + ks.idxOf n, .bool true) else none)
  | [], i => by simp [mfind]
  | m :: ks, i => by
    have e : keyEq (.one .int) (.int .u64 n) (entN m).1 = some (decide (n = m)) := by
      by_cases h : n = m
      · subst h; simp [keyEq, eqL, entN]
      · have : ¬ (n : Int) = m := by omega
        simp [keyEq, eqL, entN, h, this]
    simp only [List.map_cons]
    have key : mfind (.one .int) (.int .u64 n) (entN m :: ks.map entN) i = match keyEq (.one .int) (.int .u64 n) (entN m).1 with
      | some true => some (some (i, (entN m).2))
      | some false => mfind (.one .int) (.int .u64 n) (ks.map entN) (i + 1)
      | none => none := rfl
    rw [key, e]
    by_cases h : n = m
    · subst h; simp [entN, List.idxOf_cons]
    · simp only [h, decide_false, mfind_nat n ks (i + 1)]
      have hm : (m == n) = false := by simpa using fun e => h e.symm
      by_cases hk : n ∈ ks
      · simp [hk, List.idxOf_cons, hm]; omega
      · simp [hk, h]

theorem setSame {n : Nat} {ks : List Nat} (h : n ∈ ks) : (ks.map entN).set (ks.idxOf n) ((.int .u64 n : V), (.bool true : V)) = ks.map entN := by
  apply List.ext_getElem?
  intro j
  by_cases e : ks.idxOf n = j
  · subst e
    have hl := List.idxOf_lt_length_of_mem h
    rw [List.getElem?_set_self (by simpa using hl), List.getElem?_map, List.getElem?_eq_getElem hl]
    simp [entN]
  · rw [List.getElem?_set_ne e]

theorem keysNew {l : List FateT} {x : FateT} {ks : List Nat} (h : ∀ n, n ∈ ks ↔ ∃ x ∈ l, x.number = n) (hk : x.number ∉ ks) : ∀ n, n ∈ ks ++ [x.number] ↔ ∃ y ∈ l ++ [x], y.number = n := by
  intro n
  simp only [List.mem_append, List.mem_singleton, h]
  constructor
  · rintro (⟨y, hy, e⟩ | rfl)
    · exact ⟨y, .inl hy, e⟩
    · exact ⟨x, .inr rfl, rfl⟩
  · rintro ⟨y, hy | rfl, e⟩
    · exact .inl ⟨y, hy, e⟩
    · exact .inr e.symm

theorem keysOld {l : List FateT} {x : FateT} {ks : List Nat} (h : ∀ n, n ∈ ks ↔ ∃ x ∈ l, x.number = n) (hk : x.number ∈ ks) : ∀ n, n ∈ ks ↔ ∃ y ∈ l ++ [x], y.number = n := by
  intro n
  constructor
  · intro hn
    obtain ⟨y, hy, e⟩ := (h n).1 hn
    exact ⟨y, by simp [hy], e⟩
  · rintro ⟨y, hy, e⟩
    simp at hy
    rcases hy with hy | rfl
    · exact (h n).2 ⟨y, hy, e⟩
    · rw [← e]; exact hk

def CheckR (f : FatesT) (r : V) : Prop := ∃ ok : Bool, r = .int .i64 (if ok then 0 else 270) ∧ (ok = true ↔ FatesOk f)

def CheckI (f : FatesT) (k : Nat) (v : V) (st : St) : Prop := ∃ (i nv ep : Nat) (ks : List Nat), k = f.list.length - i ∧ i ≤ f.list.length ∧ v = .int .i64 i ∧ 
      st = ⟨[some (0, .mem 2 [[.int .u64 f.first, .sl .unk 2 (f.list.map cFate) []]]), some (1, .map ep (ks.map entN))], nv⟩ ∧ (∀ n, n ∈ ks ↔ ∃ x ∈ f.list.take i, x.number = n) ∧ FOk f.first (f.list.take i)

theorem vis_Check (hR : R_vision_Check P) (f : FatesT) (hl : f.list.length < 2 ^ 40) : PCalls P n_vision_Check [vFates f] (CheckR f) := by
  refine A_vision_Check hR ?_
  unfold F_vision_Check
  simp [st0]
  by_cases h1 : (f.first : Int) < 1
  · have h1' : f.first = 0 := by omega
    simp [h1']
    exact GhostV.refl ⟨rfl, false, rfl, by simp [FatesOk, h1']⟩
  by_cases h2 : (256 : Int) < f.list.length
  · simp [h1, h2]
    exact GhostV.refl ⟨rfl, false, rfl, by simp [FatesOk]; omega⟩
  simp [h1, h2]
  refine ⟨CheckI f,
    ⟨f.list.length, GhostV.refl ⟨0, 3, 2, [], by simp, by simp, by simp, rfl, by simp, by simp [FOk]⟩⟩, ?_⟩
  rintro k1 v19 st ⟨i, nv, ep, ks, rfl, hi, rfl, rfl, hks, hok⟩
  by_cases hlt : i < f.list.length
  · have hsn := take_snoc hlt
    have bad' : ∀ st, ¬ FOk f.first (f.list.take (i + 1)) → GhostV [.int .i64 270] st (fun vs st => (mkres vs).pure = true ∧ CheckR f (mkres vs)) := fun st hb =>
      GhostV.refl ⟨rfl, false, rfl, by simp; exact fun h => hb h.2.2.take⟩
    simp only [hsn, FOk.snoc] at bad'
    simp [hlt]
    by_cases hA : f.list[i].id < f.first
    · simp [hA]
      exact bad' _ (fun h => by have := h.2.1; omega)
    · simp [hA]
      have hB : (0 < i → f.list[i - 1].id < f.list[i].id) ∨ (∃ h : 0 < i, ¬ f.list[i - 1].id < f.list[i].id) := by
        by_cases h : 0 < i → f.list[i - 1].id < f.list[i].id
        · exact .inl h
        · refine .inr ⟨?_, ?_⟩
          · exact Nat.pos_of_ne_zero (fun e => h (fun h' => by omega))
          · exact fun h' => h (fun _ => h')
      rcases hB with hB | ⟨h0, hB⟩
      · have e2 : IntKind.i64.wrap ((i : Int) + 1) = ((i + 1 : Nat) : Int) := by rw [wrap_i64 (by omega)]; omega
        have hall : ∀ a ∈ f.list.take i, a.id < f.list[i].id := by
          intro a ha
          obtain ⟨j, hj, rfl⟩ := List.mem_take_iff_getElem.1 ha
          have hr : Rising (f.list.take i) := hok.2.1
          have := hB (by omega)
          by_cases e : j = i - 1
          · subst e; exact this
          · have h3 := hr.lt (i := j) (j := i - 1) (by omega) (by simp; omega)
            simp at h3; omega
        by_cases h0 : 0 < i
        · have e1 : IntKind.i64.wrap ((i : Int) - 1) = ((i - 1 : Nat) : Int) := by rw [wrap_i64 (by omega)]; omega
          have hi1 : i - 1 < f.list.length := by omega
          have hB' : ¬ f.list[i].id ≤ f.list[i - 1].id := by have := hB h0; omega
          simp [hA, h0, e1, hi1, hB']
          by_cases hn : 0 < f.list[i].number
          · simp [hn, mfind_nat]
            by_cases hk : f.list[i].number ∈ ks
            · simp [hk]
              refine bad' _ (fun h => ?_)
              obtain ⟨x, hx, hx'⟩ := (hks _).1 hk
              have := h.2.2.2 x hx
              omega
            · simp [hk, mfind_nat, e2]
              exact ⟨f.list.length - (i + 1), by omega, GhostV.take 2 ⟨i + 1, _, _, ks ++ [f.list[i].number], rfl, by omega, by simp [e2], by simp [entN]; exact ⟨rfl, rfl⟩, by rw [hsn]; exact keysNew hks hk, by rw [hsn, FOk.snoc]; exact ⟨hok, by omega, hall, fun a ha => .inr fun e => hk ((hks _).2 ⟨a, ha, e⟩)⟩⟩⟩
          · simp [hn, mfind_nat, e2]
            by_cases hk : f.list[i].number ∈ ks
            · simp [hk]
              exact ⟨f.list.length - (i + 1), by omega, GhostV.take 2 ⟨i + 1, _, _, ks, rfl, by omega, by simp [e2], by simp [setSame hk]; exact ⟨rfl, rfl⟩, by rw [hsn]; exact keysOld hks hk, by rw [hsn, FOk.snoc]; exact ⟨hok, by omega, hall, fun a ha => .inl (by omega)⟩⟩⟩
            · simp [hk]
              exact ⟨f.list.length - (i + 1), by omega, GhostV.take 2 ⟨i + 1, _, _, ks ++ [f.list[i].number], rfl, by omega, by simp [e2], by simp [entN]; exact ⟨rfl, rfl⟩, by rw [hsn]; exact keysNew hks hk, by rw [hsn, FOk.snoc]; exact ⟨hok, by omega, hall, fun a ha => .inl (by omega)⟩⟩⟩
        · simp [hA, h0]
          by_cases hn : 0 < f.list[i].number
          · simp [hn, mfind_nat]
            by_cases hk : f.list[i].number ∈ ks
            · simp [hk]
              refine bad' _ (fun h => ?_)
              obtain ⟨x, hx, hx'⟩ := (hks _).1 hk
              have := h.2.2.2 x hx
              omega
            · simp [hk, mfind_nat, e2]
              exact ⟨f.list.length - (i + 1), by omega, GhostV.take 2 ⟨i + 1, _, _, ks ++ [f.list[i].number], rfl, by omega, by simp [e2], by simp [entN]; exact ⟨rfl, rfl⟩, by rw [hsn]; exact keysNew hks hk, by rw [hsn, FOk.snoc]; exact ⟨hok, by omega, hall, fun a ha => .inr fun e => hk ((hks _).2 ⟨a, ha, e⟩)⟩⟩⟩
          · simp [hn, mfind_nat, e2]
            by_cases hk : f.list[i].number ∈ ks
            · simp [hk]
              exact ⟨f.list.length - (i + 1), by omega, GhostV.take 2 ⟨i + 1, _, _, ks, rfl, by omega, by simp [e2], by simp [setSame hk]; exact ⟨rfl, rfl⟩, by rw [hsn]; exact keysOld hks hk, by rw [hsn, FOk.snoc]; exact ⟨hok, by omega, hall, fun a ha => .inl (by omega)⟩⟩⟩
            · simp [hk]
              exact ⟨f.list.length - (i + 1), by omega, GhostV.take 2 ⟨i + 1, _, _, ks ++ [f.list[i].number], rfl, by omega, by simp [e2], by simp [entN]; exact ⟨rfl, rfl⟩, by rw [hsn]; exact keysNew hks hk, by rw [hsn, FOk.snoc]; exact ⟨hok, by omega, hall, fun a ha => .inl (by omega)⟩⟩⟩
      · have e1 : IntKind.i64.wrap ((i : Int) - 1) = ((i - 1 : Nat) : Int) := by rw [wrap_i64 (by omega)]; omega
        have hi1 : i - 1 < f.list.length := by omega
        have hB' : f.list[i].id ≤ f.list[i - 1].id := by omega
        simp [hA, h0, e1, hi1, hB']
        refine bad' _ (fun h => ?_)
        have := h.2.2.1 f.list[i - 1] (List.mem_take_iff_getElem.2 ⟨i - 1, by omega, rfl⟩)
        omega
  · have : i = f.list.length := by omega
    subst this
    simp
    refine GhostV.refl ⟨rfl, true, rfl, by simp; exact ⟨by omega, by omega, by simpa using hok⟩⟩
end Go.Proofs.Ytmgkjbphlbpbfaa.AM

namespace Go.Proofs.Ytmgkjbphlbpbfaa.AM
open Go
set_option linter.unusedVariables false
set_option linter.unusedSimpArgs false
variable {P : Program}

structure VisR (P : Program) : Prop extends FateR P where
  counts : R_vision_look_counts P
  sees : R_vision_look_sees P
  box : R_key_box P
  key : R_key_Check P
  heap : R_heap_Check P
  check : R_vision_Check P
  Sees : R_vision_Sees P
  Dead : R_vision_Dead P

theorem FatesOk.rising {f : FatesT} (h : FatesOk f) : Rising f.list := h.2.2.2.1

/-- An answer about a tuple, or why there is none. -/
def AnsR (f : FatesT) (t : TupleT) (b : Bool) (r : V) : Prop :=
  (¬ FatesOk f ∧ r = .tup [.bool false, .int .i64 270]) ∨ (FatesOk f ∧ tupS t = false ∧ r = .tup [.bool false, .int .i64 200]) ∨ (FatesOk f ∧ tupS t = true ∧ r = .tup [.bool b, .int .i64 0])

theorem vis_Sees (h : VisR P) (f : FatesT) (e : EyeT) (t : TupleT) (hl : f.list.length < 2 ^ 40) : PCalls P n_vision_Sees [vFates f, .agg (cEye e), .agg (cTuple t)] (AnsR f t (seesS f e t)) := by
  refine A_vision_Sees h.Sees ?_
  unfold F_vision_Sees
  simp [st0]
  refine inv_p (vis_Check h.check f hl) (by simp) (by simp [pureLL]) ?_
  rintro _ ⟨ok, rfl, hok⟩
  cases ok
  · simp
    exact GhostV.refl ⟨rfl, .inl ⟨fun h => by simpa using hok.2 h, rfl⟩⟩
  · have hok := hok.1 rfl
    simp
    refine inv_p (heap_Check h.heap h.key h.box t) (by simp) (by simp) ?_
    rintro _ rfl
    cases ht : tupS t
    · simp
      exact GhostV.refl ⟨rfl, .inr (.inl ⟨hok, ht, rfl⟩)⟩
    · simp
      refine inv_p (sees h.toFateR h.counts h.sees f e t hl hok.rising) (by simp) (by simp [pureLL]) ?_
      rintro _ rfl
      simp
      exact GhostV.refl ⟨rfl, .inr (.inr ⟨hok, ht, rfl⟩)⟩

def deadS (f : FatesT) (hz : Nat) (t : TupleT) : Bool :=
  (!(fateS f t.xmin).2.1 && !(fateS f t.xmin).2.2) || ((fateS f t.xmax).2.1 && decide ((fateS f t.xmax).1 ≤ hz))

theorem vis_Dead (h : VisR P) (f : FatesT) (hz : Nat) (t : TupleT) (hl : f.list.length < 2 ^ 40) : PCalls P n_vision_Dead [vFates f, .int .u64 hz, .agg (cTuple t)] (AnsR f t (deadS f hz t)) := by
  refine A_vision_Dead h.Dead ?_
  unfold F_vision_Dead
  simp [st0]
  refine inv_p (vis_Sees h f ⟨0, false, 0⟩ t hl) (by simp) (by simp [pureLL]) ?_
  rintro _ (⟨h1, rfl⟩ | ⟨h1, ht, rfl⟩ | ⟨h1, ht, rfl⟩)
  · simp
    exact GhostV.refl ⟨rfl, .inl ⟨h1, rfl⟩⟩
  · simp
    exact GhostV.refl ⟨rfl, .inr (.inl ⟨h1, ht, rfl⟩)⟩
  · simp
    refine inv_p (fate h.toFateR f t.xmin hl h1.rising) (by simp) (by simp [pureLL]) ?_
    rintro _ rfl
    simp
    refine inv_p (fate h.toFateR f t.xmax hl h1.rising) (by simp) (by simp [pureLL]) ?_
    rintro _ rfl
    simp
    have fin : ∀ b : Bool, b = deadS f hz t → ∀ st, GhostV [.bool b, .int .i64 0] st fun vs st => (mkres vs).pure = true ∧ AnsR f t (deadS f hz t) (mkres vs) := by
      rintro _ rfl st
      exact GhostV.refl ⟨rfl, .inr (.inr ⟨h1, ht, rfl⟩)⟩
    unfold deadS at fin ⊢
    generalize fateS f t.xmin = a at *
    generalize fateS f t.xmax = b at *
    obtain ⟨a1, a2, a3⟩ := a
    obtain ⟨b1, b2, b3⟩ := b
    cases a2 <;> cases a3 <;> cases b2 <;> simp at fin ⊢ <;> exact fin _
end Go.Proofs.Ytmgkjbphlbpbfaa.AM

namespace Go.Proofs.Ytmgkjbphlbpbfaa.AM
open Go
set_option linter.unusedVariables false
set_option linter.unusedSimpArgs false
variable {P : Program}

def IndexR (l : List SpotT) (s : SpotT) (r : V) : Prop := ∃ n : Int, r = .int .i64 n ∧ (0 ≤ n ↔ s ∈ l)
def IndexI (l : List SpotT) (s : SpotT) (k : Nat) (v : V) (st : St) : Prop := ∃ i nv, k = l.length - i ∧ i ≤ l.length ∧ v = .int .i64 i ∧ st = ⟨[some (0, .mem 2 [cSpot s])], nv⟩ ∧ s ∉ l.take i

theorem Index_Spot (hR : R_slices_Index_Spot_Spot P) (l : List SpotT) (s : SpotT) (hl : l.length < 2 ^ 47) : PCalls P n_slices_Index_Spot_Spot [.sl .unk 2 (l.map cSpot) [], .agg (cSpot s)] (IndexR l s) := by
  refine A_slices_Index_Spot_Spot hR ?_
  unfold F_slices_Index_Spot_Spot
  simp [st0]
  refine ⟨IndexI l s, ⟨l.length, GhostV.refl ⟨0, 1, by simp, by simp, by simp, by simp, by simp⟩⟩, ?_⟩
  rintro k1 v8 st ⟨i, nv, rfl, hi, rfl, rfl, hn⟩
  by_cases hlt : i < l.length
  · simp [hlt]
    by_cases he : s = l[i]
    · simp [← he]
      exact GhostV.refl ⟨rfl, i, rfl, by simp; rw [he]; exact List.getElem_mem hlt⟩
    · have he' : ¬ (s.page = l[i].page ∧ s.slot = l[i].slot) := fun h => he (by obtain ⟨a, b⟩ := s; generalize l[i] = x at h; obtain ⟨c, d⟩ := x; simp at h; simp [h.1, h.2])
      have e2 : IntKind.i64.wrap ((i : Int) + 1) = ((i + 1 : Nat) : Int) := by rw [wrap_i64 (by omega)]; omega
      have go : ∃ j, j < l.length - i ∧ GhostV [.int .i64 (IntKind.i64.wrap ((i : Int) + 1))] ⟨[some (0, .mem 2 [cSpot s])], nv⟩ (app (n := 1) (IndexI l s j)) :=
        ⟨l.length - (i + 1), by omega, GhostV.refl ⟨i + 1, nv, rfl, by omega, by rw [e2], rfl, fun h => by
          rw [take_snoc hlt, List.mem_append] at h
          rcases h with h | h
          · exact hn h
          · exact he (by simpa using h)⟩⟩
      by_cases hp : s.page = l[i].page
      · have hs : ¬ s.slot = l[i].slot := fun h => he' ⟨hp, h⟩
        simp [hp, hs]
        simpa [hp] using go
      · simp [hp]
        exact go
  · simp [hlt]
    exact GhostV.refl ⟨rfl, -1, rfl, by simp; rwa [List.take_of_length_le (by omega)] at hn⟩

theorem Contains_Spot (hI : R_slices_Index_Spot_Spot P) (hR : R_slices_Contains_Spot_Spot P) (l : List SpotT) (s : SpotT) (hl : l.length < 2 ^ 47) : PCalls P n_slices_Contains_Spot_Spot [.sl .unk 2 (l.map cSpot) [], .agg (cSpot s)] (fun r => r = .bool (decide (s ∈ l))) := by
  refine A_slices_Contains_Spot_Spot hR ?_
  unfold F_slices_Contains_Spot_Spot
  simp [st0]
  refine inv_p (Index_Spot hI l s hl) (by simp) (by simp [pureLL]) ?_
  rintro _ ⟨n, rfl, hn⟩
  simp
  exact GhostV.refl (by simp [hn])

theorem Left_1 (hI : R_slices_Index_Spot_Spot P) (hC : R_slices_Contains_Spot_Spot P) (hR : R_vacuum_Left_1 P) (gone : List SpotT) (x : StoredT) (hl : gone.length < 2 ^ 47) :
    PCalls P n_vacuum_Left_1 [.agg (cStored x), .eptr [.sl .unk 2 (gone.map cSpot) []] 0] (fun r => r = .bool (decide (x.spot ∈ gone))) := by
  refine A_vacuum_Left_1 hR ?_
  unfold F_vacuum_Left_1
  simp [st0]
  refine inv_p (Contains_Spot hI hC gone x.spot hl) (by simp) (by simp [pureLL]) ?_
  rintro _ rfl
  simp
  exact GhostV.refl (by simp)

def fIdx (p : StoredT → Bool) (l : List StoredT) : Int := match l.findIdx? p with | some i => i | none => -1
def IdxI (p : StoredT → Bool) (l : List StoredT) (k : Nat) (v : V) (st : St) : Prop := ∃ i nv, k = l.length - i ∧ i ≤ l.length ∧ v = .int .i64 i ∧ st = ⟨[], nv⟩ ∧ ∀ x ∈ l.take i, p x = false

theorem IndexFunc (hR : R_slices_IndexFunc_Stored_Stored P) {k : FuncId} {first cap : List V} {p : StoredT → Bool} (l : List StoredT) (hl : l.length < 2 ^ 43) (h1 : pureL first = true) (h2 : pureL cap = true)
    (hf : ∀ x, PCalls P k (first ++ [.agg (cStored x)] ++ cap) (fun r => r = .bool (p x))) : PCalls P n_slices_IndexFunc_Stored_Stored [.sl .unk 10 (l.map cStored) [], .fn (.func k) first cap] (fun r => r = .int .i64 (fIdx p l)) := by
  refine A_slices_IndexFunc_Stored_Stored hR ?_
  unfold F_slices_IndexFunc_Stored_Stored
  simp [st0]
  refine ⟨IdxI p l, ⟨l.length, GhostV.refl ⟨0, 0, by simp, by simp, by simp, by simp, by simp⟩⟩, ?_⟩
  rintro k1 v8 st ⟨i, nv, rfl, hi, rfl, rfl, hn⟩
  by_cases hlt : i < l.length
  · simp [hlt]
    refine inv_p (hf l[i]) (by simp) (by simp [pureL_append, h1, h2, pureL]) ?_
    rintro _ rfl
    cases hp : p l[i]
    · have e2 : IntKind.i64.wrap ((i : Int) + 1) = ((i + 1 : Nat) : Int) := by rw [wrap_i64 (by omega)]; omega
      simp
      exact ⟨l.length - (i + 1), by omega, GhostV.refl ⟨i + 1, nv, rfl, by omega, by rw [e2], rfl, fun x hx => by
        rw [take_snoc hlt, List.mem_append] at hx
        rcases hx with hx | hx
        · exact hn x hx
        · obtain rfl : x = l[i] := by simpa using hx
          exact hp⟩⟩
    · simp
      refine GhostV.refl ⟨rfl, ?_⟩
      have : l.findIdx? p = some i := by
        rw [List.findIdx?_eq_some_iff_getElem]
        exact ⟨hlt, hp, fun j hj => by
          have := hn l[j] (List.mem_take_iff_getElem.2 ⟨j, by omega, rfl⟩)
          simp [this]⟩
      simp [fIdx, this]
  · simp [hlt]
    refine GhostV.refl ⟨rfl, ?_⟩
    have : l.findIdx? p = none := by
      rw [List.findIdx?_eq_none_iff]
      rwa [List.take_of_length_le (by omega)] at hn
    simp [fIdx, this]

theorem Clone_Stored (hR : R_slices_Clone_Stored_Stored P) (l : List StoredT) (hl : l.length < 2 ^ 40) {L : List (Option (Nat × Obj))} {nv : Nat} {K : V → St → Prop}
    (h1 : l = [] → K (.sl .nil 0 [] []) ⟨L, nv⟩) (h2 : K (.msl L.length (nv + 1) 0 l.length) ⟨L ++ [some (nv + 1, .mem 10 (l.map cStored))], nv + 2⟩) :
    ACalls P n_slices_Clone_Stored_Stored [.sl .unk 10 (l.map cStored) []] ⟨L, nv⟩ K := by
  refine A_slices_Clone_Stored_Stored hR ?_
  unfold F_slices_Clone_Stored_Stored
  cases l with
  | nil =>
    simp
    exact ⟨GhostV.refl (by simpa using h2), GhostV.refl (by simpa using h1 rfl)⟩
  | cons x l =>
    simp
    refine ⟨by simp at hl; omega, ?_⟩
    exact GhostV.refl (by simpa using h2)
end Go.Proofs.Ytmgkjbphlbpbfaa.AM

namespace Go.Proofs.Ytmgkjbphlbpbfaa.AM
open Go
set_option linter.unusedVariables false
set_option linter.unusedSimpArgs false
variable {P : Program}

/-- The rows while some are struck out: what is kept, what is left over, what is to come. -/
structure DelRows (p : StoredT → Bool) (l : List StoredT) (i j : Nat) (rows : List (List V)) : Prop where
  jl : j ≤ l.length
  ij : i < j
  kept : ((l.take j).filter (fun x => !p x)).length = i
  len : rows.length = l.length
  ten : ∀ e ∈ rows, e.length = 10
  lo : rows.take i = ((l.take j).filter (fun x => !p x)).map cStored
  hi : rows.drop j = (l.drop j).map cStored

theorem DelRows.get {p : StoredT → Bool} {l : List StoredT} {i j : Nat} {rows : List (List V)} (h : DelRows p l i j rows) (hj : j < l.length) : rows[j]? = some (cStored l[j]) := by
  have := congrArg (fun x => x[0]?) h.hi
  simp [hj] at this
  simpa using this

theorem DelRows.drop {p : StoredT → Bool} {l : List StoredT} {i j : Nat} {rows : List (List V)} (h : DelRows p l i j rows) (hj : j < l.length) (hp : p l[j] = true) : DelRows p l i (j + 1) rows where
  jl := hj
  ij := by have := h.ij; omega
  kept := by rw [take_snoc hj, List.filter_append]; simp [hp, h.kept]
  len := h.len
  ten := h.ten
  lo := by rw [take_snoc hj, List.filter_append]; simp [hp, h.lo]
  hi := by
    have := congrArg (List.drop 1) h.hi
    simpa [List.drop_drop, ← List.map_drop] using this

theorem DelRows.keep {p : StoredT → Bool} {l : List StoredT} {i j : Nat} {rows : List (List V)} (h : DelRows p l i j rows) (hj : j < l.length) (hp : p l[j] = false) : DelRows p l (i + 1) (j + 1) (rows.set i (cStored l[j])) where
  jl := hj
  ij := by have := h.ij; omega
  kept := by rw [take_snoc hj, List.filter_append]; simp [hp, h.kept]
  len := by simp [h.len]
  ten := by
    intro e he
    rcases List.mem_or_eq_of_mem_set he with h' | rfl
    · exact h.ten e h'
    · rfl
  lo := by
    have hi : i < rows.length := by have := h.ij; have := h.len; omega
    rw [take_snoc hj, List.filter_append, List.map_append, ← h.lo]
    have : (rows.set i (cStored l[j])).take (i + 1) = rows.take i ++ [cStored l[j]] := by
      rw [take_snoc (by simpa using hi), List.take_set_of_le (by omega)]; simp
    rw [this]; simp [hp]
  hi := by
    rw [List.drop_set_of_lt (by have := h.ij; omega)]
    have := congrArg (List.drop 1) h.hi
    simpa [List.drop_drop, ← List.map_drop] using this

def DelI (p : StoredT → Bool) (l : List StoredT) (L : List (Option (Nat × Obj))) (id ver : Nat) (k : Nat) (v5 v6 : V) (st : St) : Prop :=
  ∃ (i j nv : Nat) (rows : List (List V)), k = l.length - j ∧ v5 = .int .i64 i ∧ v6 = .int .i64 j ∧ st = ⟨L.set id (some (ver, .mem 10 rows)), nv⟩ ∧ DelRows p l i j rows

theorem DeleteFunc (hI : R_slices_IndexFunc_Stored_Stored P) (hR : R_slices_DeleteFunc_Stored_Stored P) {k : FuncId} {cap cap' : List V} {p : StoredT → Bool} (l : List StoredT) (hl : l.length < 2 ^ 43)
    (hpc : pureL cap' = true) (hf : ∀ x, PCalls P k ([.agg (cStored x)] ++ cap') (fun r => r = .bool (p x)))
    {L : List (Option (Nat × Obj))} {nv id ver : Nat} (hL : L[id]? = some (some (ver, .mem 10 (l.map cStored)))) (hcap : ∀ L' nv', (∀ j, j ≠ id → j < L.length → L'[j]? = L[j]?) → Bors ⟨L', nv'⟩ cap cap')
    {K : V → St → Prop} (hk : ∀ nv' rows, rows.take ((l.filter fun x => !p x).length) = (l.filter fun x => !p x).map cStored → (l.filter fun x => !p x).length ≤ rows.length → K (.msl id ver 0 (l.filter fun x => !p x).length) ⟨L.set id (some (ver, .mem 10 rows)), nv'⟩) :
    ACalls P n_slices_DeleteFunc_Stored_Stored [.msl id ver 0 l.length, .fn (.func k) [] cap] ⟨L, nv⟩ K := by
  have hid : id < L.length := (List.getElem?_eq_some_iff.1 hL).1
  have hrow : ∀ i, i < l.length → ((l.map cStored).getD i []).length = 10 := fun i hi => by rw [getD_map _ _ _ hi]; rfl
  have bslice : ∀ (st : St) rows, st.get id ver = some (.mem 10 rows) → rows = l.map cStored → Bor st (.msl id ver 0 l.length) (.sl .unk 10 (l.map cStored) []) := by
    intro st rows ho hr
    subst hr
    exact .msl id ver 0 l.length 10 _ _ ho (by simp) (by simp) (fun i hi => hrow i hi) (fun i j hi hj => by rw [Nat.zero_add]; exact .refl _)
  refine A_slices_DeleteFunc_Stored_Stored hR ?_
  unfold F_slices_DeleteFunc_Stored_Stored
  simp
  refine inv_look (IndexFunc hI (first := []) (cap := cap') (p := p) l hl rfl hpc (fun x => hf x)) ?_ (by simp [pureL, pureLL, hpc]) ?_
  · refine Bors.cons (bslice _ _ (by simp [St.get, hL]) rfl) (Bors.cons (.fn _ _ _ _ _ rfl (hcap L nv (fun _ _ _ => rfl)).1 (fun i hi => by simp at hi) (hcap L nv (fun _ _ _ => rfl)).2) Bors.nil)
  intro r hr
  refine ⟨by subst hr; rfl, ?_⟩
  cases hfi : l.findIdx? p with
  | none =>
    have hall : l.filter (fun x => !p x) = l := by
      rw [List.filter_eq_self]; rw [List.findIdx?_eq_none_iff] at hfi; intro x hx; simp [hfi x hx]
    have hr' : r = .int .i64 (-1) := by rw [hr]; simp [fIdx, hfi]
    clear hr; subst hr'
    simp
    refine GhostV.refl ?_
    have := hk nv (l.map cStored)
    rw [hall] at this
    have := this (by rw [List.take_of_length_le (by simp)]) (by simp)
    have e : L.set id (some (ver, .mem 10 (l.map cStored))) = L := by
      apply List.ext_getElem?
      intro j
      by_cases h : id = j
      · subst h; rw [List.getElem?_set_self hid, hL]
      · rw [List.getElem?_set_ne h]
    rw [e] at this
    simpa using this
  | some i0 =>
    obtain ⟨hi0, hp0, hlt0⟩ := List.findIdx?_eq_some_iff_getElem.1 hfi
    have hne : ¬ ((i0 : Int) = -1) := by omega
    have e1 : IntKind.i64.wrap ((i0 : Int) + 1) = ((i0 + 1 : Nat) : Int) := by rw [wrap_i64 (by omega)]; omega
    have hr' : r = .int .i64 i0 := by rw [hr]; simp [fIdx, hfi]
    clear hr; subst hr'
    simp [hne, e1]
    have htk : (l.take (i0 + 1)).filter (fun x => !p x) = l.take i0 := by
      rw [take_snoc hi0, List.filter_append]
      simp [hp0]
      intro x hx
      obtain ⟨j, hj, rfl⟩ := List.mem_take_iff_getElem.1 hx
      simpa using hlt0 j (by omega)
    have hLs : L.set id (some (ver, .mem 10 (l.map cStored))) = L := by
      apply List.ext_getElem?
      intro j
      by_cases h : id = j
      · subst h; rw [List.getElem?_set_self hid, hL]
      · rw [List.getElem?_set_ne h]
    refine ⟨DelI p l L id ver, ⟨l.length - (i0 + 1), GhostV.refl ⟨i0, i0 + 1, nv, l.map cStored, rfl, rfl, by simp, by rw [hLs], ⟨hi0, by omega, by rw [htk]; simp; omega, by simp, ?_, by rw [htk, List.map_take], by rw [List.map_drop]⟩⟩⟩, ?_⟩
    · intro e he
      obtain ⟨x, _, rfl⟩ := List.mem_map.1 he
      rfl
    rintro k1 v5 v6 st ⟨i, j, nv1, rows, rfl, rfl, rfl, rfl, hd⟩
    by_cases hj : j < l.length
    · have hir : i < rows.length := by have := hd.ij; have := hd.len; omega
      have hri : rows[i]? = some rows[i] := List.getElem?_eq_getElem hir
      have hr10 : rows[i].length = 10 := hd.ten _ (List.getElem_mem hir)
      have hjr : j < rows.length := by have := hd.len; omega
      have hrj : rows[j] = cStored l[j] := by have := hd.get hj; rw [List.getElem?_eq_getElem hjr] at this; simpa using this
      simp [hj, hid, hjr, hrj, hd.len]
      refine inv_look (hf l[j]) (Bors.cons (.refl _) (hcap _ _ (fun q hq hq' => ?_))) (by simp [pureL_append, pureL, hpc]) ?_
      · rw [List.getElem?_append_left (by simpa using hq'), List.getElem?_set_ne (Ne.symm hq)]
      rintro _ rfl
      refine ⟨rfl, ?_⟩
      have e2 : IntKind.i64.wrap ((i : Int) + 1) = ((i + 1 : Nat) : Int) := by rw [wrap_i64 (by have := hd.ij; omega)]; omega
      have e3 : IntKind.i64.wrap ((j : Int) + 1) = ((j + 1 : Nat) : Int) := by rw [wrap_i64 (by omega)]; omega
      have hil : i < l.length := by have := hd.ij; omega
      have hdr : List.drop 10 rows[i] = [] := List.drop_eq_nil_of_le (by omega)
      cases hp : p l[j]
      · simp [hid, hil, hir, hr10, hd.len, splice, hdr]
        have hk2 := hd.keep hj hp
        refine ⟨l.length - (j + 1), by omega, GhostV.take L.length ?_⟩
        simp
        show DelI p l L id ver _ _ _ _
        exact ⟨i + 1, j + 1, _, rows.set i (cStored l[j]), rfl, by rw [e2], by rw [e3], rfl, hk2⟩
      · simp
        have hk2 := hd.drop hj hp
        refine ⟨l.length - (j + 1), by omega, GhostV.take L.length ?_⟩
        simp
        show DelI p l L id ver _ _ _ _
        exact ⟨i, j + 1, _, rows, rfl, rfl, by rw [e3], rfl, hk2⟩
    · have hjl : j = l.length := by have := hd.jl; omega
      subst hjl
      have hlo := hd.lo
      have hkept := hd.kept
      rw [List.take_length] at hlo hkept
      have hij := hd.ij
      have hle : i ≤ l.length := by omega
      have hs : i + (l.length - i) = l.length := by omega
      simp [hid, hd.len, hle, hs]
      refine GhostV.refl ?_
      simp only [mkres1]
      rw [← hkept]
      refine hk _ _ ?_ ?_
      · rw [hkept, List.take_append_of_le_length (by simp [hd.len]; omega), List.take_take, Nat.min_self]; exact hlo
      · rw [hkept]; simp [hd.len]; omega
theorem DeleteNil (hI : R_slices_IndexFunc_Stored_Stored P) (hR : R_slices_DeleteFunc_Stored_Stored P) {k : FuncId} {cap cap' : List V} {p : StoredT → Bool}
    (hpc : pureL cap' = true) (hf : ∀ x, PCalls P k ([.agg (cStored x)] ++ cap') (fun r => r = .bool (p x)))
    {st : St} (hcap : Bors st cap cap') {K : V → St → Prop} (hk : K (.sl .nil 0 [] []) st) :
    ACalls P n_slices_DeleteFunc_Stored_Stored [.sl .nil 0 [] [], .fn (.func k) [] cap] st K := by
  refine A_slices_DeleteFunc_Stored_Stored hR ?_
  unfold F_slices_DeleteFunc_Stored_Stored
  simp
  have h0 := IndexFunc hI (first := []) (cap := cap') (p := p) [] (by simp) rfl hpc (fun x => hf x)
  refine inv_f0 (ACalls.le (h0.look (st := st) (args := [.sl .unk 10 [] [], .fn (.func k) [] cap]) (by simp [pureL, pureLL, hpc]) (Bors.cons (.refl _) (Bors.cons (.fn _ _ _ _ _ rfl hcap.1 (fun i hi => by simp at hi) hcap.2) Bors.nil)) ?_) (LeVs.cons (.nil _ _) (LeVs.refl _)))
  rintro _ rfl
  refine ⟨rfl, ?_⟩
  have : fIdx p [] = -1 := rfl
  simp [this]
  exact GhostV.refl hk

def leftS (l : List StoredT) (gone : List SpotT) : List StoredT := l.filter fun x => !decide (x.spot ∈ gone)

structure LeftR (P : Program) : Prop where
  idx : R_slices_Index_Spot_Spot P
  con : R_slices_Contains_Spot_Spot P
  fn : R_vacuum_Left_1 P
  idxf : R_slices_IndexFunc_Stored_Stored P
  del : R_slices_DeleteFunc_Stored_Stored P
  clone : R_slices_Clone_Stored_Stored P
  left : R_vacuum_Left P

theorem vac_Left (h : LeftR P) (l : List StoredT) (gone : List SpotT) (hl : l.length < 2 ^ 40) (hg : gone.length < 2 ^ 40) :
    PCalls P n_vacuum_Left [.sl .unk 10 (l.map cStored) [], .sl .unk 2 (gone.map cSpot) []] (fun r => r = .sl .unk 10 ((leftS l gone).map cStored) []) := by
  refine A_vacuum_Left h.left ?_
  unfold F_vacuum_Left
  simp [st0]
  have hf : ∀ x, PCalls P n_vacuum_Left_1 ([.agg (cStored x)] ++ [.eptr [.sl .unk 2 (gone.map cSpot) []] 0]) (fun r => r = .bool (decide (x.spot ∈ gone))) := fun x => Left_1 h.idx h.con h.fn gone x (by omega)
  refine inv_f0 (Clone_Stored h.clone l hl ?_ ?_)
  · rintro rfl
    simp
    refine inv_f0 (DeleteNil h.idxf h.del (by simp [pureL, pureLL]) hf (Bors.cons (.box1 (by simp [St.get])) Bors.nil) ?_)
    simp
    exact GhostV.le (LeVs.cons (.nil _ _) LeVs.nil) ⟨by simp [V.pure, pureLL], rfl⟩
  · simp
    refine inv_f0 (DeleteFunc h.idxf h.del (L := [some (0, .mem 1 [[.sl .unk 2 (gone.map cSpot) []]]), some (2, .mem 10 (l.map cStored))]) (cap := [.ptr 0 0 0 0]) l (by omega) (by simp [pureL, pureLL]) hf (by rfl) ?_ ?_)
    · intro L' nv' hL'
      have := hL' 0 (by decide) (by simp)
      exact Bors.cons (.box1 (by simp [St.get, this])) Bors.nil
    · intro nv' rows h1 h2
      simp
      refine GhostV.row1 (by simp [St.get]; exact ⟨rfl, rfl⟩) (by simpa using h2) ?_
      simp only [mkres1, List.drop_zero, h1]
      exact ⟨by simp [V.pure, pureLL], rfl⟩

end Go.Proofs.Ytmgkjbphlbpbfaa.AM

namespace Go.Proofs.Ytmgkjbphlbpbfaa.AM
open Go
set_option linter.unusedVariables false
set_option linter.unusedSimpArgs false
variable {P : Program}

theorem vac_dead (hR : R_vacuum_dead P) (f : FatesT) (hz : Nat) (l : List StoredT) {L : List (Option (Nat × Obj))} {nv : Nat} {K : V → St → Prop}
    {fv : V} {st' : St} (hv : fv = .fn (.func n_vacuum_dead_1) [] [.ptr (L.length + 2) (nv + 2) 0 0, .ptr L.length nv 0 0, .ptr (L.length + 1) (nv + 1) 0 0])
    (hs : st' = ⟨L ++ [some (nv, .mem 2 [[.int .u64 f.first, .sl .unk 2 (f.list.map cFate) []]]), some (nv + 1, .mem 1 [[.int .u64 hz]]), some (nv + 2, .mem 1 [[.sl .unk 10 (l.map cStored) []]])], nv + 3⟩) (hk : K fv st') :
    ACalls P n_vacuum_dead [vFates f, .int .u64 hz, .sl .unk 10 (l.map cStored) []] ⟨L, nv⟩ K := by
  subst hv hs
  refine A_vacuum_dead hR ?_
  unfold F_vacuum_dead
  simp
  exact GhostV.refl (by simpa using hk)

/-- What the walk over the dead tells. -/
def dTold (f : FatesT) (hz : Nat) (l : List StoredT) : List (SpotT × Int) :=
  l.filterMap fun x => if tupS x.tuple then (if deadS f hz x.tuple then some (x.spot, 0) else none) else some (x.spot, 200)

/-- The boxes that the walk reads. -/
structure DBox (f : FatesT) (hz : Nat) (l : List StoredT) (N i1 v1 i2 v2 i3 v3 : Nat) (L : List (Option (Nat × Obj))) : Prop where
  len : L.length = N
  b1 : L[i1]? = some (some (v1, .mem 1 [[.sl .unk 10 (l.map cStored) []]]))
  b2 : L[i2]? = some (some (v2, .mem 2 [[.int .u64 f.first, .sl .unk 2 (f.list.map cFate) []]]))
  b3 : L[i3]? = some (some (v3, .mem 1 [[.int .u64 hz]]))

def DeadI (f : FatesT) (hz : Nat) (l : List StoredT) (J : Nat → List (Option (Nat × Obj)) → Prop) (k : Nat) (v : V) (st : St) : Prop :=
  ∃ i L nv, k = l.length - i ∧ i ≤ l.length ∧ v = .int .i64 i ∧ st = ⟨L, nv⟩ ∧ J (dTold f hz (l.take i)).length L

theorem dead_1 (h : VisR P) (hR : R_vacuum_dead_1 P) (f : FatesT) (hz : Nat) (l : List StoredT) (hf : FatesOk f) (hl : l.length < 2 ^ 40) {yv : V} {N i1 v1 i2 v2 i3 v3 : Nat}
    (J : Nat → List (Option (Nat × Obj)) → Prop) (hJ : ∀ n L, J n L → DBox f hz l N i1 v1 i2 v2 i3 v3 L)
    {L0 : List (Option (Nat × Obj))} {nv0 : Nat} {K : V → St → Prop}
    (hy : ∀ (n : Nat) (s : SpotT) (e : Int) (L G : List (Option (Nat × Obj))) (nv : Nat) (K' : Kont), J n L → (dTold f hz l)[n]? = some (s, e) →
      (∀ L' G' nv', J (n + 1) L' → K'.f (.bool true) ⟨L' ++ G', nv'⟩) → (∀ L' G' nv', L'.length = N → (∀ nv'', K (.tup []) ⟨L', nv''⟩) → K'.f (.bool false) ⟨L' ++ G', nv'⟩) → @inv P yv [.agg (cSpot s), .int .i64 e] ⟨L ++ G, nv⟩ K')
    (h0 : J 0 L0) (hk : ∀ L nv, J (dTold f hz l).length L → K (.tup []) ⟨L, nv⟩) :
    ACalls P n_vacuum_dead_1 [yv, .ptr i1 v1 0 0, .ptr i2 v2 0 0, .ptr i3 v3 0 0] ⟨L0, nv0⟩ K := by
  have hb := hJ 0 L0 h0
  refine A_vacuum_dead_1 hR ?_
  unfold F_vacuum_dead_1
  simp [hb.b1]
  refine ⟨DeadI f hz l J, ⟨l.length, GhostV.refl ⟨0, L0, nv0, rfl, by omega, rfl, rfl, by simpa [dTold] using h0⟩⟩, ?_⟩
  rintro k1 v11 st ⟨i, L, nv, rfl, hi, rfl, rfl, hJi⟩
  have hb := hJ _ L hJi
  by_cases hlt : i < l.length
  · have e2 : IntKind.i64.wrap ((i : Int) + 1) = ((i + 1 : Nat) : Int) := by rw [wrap_i64 (by omega)]; omega
    simp [hlt, hb.b1, hb.b2, hb.b3]
    refine inv_p (vis_Dead h f hz l[i].tuple (by have := hf.2.1; omega)) (by simp) (by simp [pureL, pureLL]) ?_
    have hstep : dTold f hz (l.take (i + 1)) = dTold f hz (l.take i) ++ (if tupS l[i].tuple then (if deadS f hz l[i].tuple then [(l[i].spot, (0 : Int))] else []) else [(l[i].spot, 200)]) := by
      rw [take_snoc hlt]; unfold dTold; rw [List.filterMap_append]; congr 1
      simp only [List.filterMap_cons, List.filterMap_nil]
      split <;> (try split) <;> simp_all
    have hpre : ∀ (s : SpotT) (e : Int), dTold f hz (l.take (i + 1)) = dTold f hz (l.take i) ++ [(s, e)] → (dTold f hz l)[(dTold f hz (l.take i)).length]? = some (s, e) := by
      intro s e he
      have : dTold f hz l = dTold f hz (l.take (i + 1)) ++ dTold f hz (l.drop (i + 1)) := by
        conv => lhs; rw [← List.take_append_drop (i + 1) l]
        unfold dTold; rw [List.filterMap_append]
      rw [this, he]; simp
    rintro _ (⟨hn, _⟩ | ⟨_, ht, rfl⟩ | ⟨_, ht, rfl⟩)
    · exact absurd hf hn
    · -- what is no tuple
      simp [ht] at hstep
      have hp := hpre _ _ hstep
      simp
      refine hy _ _ _ L _ _ ⟨_⟩ hJi hp ?_ ?_
      · intro L' G' nv' hJ'
        simp
        refine ⟨l.length - (i + 1), by omega, ?_⟩
        have hL' := (hJ _ _ hJ').len
        refine GhostV.take N ?_
        refine ⟨i + 1, L', nv', rfl, by omega, by rw [e2], by simp [← hL'], by rw [hstep]; simpa using hJ'⟩
      · intro L' G' nv' hL' hK
        simp
        exact GhostV.take N (by simpa [← hL'] using hK nv')
    · cases hd : deadS f hz l[i].tuple
      · simp [ht, hd] at hstep
        simp
        refine ⟨l.length - (i + 1), by omega, ?_⟩
        refine GhostV.take N ⟨i + 1, L, _, rfl, by omega, by rw [e2], by simp [← hb.len]; rfl, by rw [hstep]; exact hJi⟩
      · simp [ht, hd] at hstep
        have hp := hpre _ _ hstep
        simp
        refine hy _ _ _ L _ _ ⟨_⟩ hJi hp ?_ ?_
        · intro L' G' nv' hJ'
          simp
          refine ⟨l.length - (i + 1), by omega, ?_⟩
          have hL' := (hJ _ _ hJ').len
          refine GhostV.take N ?_
          refine ⟨i + 1, L', nv', rfl, by omega, by rw [e2], by simp [← hL'], by rw [hstep]; simpa using hJ'⟩
        · intro L' G' nv' hL' hK
          simp
          exact GhostV.take N (by simpa [← hL'] using hK nv')
  · have : i = l.length := by omega
    subst this
    simp
    refine GhostV.refl ?_
    simpa using hk L nv (by simpa using hJi)
end Go.Proofs.Ytmgkjbphlbpbfaa.AM

namespace Go.Proofs.Ytmgkjbphlbpbfaa.AM
open Go
set_option linter.unusedVariables false
set_option linter.unusedSimpArgs false
variable {P : Program}

def deadL (f : FatesT) (hz : Nat) (l : List StoredT) : List SpotT := (l.filter fun x => deadS f hz x.tuple).map (·.spot)

/-- What vacuum.Dead answers. -/
def DeadR (f : FatesT) (hz : Nat) (l : List StoredT) (r : V) : Prop :=
  (¬ FatesOk f ∧ r = .tup [.sl .unk 2 [] [], .int .i64 270]) ∨ (FatesOk f ∧ (∃ x ∈ l, tupS x.tuple = false) ∧ r = .tup [.sl .unk 2 [] [], .int .i64 200]) ∨
  (FatesOk f ∧ (∀ x ∈ l, tupS x.tuple = true) ∧ r = .tup [.sl .unk 2 ((deadL f hz l).map cSpot) [], .int .i64 0])

theorem dTold_mem {f : FatesT} {hz : Nat} {l : List StoredT} {s : SpotT} {e : Int} (h : (s, e) ∈ dTold f hz l) : e = 0 ∨ (e = 200 ∧ ∃ x ∈ l, tupS x.tuple = false) := by
  unfold dTold at h
  obtain ⟨x, hx, hs⟩ := List.mem_filterMap.1 h
  split at hs
  · split at hs
    · simp at hs; exact .inl hs.2.symm
    · simp at hs
  · rename_i ht
    simp at hs; exact .inr ⟨hs.2.symm, x, hx, by simpa using ht⟩

theorem dTold_all {f : FatesT} {hz : Nat} {l : List StoredT} (h : ∀ p ∈ dTold f hz l, p.2 = 0) : (∀ x ∈ l, tupS x.tuple = true) ∧ (dTold f hz l).map (·.1) = deadL f hz l := by
  induction l with
  | nil => simp [dTold, deadL]
  | cons x l ih =>
    have hx : tupS x.tuple = true := by
      cases ht : tupS x.tuple
      · have := h (x.spot, 200) (by simp [dTold, ht])
        simp at this
      · rfl
    have h' : ∀ p ∈ dTold f hz l, p.2 = 0 := fun p hp => h p (by
      unfold dTold at hp ⊢
      obtain ⟨y, hy, e⟩ := List.mem_filterMap.1 hp
      exact List.mem_filterMap.2 ⟨y, by simp [hy], e⟩)
    obtain ⟨i1, i2⟩ := ih h'
    refine ⟨by simpa [hx] using i1, ?_⟩
    cases hd : deadS f hz x.tuple
    · have : dTold f hz (x :: l) = dTold f hz l := by simp [dTold, hx, hd]
      rw [this, i2]; simp [deadL, hd]
    · have : dTold f hz (x :: l) = (x.spot, 0) :: dTold f hz l := by simp [dTold, hx, hd]
      rw [this]; simp [deadL, hd]; exact i2

/-- The objects of vacuum.Dead, n spots told. -/
def dObjs (f : FatesT) (hz : Nat) (l : List StoredT) (r1 r2 : V) (lp : Obj) (va n : Nat) : List (Option (Nat × Obj)) :=
  [some (0, .mem 2 [[.int .u64 f.first, .sl .unk 2 (f.list.map cFate) []]]), some (1, .mem 1 [[r1]]), some (2, .mem 1 [[r2]]), some (3, .mem 1 [[.msl 8 va 0 n]]),
    some (4, .mem 2 [[.int .u64 f.first, .sl .unk 2 (f.list.map cFate) []]]), some (5, .mem 1 [[.int .u64 hz]]), some (6, .mem 1 [[.sl .unk 10 (l.map cStored) []]]), some (7, lp), some (va, .mem 2 ((((dTold f hz l).take n).map (·.1)).map cSpot))]
def DJ (f : FatesT) (hz : Nat) (l : List StoredT) (LP : LSt → Obj) (n : Nat) (L : List (Option (Nat × Obj))) : Prop :=
  ∃ va, n ≤ (dTold f hz l).length ∧ (∀ p ∈ (dTold f hz l).take n, p.2 = 0) ∧ L = dObjs f hz l (.sl .nil 0 [] []) (.int .i64 0) (LP .ready) va n

structure VacR (P : Program) : Prop extends VisR P where
  dead1 : R_vacuum_dead_1 P
  dead : R_vacuum_dead P
  vdead : R_vacuum_Dead P

theorem vac_Dead (h : VacR P) (f : FatesT) (hz : Nat) (l : List StoredT) (hfl : f.list.length < 2 ^ 40) (hl : l.length < 2 ^ 40) :
    PCalls P n_vacuum_Dead [vFates f, .int .u64 hz, .sl .unk 10 (l.map cStored) []] (DeadR f hz l) := by
  refine A_vacuum_Dead h.vdead ?_
  unfold F_vacuum_Dead
  simp [st0]
  refine inv_p (vis_Check h.check f hfl) (by simp) (by simp [pureL, pureLL]) ?_
  rintro _ ⟨ok, rfl, hok⟩
  cases ok
  · simp
    exact GhostV.le (LeVs.cons (.nil 0 2) (LeVs.refl _)) ⟨by simp [V.pure, pureL, pureLL], .inl ⟨fun h => by simpa using hok.2 h, rfl⟩⟩
  have hf := hok.1 rfl
  simp
  refine inv_f0 (vac_dead h.dead f hz l (fv := .fn (.func n_vacuum_dead_1) [] [.ptr 6 6 0 0, .ptr 4 4 0 0, .ptr 5 5 0 0]) (st' := ⟨[some (0, .mem 2 [[.int .u64 f.first, .sl .unk 2 (f.list.map cFate) []]]), some (1, .mem 1 [[.sl .nil 0 [] []]]), some (2, .mem 1 [[.int .i64 0]]), some (3, .mem 1 [[.sl .nil 0 [] []]]),
    some (4, .mem 2 [[.int .u64 f.first, .sl .unk 2 (f.list.map cFate) []]]), some (5, .mem 1 [[.int .u64 hz]]), some (6, .mem 1 [[.sl .unk 10 (l.map cStored) []]])], 7⟩) rfl rfl ?_)
  intro LP HY
  simp
  refine AInvE_fn (first := []) ?_
  refine ACalls.ghost (ghost_nilbox (j := 3) (ver := 3) (s := 0) (sz := 2) (by decide) rfl) ?_
  simp
  refine dead_1 h.toVisR h.dead1 f hz l hf hl (N := 9) (DJ f hz l LP) ?_ ?_ ?_ ?_
  · rintro n L ⟨va, _, _, rfl⟩
    exact ⟨rfl, rfl, rfl, rfl⟩
  · rintro n s e L G nv ⟨K'⟩ ⟨va, hn, hz0, rfl⟩ hdl h1 h2
    have hlt : n < (dTold f hz l).length := (List.getElem?_eq_some_iff.1 hdl).1
    have hle : (dTold f hz l).length ≤ l.length := by unfold dTold; exact List.length_filterMap_le _ _
    refine HY _ K' _ _ (by simp [St.get, dObjs]) ?_
    rcases dTold_mem (List.mem_of_getElem? hdl) with rfl | ⟨rfl, hx⟩
    · have hrow : List.take (n + 1) (List.map (cSpot ∘ fun x => x.fst) (dTold f hz l)) = List.take n (List.map (cSpot ∘ fun x => x.fst) (dTold f hz l)) ++ [cSpot s] := by
        rw [take_snoc (by simpa using hlt)]
        have : (dTold f hz l)[n] = (s, 0) := by rw [List.getElem?_eq_getElem hlt] at hdl; simpa using hdl
        simp [this]
      have key := h1 (dObjs f hz l (.sl .nil 0 [] []) (.int .i64 0) (LP .ready) (nv + 1 + 1) (n + 1)) (G ++ [some (nv, .mem 2 [cSpot s]), some (nv + 1, .mem 2 [cSpot s])]) (nv + 1 + 1 + 1) ⟨_, by omega, by
        rw [take_snoc hlt]
        intro p hp
        rcases List.mem_append.1 hp with hp | hp
        · exact hz0 p hp
        · have : (dTold f hz l)[n] = (s, 0) := by rw [List.getElem?_eq_getElem hlt] at hdl; simpa using hdl
          rw [this] at hp; simp at hp; rw [hp], rfl⟩
      simp [dObjs, List.length_take, Nat.min_eq_left hn]
      simp [dObjs, hrow] at key
      exact ⟨by omega, key⟩
    · have key := h2 (dObjs f hz l (.sl .nil 0 [] []) (.int .i64 200) (LP (.done .ret)) va n) (G ++ [some (nv, .mem 2 [cSpot s])]) (nv + 1) rfl ?_
      · simp [dObjs]
        simp [dObjs] at key
        exact key
      · intro nv''
        refine ⟨.done .ret, by simp [dObjs], ?_⟩
        simp [dObjs, hend]
        exact GhostV.le (LeVs.cons (.nil 0 2) (LeVs.refl _)) ⟨by simp [V.pure, pureL, pureLL], .inr (.inl ⟨hf, hx, rfl⟩)⟩
  · exact ⟨8, by simp, by simp, by simp [dObjs]⟩
  · rintro L nv ⟨va, hn, hz0, rfl⟩
    rw [List.take_of_length_le (Nat.le_refl _)] at hz0
    obtain ⟨hall, hdl⟩ := dTold_all hz0
    refine ⟨.ready, by simp [dObjs], ?_⟩
    simp [dObjs, hend]
    refine GhostV.rowc (sz := 2) (by simp [St.get]; rfl) (by simp) ?_
    have e : List.take (dTold f hz l).length (List.map (cSpot ∘ fun x => x.fst) (dTold f hz l)) = (deadL f hz l).map cSpot := by
      rw [List.take_of_length_le (by simp), ← hdl, List.map_map]
    simp only [mkres2, List.drop_zero]
    refine ⟨?_, .inr (.inr ⟨hf, hall, ?_⟩)⟩
    · simp [V.pure, pureL, pureLL, e]
    · simp [e]
end Go.Proofs.Ytmgkjbphlbpbfaa.AM

namespace Go.Proofs.Ytmgkjbphlbpbfaa.AM
open Go
set_option linter.unusedVariables false
set_option linter.unusedSimpArgs false
variable {P : Program}

def spotOk (s : SpotT) : Prop := 0 ≤ s.page ∧ s.page < 32 ∧ 0 ≤ s.slot ∧ s.slot < 4
instance (s : SpotT) : Decidable (spotOk s) := by unfold spotOk; infer_instance

def EntryR (s : SpotT) (r : V) : Prop := (¬ spotOk s ∧ r = .tup [.int .u32 0, .int .i64 2]) ∨ (spotOk s ∧ r = .tup [.int .u32 (s.page * 4 + s.slot + 1), .int .i64 0])

theorem Entry (hR : R_vacuum_Entry P) (s : SpotT) : PCalls P n_vacuum_Entry [.agg (cSpot s)] (EntryR s) := by
  refine A_vacuum_Entry hR ?_
  unfold F_vacuum_Entry
  simp [st0]
  have bad : ¬ spotOk s → ∀ st, GhostV [.int .u32 0, .int .i64 2] st fun vs st => (mkres vs).pure = true ∧ EntryR s (mkres vs) := fun h st => GhostV.refl ⟨rfl, .inl ⟨h, rfl⟩⟩
  by_cases h1 : s.page < 0
  · simp [h1]; exact bad (by unfold spotOk; omega) _
  by_cases h2 : 32 ≤ s.page
  · simp [h1, h2]; exact bad (by unfold spotOk; omega) _
  by_cases h3 : s.slot < 0
  · simp [h1, h2, h3]; exact bad (by unfold spotOk; omega) _
  by_cases h4 : 4 ≤ s.slot
  · simp [h1, h2, h3, h4]; exact bad (by unfold spotOk; omega) _
  have e1 : IntKind.i64.wrap (s.page * 4) = s.page * 4 := wrap_i64 (by omega)
  have e2 : IntKind.i64.wrap (s.page * 4 + s.slot) = s.page * 4 + s.slot := wrap_i64 (by omega)
  have e3 : IntKind.i64.wrap (s.page * 4 + s.slot + 1) = s.page * 4 + s.slot + 1 := wrap_i64 (by omega)
  have e4 : IntKind.u32.wrap (s.page * 4 + s.slot + 1) = s.page * 4 + s.slot + 1 := by simp [IntKind.wrap, IntKind.signed, IntKind.bits]; omega
  simp [h1, h2, h3, h4, e1, e2, e3, e4]
  exact GhostV.refl ⟨rfl, .inr ⟨by unfold spotOk; omega, rfl⟩⟩

def SpotR (n : Nat) (r : V) : Prop := ((n < 1 ∨ 128 < n) ∧ r = .tup [.agg (cSpot ⟨0, 0⟩), .int .i64 2]) ∨ (1 ≤ n ∧ n ≤ 128 ∧ r = .tup [.agg (cSpot ⟨((n : Int) - 1) / 4, ((n : Int) - 1) % 4⟩), .int .i64 0])

theorem Spot (hR : R_vacuum_Spot P) (n : Nat) : PCalls P n_vacuum_Spot [.int .u32 n] (SpotR n) := by
  refine A_vacuum_Spot hR ?_
  unfold F_vacuum_Spot
  simp [st0]
  by_cases h1 : (n : Int) < 1
  · simp [h1]
    exact GhostV.refl ⟨rfl, .inl ⟨by omega, rfl⟩⟩
  by_cases h2 : (128 : Int) < n
  · simp [h1, h2]
    exact GhostV.refl ⟨rfl, .inl ⟨by omega, rfl⟩⟩
  have e1 : IntKind.u32.wrap ((n : Int) - 1) = (n : Int) - 1 := by simp [IntKind.wrap, IntKind.signed, IntKind.bits]; omega
  have e2 : IntKind.i64.wrap ((n : Int) - 1) = (n : Int) - 1 := wrap_i64 (by omega)
  have e3 : ((n : Int) - 1).tdiv 4 = ((n : Int) - 1) / 4 := Int.tdiv_eq_ediv_of_nonneg (by omega)
  have e4 : ((n : Int) - 1).tmod 4 = ((n : Int) - 1) % 4 := Int.tmod_eq_emod_of_nonneg (by omega)
  have e5 : IntKind.i64.wrap (((n : Int) - 1) / 4) = ((n : Int) - 1) / 4 := wrap_i64 (by omega)
  simp [h1, h2, e1, e2, e3, e4, e5]
  exact GhostV.refl ⟨rfl, .inr ⟨by omega, by omega, rfl⟩⟩

theorem first18 (hR : R_gazetteerlaw18_first P) : PCalls P n_gazetteerlaw18_first [] (fun r => r = vFates ⟨3, [⟨3, 5⟩, ⟨4, 0⟩]⟩) := by
  refine A_gazetteerlaw18_first hR ?_
  unfold F_gazetteerlaw18_first
  simp [st0]
  refine GhostV.trans (GhostV.freeze (K := fun vs st => vs = [.agg [.int .u64 3, .sl .unk 2 [[.int .u64 3, .int .u64 5], [.int .u64 4, .int .u64 0]] []]] ∧ st = ⟨[], 2⟩) (id := 1) (ver := 1) (sz := 2) (es := [[.int .u64 3, .int .u64 5], [.int .u64 4, .int .u64 0]])
    (vs' := [.agg [.int .u64 3, .sl .unk 2 [[.int .u64 3, .int .u64 5], [.int .u64 4, .int .u64 0]] []]]) (st' := ⟨[], 2⟩) rfl rfl rfl (fun i => ?_) (fun id1 ver1 o1 h => by simp at h) ⟨rfl, rfl⟩) ?_
  · cases i with
    | zero =>
      refine .agg _ _ rfl (fun i hi => ?_)
      have : i = 0 ∨ i = 1 := by simp at hi; omega
      rcases this with rfl | rfl
      · exact .refl _
      · exact .msl 1 0 2 (by simp)
    | succ i => simpa using Frz.refl _
  · rintro _ _ ⟨rfl, rfl⟩
    exact GhostV.refl ⟨rfl, rfl⟩

def wakeL : List StoredT := [⟨⟨0, 0⟩, ⟨1, 1, 3, ⟨0, 0, 0, 0⟩, 0⟩⟩, ⟨⟨0, 1⟩, ⟨1, 1, 4, ⟨0, 0, 0, 0⟩, 0⟩⟩, ⟨⟨0, 2⟩, ⟨1, 7, 0, ⟨0, 0, 0, 0⟩, 0⟩⟩]
def wakeF : FatesT := ⟨3, [⟨3, 5⟩, ⟨4, 0⟩]⟩

structure WakeR (P : Program) : Prop extends VacR P, LeftR P where
  first : R_gazetteerlaw18_first P
  entry : R_vacuum_Entry P
  wakes : R_gazetteerlaw18_wakes P

theorem wakes18 (h : WakeR P) : PCalls P n_gazetteerlaw18_wakes [] (fun r => r = .bool true) := by
  refine A_gazetteerlaw18_wakes h.wakes ?_
  unfold F_gazetteerlaw18_wakes
  refine ⟨fun v st => v = .sl .unk 10 (wakeL.map cStored) [] ∧ ∃ nv, st = ⟨[], nv⟩, ?_, ?_⟩
  · simp [st0]
    exact GhostV.row1 (sz := 10) rfl (by simp) ⟨rfl, _, rfl⟩
  rintro v st ⟨rfl, nv, rfl⟩
  simp
  refine inv_p (first18 h.first) rfl rfl ?_
  rintro _ rfl
  simp
  refine inv_p (vac_Dead h.toVacR wakeF 6 wakeL (by decide) (by decide)) rfl (by decide) ?_
  have hok : FatesOk wakeF := by
    refine ⟨by decide, by decide, ?_, ?_, ?_⟩ <;> decide
  have hall : ∀ x ∈ wakeL, tupS x.tuple = true := by decide
  have hdl : deadL wakeF 6 wakeL = [⟨0, 0⟩, ⟨0, 2⟩] := by decide
  rintro _ (⟨hn, _⟩ | ⟨_, ⟨x, hx, hx'⟩, _⟩ | ⟨_, _, rfl⟩)
  · exact absurd hok hn
  · rw [hall x hx] at hx'; cases hx'
  rw [hdl]
  simp
  refine inv_p (Entry h.entry ⟨1, 2⟩) rfl rfl ?_
  rintro _ (⟨hn, _⟩ | ⟨_, rfl⟩)
  · exact absurd (by decide) hn
  simp
  refine inv_p (vac_Left h.toLeftR wakeL [⟨0, 0⟩, ⟨0, 2⟩] (by decide) (by decide)) rfl (by decide) ?_
  have hl : leftS wakeL [⟨0, 0⟩, ⟨0, 2⟩] = [⟨⟨0, 1⟩, ⟨1, 1, 4, ⟨0, 0, 0, 0⟩, 0⟩⟩] := by decide
  rintro _ rfl
  rw [hl]
  simp
  exact GhostV.refl ⟨rfl, rfl⟩
end Go.Proofs.Ytmgkjbphlbpbfaa.AM

namespace Go.Proofs.Ytmgkjbphlbpbfaa.AM
open Go
set_option linter.unusedVariables false
set_option linter.unusedSimpArgs false
variable {P : Program}

structure BackR (P : Program) : Prop extends WakeR P where
  spot : R_vacuum_Spot P
  back : R_gazetteerlaw18_VacuumBack P

theorem vacuumBack (h : BackR P) (s : SpotT) (n : Nat) (hn : n < 2 ^ 32) : PCalls P n_gazetteerlaw18_VacuumBack [.agg (cSpot s), .int .u32 n] (fun r => r = .bool true) := by
  refine A_gazetteerlaw18_VacuumBack h.back ?_
  unfold F_gazetteerlaw18_VacuumBack
  simp [st0]
  refine inv_p (wakes18 h.toWakeR) rfl rfl ?_
  rintro _ rfl
  simp
  refine inv_p (Entry h.entry s) rfl rfl ?_
  have part : ∀ r : V, EntryR s r → True := fun _ _ => trivial
  rintro _ (⟨hs, rfl⟩ | ⟨hs, rfl⟩)
  all_goals
    simp
    refine ⟨fun st => ∃ nv, st = ⟨[some (0, .mem 2 [cSpot s])], nv⟩, ?_, ?_⟩
  · simp
    exact GhostV.refl ⟨_, rfl⟩
  rotate_left
  · simp
    obtain ⟨m, hm⟩ : ∃ m : Nat, (m : Int) = s.page * 4 + s.slot + 1 := ⟨(s.page * 4 + s.slot + 1).toNat, by unfold spotOk at hs; omega⟩
    rw [← hm]
    refine inv_p (Spot h.spot m) rfl rfl ?_
    rintro _ (⟨hb, _⟩ | ⟨h1, h2, rfl⟩)
    · exfalso; unfold spotOk at hs; omega
    have e1 : ((m : Int) - 1) / 4 = s.page := by unfold spotOk at hs; omega
    have e2 : ((m : Int) - 1) % 4 = s.slot := by unfold spotOk at hs; omega
    simp [e1, e2]
    exact GhostV.take 1 ⟨_, rfl⟩
  all_goals
    rintro st ⟨nv, rfl⟩
    simp
    refine inv_p (Spot h.spot n) rfl rfl ?_
    rintro _ (⟨hb, rfl⟩ | ⟨h1, h2, rfl⟩)
    · simp
      exact GhostV.refl ⟨rfl, rfl⟩
    · simp
      refine inv_p (Entry h.entry ⟨((n : Int) - 1) / 4, ((n : Int) - 1) % 4⟩) rfl rfl ?_
      rintro _ (⟨hs, rfl⟩ | ⟨hs, rfl⟩)
      · exfalso; unfold spotOk at hs; simp at hs; omega
      · have e : ((n : Int) - 1) / 4 * 4 + ((n : Int) - 1) % 4 + 1 = n := by omega
        simp [e]
        exact GhostV.refl ⟨rfl, rfl⟩
end Go.Proofs.Ytmgkjbphlbpbfaa.AM
