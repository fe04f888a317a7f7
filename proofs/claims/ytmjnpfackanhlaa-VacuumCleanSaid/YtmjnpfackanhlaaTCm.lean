/- The tree and the cursor, walked, part 3. -/
import Derived.Test.YtmjnpfackanhlaaTBm
set_option maxRecDepth 60000
namespace Go.Proofs.Ytmjnpfackanhlaa.AM
open Go
set_option linter.unusedVariables false
set_option linter.unusedSimpArgs false
variable {P : Program}

theorem isNaN_u64 (hR : R_cmp_isNaN_uint64 P) (a : Nat) : PCalls P n_cmp_isNaN_uint64 [.int .u64 a] (fun r => r = .bool false) := by
 refine A_cmp_isNaN_uint64 hR ?_
 delta F_cmp_isNaN_uint64 sp sd gp gd fl fd gl
 simp
 exact GhostV.refl (by simp)

def cmpN (a b : Nat) : Int := if a < b then -1 else if b < a then 1 else 0

theorem Compare_u64 (hR : R_cmp_Compare_uint64 P) (h1 : R_cmp_isNaN_uint64 P) (a b : Nat) : PCalls P n_cmp_Compare_uint64 [.int .u64 a, .int .u64 b] (fun r => r = .int .i64 (cmpN a b)) := by
 refine A_cmp_Compare_uint64 hR ?_
 delta F_cmp_Compare_uint64 sp sd gp gd fl fd gl
 simp
 refine inv_p (isNaN_u64 h1 a) rfl rfl ?_
 rintro _ rfl
 simp
 refine inv_p (isNaN_u64 h1 b) rfl rfl ?_
 rintro _ rfl
 simp
 repeat' ((first | refine cd (fun h => ?_) (fun h => ?_)); all_goals simp [h])
 all_goals (refine GhostV.refl ?_; simp_all [cmpN])
 all_goals omega

theorem fate_1 (hR : R_vision_fate_1 P) (h0 : R_cmp_Compare_uint64 P) (h1 : R_cmp_isNaN_uint64 P) (x : FateT) (id : Nat) : PCalls P n_vision_fate_1 [.agg (cFate x), .int .u64 id] (fun r => r = .int .i64 (cmpN x.id id)) := by
 refine A_vision_fate_1 hR ?_
 delta F_vision_fate_1 sp sd gp gd fl fd gl
 simp [st0]
 refine inv_p (Compare_u64 h0 h1 x.id id) rfl rfl ?_
 rintro _ rfl
 simp
 exact GhostV.refl (by simp)

def BsOk (l : List FateT) (id i : Nat) : Prop := i ≤ l.length ∧ (∀ j, (h : j < l.length) → j + 1 = i → l[j].id < id) ∧ ∀ h : i < l.length, id ≤ l[i].id

def fnd (l : List FateT) (i id : Nat) : Bool := match l[i]? with | some x => decide (x.id = id) | none => false

theorem bsearch (hR : R_slices_BinarySearchFunc_Fate_Fate_uint64 P) (hf : R_vision_fate_1 P) (h0 : R_cmp_Compare_uint64 P) (h1 : R_cmp_isNaN_uint64 P) (k : SK) (l : List FateT) (sp : List (List V)) (id : Nat) (hl : l.length < 2 ^ 40) :
    PCalls P n_slices_BinarySearchFunc_Fate_Fate_uint64 [.sl k 2 (l.map cFate) sp, .int .u64 id, .fn (.func n_vision_fate_1) [] []] (fun r => ∃ i : Nat, BsOk l id i ∧ r = .tup [.int .i64 i, .bool (fnd l i id)]) := by
  refine A_slices_BinarySearchFunc_Fate_Fate_uint64 hR ?_
  delta F_slices_BinarySearchFunc_Fate_Fate_uint64 sp sd gp gd fl fd gl
  simp [st0]
  refine ⟨fun k v9 v10 st => ∃ i j : Nat, k = j - i ∧ i ≤ j ∧ j ≤ l.length ∧ v9 = .int .i64 i ∧ v10 = .int .i64 j ∧ st = st0 ∧ (∀ q, (h : q < l.length) → q + 1 = i → l[q].id < id) ∧ ∀ h : j < l.length, id ≤ l[j].id,
    ⟨l.length, GhostV.refl ⟨0, l.length, by omega, by omega, by omega, by simp, by simp, rfl, by omega, by omega⟩⟩, ?_⟩
  rintro k1 v9 v10 st ⟨i, j, rfl, hij, hj, rfl, rfl, rfl, hlo, hhi⟩
  simp
  by_cases hlt : i < j
  · have e1 : IntKind.i64.wrap ((i : Int) + j) = (i : Int) + j := wrap_i64 (by omega)
    have e2 : IntKind.u64.wrap ((i : Int) + j) = (i : Int) + j := by simp [IntKind.wrap, IntKind.signed, IntKind.bits]; omega
    obtain ⟨m, hm0⟩ : ∃ m, m = (i + j) / 2 := ⟨_, rfl⟩
    have e3 : IntKind.i64.wrap (((i : Int) + j).fdiv 2) = m := by rw [Int.fdiv_eq_ediv_of_nonneg _ (by omega), wrap_i64 (by omega)]; omega
    have hm : m < l.length := by omega
    simp [hlt, e1, e2, e3, IntKind.bits, hm]
    refine inv_p (fate_1 hf h0 h1 l[m] id) (by simp) (by simp) ?_
    rintro _ rfl
    simp
    by_cases hc : l[m].id < id
    · have e4 : IntKind.i64.wrap ((m : Int) + 1) = ((m + 1 : Nat) : Int) := by rw [wrap_i64 (by omega)]; omega
      simp [cmpN, hc, e4]
      exact ⟨_, by omega, GhostV.refl ⟨m + 1, j, rfl, by omega, by omega, by simp, rfl, rfl, fun q hq hq' => by
        obtain rfl : q = m := by omega
        exact hc, hhi⟩⟩
    · have hc' : ¬ cmpN l[m].id id < 0 := by unfold cmpN; rw [if_neg hc]; split <;> omega
      simp [hc']
      exact ⟨_, by omega, GhostV.refl ⟨i, m, rfl, by omega, by omega, rfl, by simp, rfl, hlo, fun _ => by omega⟩⟩
  · obtain rfl : i = j := by omega
    simp
    have fin : ∀ b : Bool, b = fnd l i id → GhostV [.int .i64 i, .bool b] st0 fun vs st => (mkres vs).pure = true ∧ ∃ i, BsOk l id i ∧ mkres vs = .tup [.int .i64 i, .bool (fnd l i id)] := by
      rintro _ rfl
      exact GhostV.refl ⟨by simp, i, ⟨hj, hlo, hhi⟩, by simp⟩
    by_cases hl2 : i < l.length
    · simp [hl2]
      refine inv_p (fate_1 hf h0 h1 l[i] id) (by simp) (by simp) ?_
      rintro _ rfl
      simp [hl2]
      refine fin _ ?_
      have := hhi hl2
      by_cases he : l[i].id = id
      · simp [fnd, hl2, he, cmpN]
      · have : cmpN l[i].id id = 1 := by unfold cmpN; rw [if_neg (by omega), if_pos (by omega)]
        simp [fnd, hl2, he, this]
    · simp [hl2]
      exact fin _ (by simp [fnd, hl2])
end Go.Proofs.Ytmjnpfackanhlaa.AM

namespace Go.Proofs.Ytmjnpfackanhlaa.AM
open Go
set_option linter.unusedVariables false
set_option linter.unusedSimpArgs false
variable {P : Program}

def Rising (l : List FateT) : Prop := l.Pairwise (fun a b => a.id < b.id)

theorem Rising.lt {l : List FateT} (h : Rising l) {i j : Nat} (hi : i < j) (hj : j < l.length) : l[i].id < l[j].id := List.pairwise_iff_getElem.1 h i j _ _ hi

theorem find_bs {l : List FateT} {id i : Nat} (hs : Rising l) (hb : BsOk l id i) : l.find? (fun x => x.id == id) = if h : i < l.length then (if l[i].id = id then some l[i] else none) else none := by
 obtain ⟨h1, h2, h3⟩ := hb
 have below : ∀ j (hj : j < l.length), j < i → l[j].id < id := by
  intro j hj hji
  have hi : i - 1 < l.length := by omega
  have := h2 (i - 1) hi (by omega)
  by_cases e : j = i - 1
  ·subst e; exact this
  ·have := hs.lt (show j < i - 1 by omega) hi; omega
 by_cases hi : i < l.length
 ·rw [dif_pos hi]
  have h3 := h3 hi
  by_cases he : l[i].id = id
  ·rw [if_pos he, List.find?_eq_some_iff_getElem]
   refine ⟨by simp [he], i, hi, rfl, fun j hj => ?_⟩
   have := below j (by omega) hj
   simp; omega
  ·rw [if_neg he, List.find?_eq_none]
   intro x hx
   obtain ⟨j, hj, rfl⟩ := List.getElem_of_mem hx
   simp
   rcases Nat.lt_trichotomy j i with h | h | h
   ·have := below j hj h; omega
   ·subst h; exact he
   ·have := hs.lt h hj; omega
 ·rw [dif_neg hi, List.find?_eq_none]
  intro x hx
  obtain ⟨j, hj, rfl⟩ := List.getElem_of_mem hx
  have := below j hj (by omega)
  simp; omega

def fateS (f : FatesT) (id : Nat) : Nat × Bool × Bool :=
 if 0 < id ∧ id < f.first then (0, true, false)
 else match f.list.find? (fun x => x.id == id) with
  | none => (0, false, false)
  | some x => (x.number, decide (0 < x.number), decide (x.number = 0))

structure FateR (P : Program) : Prop where
 nan : R_cmp_isNaN_uint64 P
 cmp : R_cmp_Compare_uint64 P
 fate1 : R_vision_fate_1 P
 bs : R_slices_BinarySearchFunc_Fate_Fate_uint64 P
 fate : R_vision_fate P

theorem fate (h : FateR P) (f : FatesT) (id : Nat) (hl : f.list.length < 2 ^ 40) (hs : Rising f.list) :
    PCalls P n_vision_fate [.agg [.int .u64 f.first, .sl .unk 2 (f.list.map cFate) []], .int .u64 id] (fun r => r = .tup [.int .u64 (fateS f id).1, .bool (fateS f id).2.1, .bool (fateS f id).2.2]) := by
  refine A_vision_fate h.fate ?_
  delta F_vision_fate sp sd gp gd fl fd gl
  simp [st0]
  by_cases h2 : 0 < id ∧ id < f.first
  · obtain ⟨h0, h1⟩ := h2
    simp [h0, h1]
    exact GhostV.refl (by simp [fateS, h0, h1])
  · have e0 : fateS f id = match f.list.find? (fun x => x.id == id) with | none => (0, false, false) | some x => (x.number, decide (0 < x.number), decide (x.number = 0)) := by unfold fateS; rw [if_neg h2]
    have go : ∀ {i : Nat}, BsOk f.list id i → (if h : i < f.list.length then (if f.list[i].id = id then some f.list[i] else none) else none) = f.list.find? (fun x => x.id == id) := fun hb => (find_bs hs hb).symm
    rw [e0]
    by_cases h0 : 0 < id
    · have h1 : ¬ id < f.first := fun h => h2 ⟨h0, h⟩
      simp [h0, h1]
      refine inv_p (bsearch h.bs h.fate1 h.cmp h.nan .unk f.list [] id hl) (by simp) (by simp [pureLL]) ?_
      rintro _ ⟨i, hb, rfl⟩
      rw [← go hb]
      by_cases hi : i < f.list.length
      · by_cases he : f.list[i].id = id
        · simp [fnd, hi, he]
          exact GhostV.refl (by simp)
        · simp [fnd, hi, he]
          exact GhostV.refl (by simp)
      · simp [fnd, hi]
        exact GhostV.refl (by simp)
    · simp [h0]
      refine inv_p (bsearch h.bs h.fate1 h.cmp h.nan .unk f.list [] id hl) (by simp) (by simp [pureLL]) ?_
      rintro _ ⟨i, hb, rfl⟩
      rw [← go hb]
      by_cases hi : i < f.list.length
      · by_cases he : f.list[i].id = id
        · simp [fnd, hi, he]
          exact GhostV.refl (by simp)
        · simp [fnd, hi, he]
          exact GhostV.refl (by simp)
      · simp [fnd, hi]
        exact GhostV.refl (by simp)

def countsS (f : FatesT) (e : EyeT) (id : Nat) : Bool :=
 if e.reads then (fateS f id).2.1 && decide ((fateS f id).1 ≤ e.snap) else (fateS f id).2.1 || (decide (0 < id) && decide (id = e.own))

@[simp] def vLook (f : FatesT) (e : EyeT) : V := .agg [.int .u64 e.own, .bool e.reads, .int .u64 e.snap, .int .u64 f.first, .sl .unk 2 (f.list.map cFate) []]
@[simp] def vFates (f : FatesT) : V := .agg [.int .u64 f.first, .sl .unk 2 (f.list.map cFate) []]

theorem counts (h : FateR P) (hR : R_vision_look_counts P) (f : FatesT) (e : EyeT) (id : Nat) (hl : f.list.length < 2 ^ 40) (hs : Rising f.list) :
  PCalls P n_vision_look_counts [vLook f e, .int .u64 id] (fun r => r = .bool (countsS f e id)) := by
 refine A_vision_look_counts hR ?_
 delta F_vision_look_counts sp sd gp gd fl fd gl
 simp [st0]
 refine inv_p (fate h f id hl hs) (by simp) (by simp [pureLL]) ?_
 rintro _ rfl
 simp
 unfold countsS
 generalize fateS f id = z
 obtain ⟨n, d, o⟩ := z
 cases hr : e.reads
 ·cases d
  ·by_cases h0 : 0 < id
   ·simp [hr, h0]; exact GhostV.refl (by simp)
   ·simp [hr, h0]; exact GhostV.refl (by simp)
  ·simp [hr]; exact GhostV.refl (by simp)
 ·cases d
  ·simp [hr]; exact GhostV.refl (by simp)
  ·simp [hr]; exact GhostV.refl (by simp)

def seesS (f : FatesT) (e : EyeT) (t : TupleT) : Bool := countsS f e t.xmin && !countsS f e t.xmax

theorem sees (h : FateR P) (hc : R_vision_look_counts P) (hR : R_vision_look_sees P) (f : FatesT) (e : EyeT) (t : TupleT) (hl : f.list.length < 2 ^ 40) (hs : Rising f.list) :
  PCalls P n_vision_look_sees [vLook f e, .agg (cTuple t)] (fun r => r = .bool (seesS f e t)) := by
 refine A_vision_look_sees hR ?_
 delta F_vision_look_sees sp sd gp gd fl fd gl
 simp [st0]
 refine inv_p (counts h hc f e t.xmin hl hs) (by simp) (by simp [pureLL]) ?_
 rintro _ rfl
 cases h1 : countsS f e t.xmin
 ·simp; exact GhostV.refl (by simp [seesS, h1])
 ·simp
  refine inv_p (counts h hc f e t.xmax hl hs) (by simp) (by simp [pureLL]) ?_
  rintro _ rfl
  simp; exact GhostV.refl (by simp [seesS, h1])

def boxS (k : KeyT) : Bool := decide (k.x0 ≤ k.x1) && decide (k.y0 ≤ k.y1)

theorem key_box (hR : R_key_box P) (k : KeyT) : PCalls P n_key_box [.agg (cKey k)] (fun r => r = .bool (boxS k)) := by
 refine A_key_box hR ?_
 delta F_key_box sp sd gp gd fl fd gl
 simp [st0]
 by_cases h : k.x0 ≤ k.x1
 ·simp [h]; exact GhostV.refl (by simp [boxS, h])
 ·simp [h]; exact GhostV.refl (by simp [boxS, h])

theorem key_Check (hR : R_key_Check P) (hb : R_key_box P) (k : KeyT) : PCalls P n_key_Check [.int .i64 1, .agg (cKey k)] (fun r => r = .int .i64 (if boxS k then 0 else 2)) := by
 refine A_key_Check hR ?_
 delta F_key_Check sp sd gp gd fl fd gl
 simp [st0]
 refine inv_p (key_box hb k) (by simp) (by simp) ?_
 rintro _ rfl
 refine ⟨fun v st => v = .bool (boxS k), ?_, ?_⟩
 ·simp
  exact GhostV.refl rfl
 ·rintro _ st rfl
  cases h : boxS k
  ·simp; exact GhostV.refl (by simp)
  ·simp; exact GhostV.refl (by simp)

def tupS (t : TupleT) : Bool := !(decide (t.row = 0) || decide (t.xmin = 0) || decide (4294967295 < t.xmin) || decide (4294967295 < t.xmax) || !boxS t.key)

theorem heap_Check (hR : R_heap_Check P) (hk : R_key_Check P) (hb : R_key_box P) (t : TupleT) : PCalls P n_heap_Check [.agg (cTuple t)] (fun r => r = .int .i64 (if tupS t then 0 else 200)) := by
  refine A_heap_Check hR ?_
  delta F_heap_Check sp sd gp gd fl fd gl
  simp [st0]
  by_cases h1 : t.row = 0
  · simp [h1]; exact GhostV.refl (by simp [tupS, h1])
  by_cases h2 : t.xmin = 0
  · simp [h1, h2]; exact GhostV.refl (by simp [tupS, h1, h2])
  by_cases h3 : (4294967295 : Int) < t.xmin
  · have h3' : 4294967295 < t.xmin := by omega
    simp [h1, h2, h3]; exact GhostV.refl (by simp [tupS, h1, h2, h3'])
  by_cases h4 : (4294967295 : Int) < t.xmax
  · have h4' : 4294967295 < t.xmax := by omega
    simp [h1, h2, h3, h4]; exact GhostV.refl (by simp [tupS, h1, h2, h4'])
  have h3' : ¬ 4294967295 < t.xmin := by omega
  have h4' : ¬ 4294967295 < t.xmax := by omega
  simp [h1, h2, h3, h4]
  refine inv_p (key_Check hk hb t.key) (by simp) (by simp) ?_
  rintro _ rfl
  cases h : boxS t.key
  · simp; exact GhostV.refl (by simp [tupS, h1, h2, h3', h4', h])
  · simp; exact GhostV.refl (by simp [tupS, h1, h2, h3', h4', h])

end Go.Proofs.Ytmjnpfackanhlaa.AM

namespace Go.Proofs.Ytmjnpfackanhlaa.AM
open Go
set_option linter.unusedVariables false
set_option linter.unusedSimpArgs false
variable {P : Program}

def FOk (first : Nat) (l : List FateT) : Prop := (∀ x ∈ l, first ≤ x.id) ∧ l.Pairwise (fun a b => a.id < b.id) ∧ l.Pairwise (fun a b => b.number = 0 ∨ a.number ≠ b.number)
def FatesOk (f : FatesT) : Prop := 0 < f.first ∧ f.list.length ≤ 256 ∧ FOk f.first f.list

theorem FOk.snoc {first : Nat} {l : List FateT} {x : FateT} : FOk first (l ++ [x]) ↔ FOk first l ∧ first ≤ x.id ∧ (∀ a ∈ l, a.id < x.id) ∧ (∀ a ∈ l, x.number = 0 ∨ a.number ≠ x.number) := by
 unfold FOk
 simp only [List.mem_append, List.mem_singleton, List.pairwise_append, List.pairwise_singleton, List.forall_mem_singleton, true_and, forall_eq_or_imp, forall_eq]
 constructor
 ·rintro ⟨h1, ⟨h2, h3⟩, h4, h5⟩
  exact ⟨⟨fun x hx => h1 x (.inl hx), h2, h4⟩, h1 _ (.inr rfl), fun a ha => h3 a ha, fun a ha => h5 a ha⟩
 ·rintro ⟨⟨h1, h2, h4⟩, h6, h3, h5⟩
  refine ⟨?_, ⟨h2, ?_⟩, h4, ?_⟩
  ·rintro y (hy | rfl)
   ·exact h1 y hy
   ·exact h6
  ·rintro a ha; exact h3 a ha
  ·rintro a ha; exact h5 a ha

theorem FOk.take {first : Nat} {l : List FateT} {i : Nat} (h : FOk first l) : FOk first (l.take i) :=
 ⟨fun x hx => h.1 x (List.mem_of_mem_take hx), h.2.1.sublist (List.take_sublist _ _), h.2.2.sublist (List.take_sublist _ _)⟩


def entN (m : Nat) : V × V := (.int .u64 m, .bool true)

theorem mfind_nat (n : Nat) : ∀ (ks : List Nat) (i : Nat), mfind (.one .int) (.int .u64 n) (ks.map entN) i = some (if n ∈ ks then some (i + ks.idxOf n, .bool true) else none)
  | [], i => by simp [mfind]
  | m :: ks, i => by
    have e : keyEq (.one .int) (.int .u64 n) (entN m).1 = some (decide (n = m)) := by
      by_cases h : n = m
      · subst h; simp [keyEq, eqL, entN]
      · have : ¬ (n : Int) = m := by omega
        simp [keyEq, eqL, entN, h, this]
    simp only [List.map_cons]
    have key : mfind (.one .int) (.int .u64 n) (entN m :: ks.map entN) i = match keyEq (.one .int) (.int .u64 n) (entN m).1 with
      | some true => some (some (i, (entN m).2))
      | some false => mfind (.one .int) (.int .u64 n) (ks.map entN) (i + 1)
      | none => none := rfl
    rw [key, e]
    by_cases h : n = m
    · subst h; simp [entN, List.idxOf_cons]
    · simp only [h, decide_false, mfind_nat n ks (i + 1)]
      have hm : (m == n) = false := by simpa using fun e => h e.symm
      by_cases hk : n ∈ ks
      · simp [hk, List.idxOf_cons, hm]; omega
      · simp [hk, h]

theorem setSame {n : Nat} {ks : List Nat} (h : n ∈ ks) : (ks.map entN).set (ks.idxOf n) ((.int .u64 n : V), (.bool true : V)) = ks.map entN := by
 apply List.ext_getElem?
 intro j
 by_cases e : ks.idxOf n = j
 ·subst e
  have hl := List.idxOf_lt_length_of_mem h
  rw [List.getElem?_set_self (by simpa using hl), List.getElem?_map, List.getElem?_eq_getElem hl]
  simp [entN]
 ·rw [List.getElem?_set_ne e]

theorem keysNew {l : List FateT} {x : FateT} {ks : List Nat} (h : ∀ n, n ∈ ks ↔ ∃ x ∈ l, x.number = n) (hk : x.number ∉ ks) : ∀ n, n ∈ ks ++ [x.number] ↔ ∃ y ∈ l ++ [x], y.number = n := by
 intro n
 simp only [List.mem_append, List.mem_singleton, h]
 constructor
 ·rintro (⟨y, hy, e⟩ | rfl)
  ·exact ⟨y, .inl hy, e⟩
  ·exact ⟨x, .inr rfl, rfl⟩
 ·rintro ⟨y, hy | rfl, e⟩
  ·exact .inl ⟨y, hy, e⟩
  ·exact .inr e.symm

theorem keysOld {l : List FateT} {x : FateT} {ks : List Nat} (h : ∀ n, n ∈ ks ↔ ∃ x ∈ l, x.number = n) (hk : x.number ∈ ks) : ∀ n, n ∈ ks ↔ ∃ y ∈ l ++ [x], y.number = n := by
 intro n
 constructor
 ·intro hn
  obtain ⟨y, hy, e⟩ := (h n).1 hn
  exact ⟨y, by simp [hy], e⟩
 ·rintro ⟨y, hy, e⟩
  simp at hy
  rcases hy with hy | rfl
  ·exact (h n).2 ⟨y, hy, e⟩
  ·rw [← e]; exact hk

def CheckR (f : FatesT) (r : V) : Prop := ∃ ok : Bool, r = .int .i64 (if ok then 0 else 270) ∧ (ok = true ↔ FatesOk f)

def CheckI (f : FatesT) (k : Nat) (v : V) (st : St) : Prop := ∃ (i nv ep : Nat) (ks : List Nat), k = f.list.length - i ∧ i ≤ f.list.length ∧ v = .int .i64 i ∧ 
   st = ⟨[some (0, .mem 2 [[.int .u64 f.first, .sl .unk 2 (f.list.map cFate) []]]), some (1, .map ep (ks.map entN))], nv⟩ ∧ (∀ n, n ∈ ks ↔ ∃ x ∈ f.list.take i, x.number = n) ∧ FOk f.first (f.list.take i)

theorem vis_Check (hR : R_vision_Check P) (f : FatesT) (hl : f.list.length < 2 ^ 40) : PCalls P n_vision_Check [vFates f] (CheckR f) := by
  refine A_vision_Check hR ?_
  delta F_vision_Check sp sd gp gd fl fd gl
  simp [st0]
  by_cases h1 : (f.first : Int) < 1
  · have h1' : f.first = 0 := by omega
    simp [h1']
    exact GhostV.refl ⟨rfl, false, rfl, by simp [FatesOk, h1']⟩
  by_cases h2 : (256 : Int) < f.list.length
  · simp [h1, h2]
    exact GhostV.refl ⟨rfl, false, rfl, by simp [FatesOk]; omega⟩
  simp [h1, h2]
  refine ⟨CheckI f,
    ⟨f.list.length, GhostV.refl ⟨0, 3, 2, [], by simp, by simp, by simp, rfl, by simp, by simp [FOk]⟩⟩, ?_⟩
  rintro k1 v19 st ⟨i, nv, ep, ks, rfl, hi, rfl, rfl, hks, hok⟩
  by_cases hlt : i < f.list.length
  · have hsn := take_snoc hlt
    have bad' : ∀ st, ¬ FOk f.first (f.list.take (i + 1)) → GhostV [.int .i64 270] st (fun vs st => (mkres vs).pure = true ∧ CheckR f (mkres vs)) := fun st hb =>
      GhostV.refl ⟨rfl, false, rfl, by simp; exact fun h => hb h.2.2.take⟩
    simp only [hsn, FOk.snoc] at bad'
    simp [hlt]
    by_cases hA : f.list[i].id < f.first
    · simp [hA]
      exact bad' _ (fun h => by have := h.2.1; omega)
    · simp [hA]
      have hB : (0 < i → f.list[i - 1].id < f.list[i].id) ∨ (∃ h : 0 < i, ¬ f.list[i - 1].id < f.list[i].id) := by
        by_cases h : 0 < i → f.list[i - 1].id < f.list[i].id
        · exact .inl h
        · refine .inr ⟨?_, ?_⟩
          · exact Nat.pos_of_ne_zero (fun e => h (fun h' => by omega))
          · exact fun h' => h (fun _ => h')
      rcases hB with hB | ⟨h0, hB⟩
      · have e2 : IntKind.i64.wrap ((i : Int) + 1) = ((i + 1 : Nat) : Int) := by rw [wrap_i64 (by omega)]; omega
        have hall : ∀ a ∈ f.list.take i, a.id < f.list[i].id := by
          intro a ha
          obtain ⟨j, hj, rfl⟩ := List.mem_take_iff_getElem.1 ha
          have hr : Rising (f.list.take i) := hok.2.1
          have := hB (by omega)
          by_cases e : j = i - 1
          · subst e; exact this
          · have h3 := hr.lt (i := j) (j := i - 1) (by omega) (by simp; omega)
            simp at h3; omega
        by_cases h0 : 0 < i
        · have e1 : IntKind.i64.wrap ((i : Int) - 1) = ((i - 1 : Nat) : Int) := by rw [wrap_i64 (by omega)]; omega
          have hi1 : i - 1 < f.list.length := by omega
          have hB' : ¬ f.list[i].id ≤ f.list[i - 1].id := by have := hB h0; omega
          simp [hA, h0, e1, hi1, hB']
          by_cases hn : 0 < f.list[i].number
          · simp [hn, mfind_nat]
            by_cases hk : f.list[i].number ∈ ks
            · simp [hk]
              refine bad' _ (fun h => ?_)
              obtain ⟨x, hx, hx'⟩ := (hks _).1 hk
              have := h.2.2.2 x hx
              omega
            · simp [hk, mfind_nat, e2]
              exact ⟨f.list.length - (i + 1), by omega, GhostV.take 2 ⟨i + 1, _, _, ks ++ [f.list[i].number], rfl, by omega, by simp [e2], by simp [entN]; exact ⟨rfl, rfl⟩, by rw [hsn]; exact keysNew hks hk, by rw [hsn, FOk.snoc]; exact ⟨hok, by omega, hall, fun a ha => .inr fun e => hk ((hks _).2 ⟨a, ha, e⟩)⟩⟩⟩
          · simp [hn, mfind_nat, e2]
            by_cases hk : f.list[i].number ∈ ks
            · simp [hk]
              exact ⟨f.list.length - (i + 1), by omega, GhostV.take 2 ⟨i + 1, _, _, ks, rfl, by omega, by simp [e2], by simp [setSame hk]; exact ⟨rfl, rfl⟩, by rw [hsn]; exact keysOld hks hk, by rw [hsn, FOk.snoc]; exact ⟨hok, by omega, hall, fun a ha => .inl (by omega)⟩⟩⟩
            · simp [hk]
              exact ⟨f.list.length - (i + 1), by omega, GhostV.take 2 ⟨i + 1, _, _, ks ++ [f.list[i].number], rfl, by omega, by simp [e2], by simp [entN]; exact ⟨rfl, rfl⟩, by rw [hsn]; exact keysNew hks hk, by rw [hsn, FOk.snoc]; exact ⟨hok, by omega, hall, fun a ha => .inl (by omega)⟩⟩⟩
        · simp [hA, h0]
          by_cases hn : 0 < f.list[i].number
          · simp [hn, mfind_nat]
            by_cases hk : f.list[i].number ∈ ks
            · simp [hk]
              refine bad' _ (fun h => ?_)
              obtain ⟨x, hx, hx'⟩ := (hks _).1 hk
              have := h.2.2.2 x hx
              omega
            · simp [hk, mfind_nat, e2]
              exact ⟨f.list.length - (i + 1), by omega, GhostV.take 2 ⟨i + 1, _, _, ks ++ [f.list[i].number], rfl, by omega, by simp [e2], by simp [entN]; exact ⟨rfl, rfl⟩, by rw [hsn]; exact keysNew hks hk, by rw [hsn, FOk.snoc]; exact ⟨hok, by omega, hall, fun a ha => .inr fun e => hk ((hks _).2 ⟨a, ha, e⟩)⟩⟩⟩
          · simp [hn, mfind_nat, e2]
            by_cases hk : f.list[i].number ∈ ks
            · simp [hk]
              exact ⟨f.list.length - (i + 1), by omega, GhostV.take 2 ⟨i + 1, _, _, ks, rfl, by omega, by simp [e2], by simp [setSame hk]; exact ⟨rfl, rfl⟩, by rw [hsn]; exact keysOld hks hk, by rw [hsn, FOk.snoc]; exact ⟨hok, by omega, hall, fun a ha => .inl (by omega)⟩⟩⟩
            · simp [hk]
              exact ⟨f.list.length - (i + 1), by omega, GhostV.take 2 ⟨i + 1, _, _, ks ++ [f.list[i].number], rfl, by omega, by simp [e2], by simp [entN]; exact ⟨rfl, rfl⟩, by rw [hsn]; exact keysNew hks hk, by rw [hsn, FOk.snoc]; exact ⟨hok, by omega, hall, fun a ha => .inl (by omega)⟩⟩⟩
      · have e1 : IntKind.i64.wrap ((i : Int) - 1) = ((i - 1 : Nat) : Int) := by rw [wrap_i64 (by omega)]; omega
        have hi1 : i - 1 < f.list.length := by omega
        have hB' : f.list[i].id ≤ f.list[i - 1].id := by omega
        simp [hA, h0, e1, hi1, hB']
        refine bad' _ (fun h => ?_)
        have := h.2.2.1 f.list[i - 1] (List.mem_take_iff_getElem.2 ⟨i - 1, by omega, rfl⟩)
        omega
  · have : i = f.list.length := by omega
    subst this
    simp
    refine GhostV.refl ⟨rfl, true, rfl, by simp; exact ⟨by omega, by omega, by simpa using hok⟩⟩
end Go.Proofs.Ytmjnpfackanhlaa.AM

namespace Go.Proofs.Ytmjnpfackanhlaa.AM
open Go
set_option linter.unusedVariables false
set_option linter.unusedSimpArgs false
variable {P : Program}

structure VisR (P : Program) : Prop extends FateR P where
 counts : R_vision_look_counts P
 sees : R_vision_look_sees P
 box : R_key_box P
 key : R_key_Check P
 heap : R_heap_Check P
 check : R_vision_Check P
 Sees : R_vision_Sees P
 Dead : R_vision_Dead P

theorem FatesOk.rising {f : FatesT} (h : FatesOk f) : Rising f.list := h.2.2.2.1

def AnsR (f : FatesT) (t : TupleT) (b : Bool) (r : V) : Prop :=
 (¬ FatesOk f ∧ r = .tup [.bool false, .int .i64 270]) ∨ (FatesOk f ∧ tupS t = false ∧ r = .tup [.bool false, .int .i64 200]) ∨ (FatesOk f ∧ tupS t = true ∧ r = .tup [.bool b, .int .i64 0])

theorem vis_Sees (h : VisR P) (f : FatesT) (e : EyeT) (t : TupleT) (hl : f.list.length < 2 ^ 40) : PCalls P n_vision_Sees [vFates f, .agg (cEye e), .agg (cTuple t)] (AnsR f t (seesS f e t)) := by
 refine A_vision_Sees h.Sees ?_
 delta F_vision_Sees sp sd gp gd fl fd gl
 simp [st0]
 refine inv_p (vis_Check h.check f hl) (by simp) (by simp [pureLL]) ?_
 rintro _ ⟨ok, rfl, hok⟩
 cases ok
 ·simp
  exact GhostV.refl ⟨rfl, .inl ⟨fun h => by simpa using hok.2 h, rfl⟩⟩
 ·have hok := hok.1 rfl
  simp
  refine inv_p (heap_Check h.heap h.key h.box t) (by simp) (by simp) ?_
  rintro _ rfl
  cases ht : tupS t
  ·simp
   exact GhostV.refl ⟨rfl, .inr (.inl ⟨hok, ht, rfl⟩)⟩
  ·simp
   refine inv_p (sees h.toFateR h.counts h.sees f e t hl hok.rising) (by simp) (by simp [pureLL]) ?_
   rintro _ rfl
   simp
   exact GhostV.refl ⟨rfl, .inr (.inr ⟨hok, ht, rfl⟩)⟩

def deadS (f : FatesT) (hz : Nat) (t : TupleT) : Bool :=
 (!(fateS f t.xmin).2.1 && !(fateS f t.xmin).2.2) || ((fateS f t.xmax).2.1 && decide ((fateS f t.xmax).1 ≤ hz))

theorem vis_Dead (h : VisR P) (f : FatesT) (hz : Nat) (t : TupleT) (hl : f.list.length < 2 ^ 40) : PCalls P n_vision_Dead [vFates f, .int .u64 hz, .agg (cTuple t)] (AnsR f t (deadS f hz t)) := by
 refine A_vision_Dead h.Dead ?_
 delta F_vision_Dead sp sd gp gd fl fd gl
 simp [st0]
 refine inv_p (vis_Sees h f ⟨0, false, 0⟩ t hl) (by simp) (by simp [pureLL]) ?_
 rintro _ (⟨h1, rfl⟩ | ⟨h1, ht, rfl⟩ | ⟨h1, ht, rfl⟩)
 ·simp
  exact GhostV.refl ⟨rfl, .inl ⟨h1, rfl⟩⟩
 ·simp
  exact GhostV.refl ⟨rfl, .inr (.inl ⟨h1, ht, rfl⟩)⟩
 ·simp
  refine inv_p (fate h.toFateR f t.xmin hl h1.rising) (by simp) (by simp [pureLL]) ?_
  rintro _ rfl
  simp
  refine inv_p (fate h.toFateR f t.xmax hl h1.rising) (by simp) (by simp [pureLL]) ?_
  rintro _ rfl
  simp
  have fin : ∀ b : Bool, b = deadS f hz t → ∀ st, GhostV [.bool b, .int .i64 0] st fun vs st => (mkres vs).pure = true ∧ AnsR f t (deadS f hz t) (mkres vs) := by
   rintro _ rfl st
   exact GhostV.refl ⟨rfl, .inr (.inr ⟨h1, ht, rfl⟩)⟩
  unfold deadS at fin ⊢
  generalize fateS f t.xmin = a at *
  generalize fateS f t.xmax = b at *
  obtain ⟨a1, a2, a3⟩ := a
  obtain ⟨b1, b2, b3⟩ := b
  cases a2 <;> cases a3 <;> cases b2 <;> simp at fin ⊢ <;> exact fin _
end Go.Proofs.Ytmjnpfackanhlaa.AM

namespace Go.Proofs.Ytmjnpfackanhlaa.AM
open Go
set_option linter.unusedVariables false
set_option linter.unusedSimpArgs false
variable {P : Program}

def IndexR (l : List SpotT) (s : SpotT) (r : V) : Prop := ∃ n : Int, r = .int .i64 n ∧ (0 ≤ n ↔ s ∈ l)
def IndexI (l : List SpotT) (s : SpotT) (k : Nat) (v : V) (st : St) : Prop := ∃ i nv, k = l.length - i ∧ i ≤ l.length ∧ v = .int .i64 i ∧ st = ⟨[some (0, .mem 2 [cSpot s])], nv⟩ ∧ s ∉ l.take i

theorem Index_Spot (hR : R_slices_Index_Spot_Spot P) (l : List SpotT) (s : SpotT) (hl : l.length < 2 ^ 47) : PCalls P n_slices_Index_Spot_Spot [.sl .unk 2 (l.map cSpot) [], .agg (cSpot s)] (IndexR l s) := by
  refine A_slices_Index_Spot_Spot hR ?_
  delta F_slices_Index_Spot_Spot sp sd gp gd fl fd gl
  simp [st0]
  refine ⟨IndexI l s, ⟨l.length, GhostV.refl ⟨0, 1, by simp, by simp, by simp, by simp, by simp⟩⟩, ?_⟩
  rintro k1 v8 st ⟨i, nv, rfl, hi, rfl, rfl, hn⟩
  by_cases hlt : i < l.length
  · simp [hlt]
    by_cases he : s = l[i]
    · simp [← he]
      exact GhostV.refl ⟨rfl, i, rfl, by simp; rw [he]; exact List.getElem_mem hlt⟩
    · have he' : ¬ (s.page = l[i].page ∧ s.slot = l[i].slot) := fun h => he (by obtain ⟨a, b⟩ := s; generalize l[i] = x at h; obtain ⟨c, d⟩ := x; simp at h; simp [h.1, h.2])
      have e2 : IntKind.i64.wrap ((i : Int) + 1) = ((i + 1 : Nat) : Int) := by rw [wrap_i64 (by omega)]; omega
      have go : ∃ j, j < l.length - i ∧ GhostV [.int .i64 (IntKind.i64.wrap ((i : Int) + 1))] ⟨[some (0, .mem 2 [cSpot s])], nv⟩ (app (n := 1) (IndexI l s j)) :=
        ⟨l.length - (i + 1), by omega, GhostV.refl ⟨i + 1, nv, rfl, by omega, by rw [e2], rfl, fun h => by
          rw [take_snoc hlt, List.mem_append] at h
          rcases h with h | h
          · exact hn h
          · exact he (by simpa using h)⟩⟩
      by_cases hp : s.page = l[i].page
      · have hs : ¬ s.slot = l[i].slot := fun h => he' ⟨hp, h⟩
        simp [hp, hs]
        simpa [hp] using go
      · simp [hp]
        exact go
  · simp [hlt]
    exact GhostV.refl ⟨rfl, -1, rfl, by simp; rwa [List.take_of_length_le (by omega)] at hn⟩

theorem Contains_Spot (hI : R_slices_Index_Spot_Spot P) (hR : R_slices_Contains_Spot_Spot P) (l : List SpotT) (s : SpotT) (hl : l.length < 2 ^ 47) : PCalls P n_slices_Contains_Spot_Spot [.sl .unk 2 (l.map cSpot) [], .agg (cSpot s)] (fun r => r = .bool (decide (s ∈ l))) := by
 refine A_slices_Contains_Spot_Spot hR ?_
 delta F_slices_Contains_Spot_Spot sp sd gp gd fl fd gl
 simp [st0]
 refine inv_p (Index_Spot hI l s hl) (by simp) (by simp [pureLL]) ?_
 rintro _ ⟨n, rfl, hn⟩
 simp
 exact GhostV.refl (by simp [hn])

theorem Left_1 (hI : R_slices_Index_Spot_Spot P) (hC : R_slices_Contains_Spot_Spot P) (hR : R_vacuum_Left_1 P) (gone : List SpotT) (x : StoredT) (hl : gone.length < 2 ^ 47) :
  PCalls P n_vacuum_Left_1 [.agg (cStored x), .eptr [.sl .unk 2 (gone.map cSpot) []] 0] (fun r => r = .bool (decide (x.spot ∈ gone))) := by
 refine A_vacuum_Left_1 hR ?_
 delta F_vacuum_Left_1 sp sd gp gd fl fd gl
 simp [st0]
 refine inv_p (Contains_Spot hI hC gone x.spot hl) (by simp) (by simp [pureLL]) ?_
 rintro _ rfl
 simp
 exact GhostV.refl (by simp)

def fIdx (p : StoredT → Bool) (l : List StoredT) : Int := match l.findIdx? p with | some i => i | none => -1
def IdxI (p : StoredT → Bool) (l : List StoredT) (k : Nat) (v : V) (st : St) : Prop := ∃ i nv, k = l.length - i ∧ i ≤ l.length ∧ v = .int .i64 i ∧ st = ⟨[], nv⟩ ∧ ∀ x ∈ l.take i, p x = false

theorem IndexFunc (hR : R_slices_IndexFunc_Stored_Stored P) {k : FuncId} {first cap : List V} {p : StoredT → Bool} (l : List StoredT) (hl : l.length < 2 ^ 43) (h1 : pureL first = true) (h2 : pureL cap = true)
    (hf : ∀ x, PCalls P k (first ++ [.agg (cStored x)] ++ cap) (fun r => r = .bool (p x))) : PCalls P n_slices_IndexFunc_Stored_Stored [.sl .unk 10 (l.map cStored) [], .fn (.func k) first cap] (fun r => r = .int .i64 (fIdx p l)) := by
  refine A_slices_IndexFunc_Stored_Stored hR ?_
  delta F_slices_IndexFunc_Stored_Stored sp sd gp gd fl fd gl
  simp [st0]
  refine ⟨IdxI p l, ⟨l.length, GhostV.refl ⟨0, 0, by simp, by simp, by simp, by simp, by simp⟩⟩, ?_⟩
  rintro k1 v8 st ⟨i, nv, rfl, hi, rfl, rfl, hn⟩
  by_cases hlt : i < l.length
  · simp [hlt]
    refine inv_p (hf l[i]) (by simp) (by simp [pureL_append, h1, h2, pureL]) ?_
    rintro _ rfl
    cases hp : p l[i]
    · have e2 : IntKind.i64.wrap ((i : Int) + 1) = ((i + 1 : Nat) : Int) := by rw [wrap_i64 (by omega)]; omega
      simp
      exact ⟨l.length - (i + 1), by omega, GhostV.refl ⟨i + 1, nv, rfl, by omega, by rw [e2], rfl, fun x hx => by
        rw [take_snoc hlt, List.mem_append] at hx
        rcases hx with hx | hx
        · exact hn x hx
        · obtain rfl : x = l[i] := by simpa using hx
          exact hp⟩⟩
    · simp
      refine GhostV.refl ⟨rfl, ?_⟩
      have : l.findIdx? p = some i := by
        rw [List.findIdx?_eq_some_iff_getElem]
        exact ⟨hlt, hp, fun j hj => by
          have := hn l[j] (List.mem_take_iff_getElem.2 ⟨j, by omega, rfl⟩)
          simp [this]⟩
      simp [fIdx, this]
  · simp [hlt]
    refine GhostV.refl ⟨rfl, ?_⟩
    have : l.findIdx? p = none := by
      rw [List.findIdx?_eq_none_iff]
      rwa [List.take_of_length_le (by omega)] at hn
    simp [fIdx, this]

theorem Clone_Stored (hR : R_slices_Clone_Stored_Stored P) (l : List StoredT) (hl : l.length < 2 ^ 40) {L : List (Option (Nat × Obj))} {nv : Nat} {K : V → St → Prop}
  (h1 : l = [] → K (.sl .nil 0 [] []) ⟨L, nv⟩) (h2 : K (.msl L.length (nv + 1) 0 l.length) ⟨L ++ [some (nv + 1, .mem 10 (l.map cStored))], nv + 2⟩) :
  ACalls P n_slices_Clone_Stored_Stored [.sl .unk 10 (l.map cStored) []] ⟨L, nv⟩ K := by
 refine A_slices_Clone_Stored_Stored hR ?_
 delta F_slices_Clone_Stored_Stored sp sd gp gd fl fd gl
 cases l with
 | nil =>
  simp
  exact ⟨GhostV.refl (by simpa using h2), GhostV.refl (by simpa using h1 rfl)⟩
 | cons x l =>
  simp
  refine ⟨by simp at hl; omega, ?_⟩
  exact GhostV.refl (by simpa using h2)
end Go.Proofs.Ytmjnpfackanhlaa.AM

namespace Go.Proofs.Ytmjnpfackanhlaa.AM
open Go
set_option linter.unusedVariables false
set_option linter.unusedSimpArgs false
variable {P : Program}

structure DelRows (p : StoredT → Bool) (l : List StoredT) (i j : Nat) (rows : List (List V)) : Prop where
 jl : j ≤ l.length
 ij : i < j
 kept : ((l.take j).filter (fun x => !p x)).length = i
 len : rows.length = l.length
 ten : ∀ e ∈ rows, e.length = 10
 lo : rows.take i = ((l.take j).filter (fun x => !p x)).map cStored
 hi : rows.drop j = (l.drop j).map cStored

theorem DelRows.get {p : StoredT → Bool} {l : List StoredT} {i j : Nat} {rows : List (List V)} (h : DelRows p l i j rows) (hj : j < l.length) : rows[j]? = some (cStored l[j]) := by
 have := congrArg (fun x => x[0]?) h.hi
 simp [hj] at this
 simpa using this

theorem DelRows.drop {p : StoredT → Bool} {l : List StoredT} {i j : Nat} {rows : List (List V)} (h : DelRows p l i j rows) (hj : j < l.length) (hp : p l[j] = true) : DelRows p l i (j + 1) rows where
 jl := hj
 ij := by have := h.ij; omega
 kept := by rw [take_snoc hj, List.filter_append]; simp [hp, h.kept]
 len := h.len
 ten := h.ten
 lo := by rw [take_snoc hj, List.filter_append]; simp [hp, h.lo]
 hi := by
  have := congrArg (List.drop 1) h.hi
  simpa [List.drop_drop, ← List.map_drop] using this

theorem DelRows.keep {p : StoredT → Bool} {l : List StoredT} {i j : Nat} {rows : List (List V)} (h : DelRows p l i j rows) (hj : j < l.length) (hp : p l[j] = false) : DelRows p l (i + 1) (j + 1) (rows.set i (cStored l[j])) where
 jl := hj
 ij := by have := h.ij; omega
 kept := by rw [take_snoc hj, List.filter_append]; simp [hp, h.kept]
 len := by simp [h.len]
 ten := by
  intro e he
  rcases List.mem_or_eq_of_mem_set he with h' | rfl
  ·exact h.ten e h'
  ·rfl
 lo := by
  have hi : i < rows.length := by have := h.ij; have := h.len; omega
  rw [take_snoc hj, List.filter_append, List.map_append, ← h.lo]
  have : (rows.set i (cStored l[j])).take (i + 1) = rows.take i ++ [cStored l[j]] := by
   rw [take_snoc (by simpa using hi), List.take_set_of_le (by omega)]; simp
  rw [this]; simp [hp]
 hi := by
  rw [List.drop_set_of_lt (by have := h.ij; omega)]
  have := congrArg (List.drop 1) h.hi
  simpa [List.drop_drop, ← List.map_drop] using this

def DelI (p : StoredT → Bool) (l : List StoredT) (L : List (Option (Nat × Obj))) (id ver : Nat) (k : Nat) (v5 v6 : V) (st : St) : Prop :=
 ∃ (i j nv : Nat) (rows : List (List V)), k = l.length - j ∧ v5 = .int .i64 i ∧ v6 = .int .i64 j ∧ st = ⟨L.set id (some (ver, .mem 10 rows)), nv⟩ ∧ DelRows p l i j rows

theorem DeleteFunc (hI : R_slices_IndexFunc_Stored_Stored P) (hR : R_slices_DeleteFunc_Stored_Stored P) {k : FuncId} {cap cap' : List V} {p : StoredT → Bool} (l : List StoredT) (hl : l.length < 2 ^ 43)
    (hpc : pureL cap' = true) (hf : ∀ x, PCalls P k ([.agg (cStored x)] ++ cap') (fun r => r = .bool (p x)))
    {L : List (Option (Nat × Obj))} {nv id ver : Nat} (hL : L[id]? = some (some (ver, .mem 10 (l.map cStored)))) (hcap : ∀ L' nv', (∀ j, j ≠ id → j < L.length → L'[j]? = L[j]?) → Bors ⟨L', nv'⟩ cap cap')
    {K : V → St → Prop} (hk : ∀ nv' rows, rows.take ((l.filter fun x => !p x).length) = (l.filter fun x => !p x).map cStored → (l.filter fun x => !p x).length ≤ rows.length → K (.msl id ver 0 (l.filter fun x => !p x).length) ⟨L.set id (some (ver, .mem 10 rows)), nv'⟩) :
    ACalls P n_slices_DeleteFunc_Stored_Stored [.msl id ver 0 l.length, .fn (.func k) [] cap] ⟨L, nv⟩ K := by
  have hid : id < L.length := (List.getElem?_eq_some_iff.1 hL).1
  have hrow : ∀ i, i < l.length → ((l.map cStored).getD i []).length = 10 := fun i hi => by rw [getD_map _ _ _ hi]; rfl
  have bslice : ∀ (st : St) rows, st.get id ver = some (.mem 10 rows) → rows = l.map cStored → Bor st (.msl id ver 0 l.length) (.sl .unk 10 (l.map cStored) []) := by
    intro st rows ho hr
    subst hr
    exact .msl id ver 0 l.length 10 _ _ ho (by simp) (by simp) (fun i hi => hrow i hi) (fun i j hi hj => by rw [Nat.zero_add]; exact .refl _)
  refine A_slices_DeleteFunc_Stored_Stored hR ?_
  delta F_slices_DeleteFunc_Stored_Stored sp sd gp gd fl fd gl
  simp
  refine inv_look (IndexFunc hI (first := []) (cap := cap') (p := p) l hl rfl hpc (fun x => hf x)) ?_ (by simp [pureL, pureLL, hpc]) ?_
  · refine Bors.cons (bslice _ _ (by simp [St.get, hL]) rfl) (Bors.cons (.fn _ _ _ _ _ rfl (hcap L nv (fun _ _ _ => rfl)).1 (fun i hi => by simp at hi) (hcap L nv (fun _ _ _ => rfl)).2) Bors.nil)
  intro r hr
  refine ⟨by subst hr; rfl, ?_⟩
  cases hfi : l.findIdx? p with
  | none =>
    have hall : l.filter (fun x => !p x) = l := by
      rw [List.filter_eq_self]; rw [List.findIdx?_eq_none_iff] at hfi; intro x hx; simp [hfi x hx]
    have hr' : r = .int .i64 (-1) := by rw [hr]; simp [fIdx, hfi]
    clear hr; subst hr'
    simp
    refine GhostV.refl ?_
    have := hk nv (l.map cStored)
    rw [hall] at this
    have := this (by rw [List.take_of_length_le (by simp)]) (by simp)
    have e : L.set id (some (ver, .mem 10 (l.map cStored))) = L := by
      apply List.ext_getElem?
      intro j
      by_cases h : id = j
      · subst h; rw [List.getElem?_set_self hid, hL]
      · rw [List.getElem?_set_ne h]
    rw [e] at this
    simpa using this
  | some i0 =>
    obtain ⟨hi0, hp0, hlt0⟩ := List.findIdx?_eq_some_iff_getElem.1 hfi
    have hne : ¬ ((i0 : Int) = -1) := by omega
    have e1 : IntKind.i64.wrap ((i0 : Int) + 1) = ((i0 + 1 : Nat) : Int) := by rw [wrap_i64 (by omega)]; omega
    have hr' : r = .int .i64 i0 := by rw [hr]; simp [fIdx, hfi]
    clear hr; subst hr'
    simp [hne, e1]
    have htk : (l.take (i0 + 1)).filter (fun x => !p x) = l.take i0 := by
      rw [take_snoc hi0, List.filter_append]
      simp [hp0]
      intro x hx
      obtain ⟨j, hj, rfl⟩ := List.mem_take_iff_getElem.1 hx
      simpa using hlt0 j (by omega)
    have hLs : L.set id (some (ver, .mem 10 (l.map cStored))) = L := by
      apply List.ext_getElem?
      intro j
      by_cases h : id = j
      · subst h; rw [List.getElem?_set_self hid, hL]
      · rw [List.getElem?_set_ne h]
    refine ⟨DelI p l L id ver, ⟨l.length - (i0 + 1), GhostV.refl ⟨i0, i0 + 1, nv, l.map cStored, rfl, rfl, by simp, by rw [hLs], ⟨hi0, by omega, by rw [htk]; simp; omega, by simp, ?_, by rw [htk, List.map_take], by rw [List.map_drop]⟩⟩⟩, ?_⟩
    · intro e he
      obtain ⟨x, _, rfl⟩ := List.mem_map.1 he
      rfl
    rintro k1 v5 v6 st ⟨i, j, nv1, rows, rfl, rfl, rfl, rfl, hd⟩
    by_cases hj : j < l.length
    · have hir : i < rows.length := by have := hd.ij; have := hd.len; omega
      have hri : rows[i]? = some rows[i] := List.getElem?_eq_getElem hir
      have hr10 : rows[i].length = 10 := hd.ten _ (List.getElem_mem hir)
      have hjr : j < rows.length := by have := hd.len; omega
      have hrj : rows[j] = cStored l[j] := by have := hd.get hj; rw [List.getElem?_eq_getElem hjr] at this; simpa using this
      simp [hj, hid, hjr, hrj, hd.len]
      refine inv_look (hf l[j]) (Bors.cons (.refl _) (hcap _ _ (fun q hq hq' => ?_))) (by simp [pureL_append, pureL, hpc]) ?_
      · rw [List.getElem?_append_left (by simpa using hq'), List.getElem?_set_ne (Ne.symm hq)]
      rintro _ rfl
      refine ⟨rfl, ?_⟩
      have e2 : IntKind.i64.wrap ((i : Int) + 1) = ((i + 1 : Nat) : Int) := by rw [wrap_i64 (by have := hd.ij; omega)]; omega
      have e3 : IntKind.i64.wrap ((j : Int) + 1) = ((j + 1 : Nat) : Int) := by rw [wrap_i64 (by omega)]; omega
      have hil : i < l.length := by have := hd.ij; omega
      have hdr : List.drop 10 rows[i] = [] := List.drop_eq_nil_of_le (by omega)
      cases hp : p l[j]
      · simp [hid, hil, hir, hr10, hd.len, splice, hdr]
        have hk2 := hd.keep hj hp
        refine ⟨l.length - (j + 1), by omega, GhostV.take L.length ?_⟩
        simp
        show DelI p l L id ver _ _ _ _
        exact ⟨i + 1, j + 1, _, rows.set i (cStored l[j]), rfl, by rw [e2], by rw [e3], rfl, hk2⟩
      · simp
        have hk2 := hd.drop hj hp
        refine ⟨l.length - (j + 1), by omega, GhostV.take L.length ?_⟩
        simp
        show DelI p l L id ver _ _ _ _
        exact ⟨i, j + 1, _, rows, rfl, rfl, by rw [e3], rfl, hk2⟩
    · have hjl : j = l.length := by have := hd.jl; omega
      subst hjl
      have hlo := hd.lo
      have hkept := hd.kept
      rw [List.take_length] at hlo hkept
      have hij := hd.ij
      have hle : i ≤ l.length := by omega
      have hs : i + (l.length - i) = l.length := by omega
      simp [hid, hd.len, hle, hs]
      refine GhostV.refl ?_
      simp only [mkres1]
      rw [← hkept]
      refine hk _ _ ?_ ?_
      · rw [hkept, List.take_append_of_le_length (by simp [hd.len]; omega), List.take_take, Nat.min_self]; exact hlo
      · rw [hkept]; simp [hd.len]; omega
theorem DeleteNil (hI : R_slices_IndexFunc_Stored_Stored P) (hR : R_slices_DeleteFunc_Stored_Stored P) {k : FuncId} {cap cap' : List V} {p : StoredT → Bool}
  (hpc : pureL cap' = true) (hf : ∀ x, PCalls P k ([.agg (cStored x)] ++ cap') (fun r => r = .bool (p x)))
  {st : St} (hcap : Bors st cap cap') {K : V → St → Prop} (hk : K (.sl .nil 0 [] []) st) :
  ACalls P n_slices_DeleteFunc_Stored_Stored [.sl .nil 0 [] [], .fn (.func k) [] cap] st K := by
 refine A_slices_DeleteFunc_Stored_Stored hR ?_
 delta F_slices_DeleteFunc_Stored_Stored sp sd gp gd fl fd gl
 simp
 have h0 := IndexFunc hI (first := []) (cap := cap') (p := p) [] (by simp) rfl hpc (fun x => hf x)
 refine inv_f0 (ACalls.le (h0.look (st := st) (args := [.sl .unk 10 [] [], .fn (.func k) [] cap]) (by simp [pureL, pureLL, hpc]) (Bors.cons (.refl _) (Bors.cons (.fn _ _ _ _ _ rfl hcap.1 (fun i hi => by simp at hi) hcap.2) Bors.nil)) ?_) (LeVs.cons (.nil _ _) (LeVs.refl _)))
 rintro _ rfl
 refine ⟨rfl, ?_⟩
 have : fIdx p [] = -1 := rfl
 simp [this]
 exact GhostV.refl hk

def leftS (l : List StoredT) (gone : List SpotT) : List StoredT := l.filter fun x => !decide (x.spot ∈ gone)

structure LeftR (P : Program) : Prop where
 idx : R_slices_Index_Spot_Spot P
 con : R_slices_Contains_Spot_Spot P
 fn : R_vacuum_Left_1 P
 idxf : R_slices_IndexFunc_Stored_Stored P
 del : R_slices_DeleteFunc_Stored_Stored P
 clone : R_slices_Clone_Stored_Stored P
 left : R_vacuum_Left P

theorem vac_Left (h : LeftR P) (l : List StoredT) (gone : List SpotT) (hl : l.length < 2 ^ 40) (hg : gone.length < 2 ^ 40) :
  PCalls P n_vacuum_Left [.sl .unk 10 (l.map cStored) [], .sl .unk 2 (gone.map cSpot) []] (fun r => r = .sl .unk 10 ((leftS l gone).map cStored) []) := by
 refine A_vacuum_Left h.left ?_
 delta F_vacuum_Left sp sd gp gd fl fd gl
 simp [st0]
 have hf : ∀ x, PCalls P n_vacuum_Left_1 ([.agg (cStored x)] ++ [.eptr [.sl .unk 2 (gone.map cSpot) []] 0]) (fun r => r = .bool (decide (x.spot ∈ gone))) := fun x => Left_1 h.idx h.con h.fn gone x (by omega)
 refine inv_f0 (Clone_Stored h.clone l hl ?_ ?_)
 ·rintro rfl
  simp
  refine inv_f0 (DeleteNil h.idxf h.del (by simp [pureL, pureLL]) hf (Bors.cons (.box1 (by simp [St.get])) Bors.nil) ?_)
  simp
  exact GhostV.le (LeVs.cons (.nil _ _) LeVs.nil) ⟨by simp [V.pure, pureLL], rfl⟩
 ·simp
  refine inv_f0 (DeleteFunc h.idxf h.del (L := [some (0, .mem 1 [[.sl .unk 2 (gone.map cSpot) []]]), some (2, .mem 10 (l.map cStored))]) (cap := [.ptr 0 0 0 0]) l (by omega) (by simp [pureL, pureLL]) hf (by rfl) ?_ ?_)
  ·intro L' nv' hL'
   have := hL' 0 (by decide) (by simp)
   exact Bors.cons (.box1 (by simp [St.get, this])) Bors.nil
  ·intro nv' rows h1 h2
   simp
   refine GhostV.row1 (by simp [St.get]; exact ⟨rfl, rfl⟩) (by simpa using h2) ?_
   simp only [mkres1, List.drop_zero, h1]
   exact ⟨by simp [V.pure, pureLL], rfl⟩

end Go.Proofs.Ytmjnpfackanhlaa.AM

namespace Go.Proofs.Ytmjnpfackanhlaa.AM
open Go
set_option linter.unusedVariables false
set_option linter.unusedSimpArgs false
variable {P : Program}

theorem vac_dead (hR : R_vacuum_dead P) (f : FatesT) (hz : Nat) (l : List StoredT) {L : List (Option (Nat × Obj))} {nv : Nat} {K : V → St → Prop}
  {fv : V} {st' : St} (hv : fv = .fn (.func n_vacuum_dead_1) [] [.ptr (L.length + 2) (nv + 2) 0 0, .ptr L.length nv 0 0, .ptr (L.length + 1) (nv + 1) 0 0])
  (hs : st' = ⟨L ++ [some (nv, .mem 2 [[.int .u64 f.first, .sl .unk 2 (f.list.map cFate) []]]), some (nv + 1, .mem 1 [[.int .u64 hz]]), some (nv + 2, .mem 1 [[.sl .unk 10 (l.map cStored) []]])], nv + 3⟩) (hk : K fv st') :
  ACalls P n_vacuum_dead [vFates f, .int .u64 hz, .sl .unk 10 (l.map cStored) []] ⟨L, nv⟩ K := by
 subst hv hs
 refine A_vacuum_dead hR ?_
 delta F_vacuum_dead sp sd gp gd fl fd gl
 simp
 exact GhostV.refl (by simpa using hk)

def dTold (f : FatesT) (hz : Nat) (l : List StoredT) : List (SpotT × Int) :=
 l.filterMap fun x => if tupS x.tuple then (if deadS f hz x.tuple then some (x.spot, 0) else none) else some (x.spot, 200)

structure DBox (f : FatesT) (hz : Nat) (l : List StoredT) (N i1 v1 i2 v2 i3 v3 : Nat) (L : List (Option (Nat × Obj))) : Prop where
 len : L.length = N
 b1 : L[i1]? = some (some (v1, .mem 1 [[.sl .unk 10 (l.map cStored) []]]))
 b2 : L[i2]? = some (some (v2, .mem 2 [[.int .u64 f.first, .sl .unk 2 (f.list.map cFate) []]]))
 b3 : L[i3]? = some (some (v3, .mem 1 [[.int .u64 hz]]))

def DeadI (f : FatesT) (hz : Nat) (l : List StoredT) (J : Nat → List (Option (Nat × Obj)) → Prop) (k : Nat) (v : V) (st : St) : Prop :=
 ∃ i L nv, k = l.length - i ∧ i ≤ l.length ∧ v = .int .i64 i ∧ st = ⟨L, nv⟩ ∧ J (dTold f hz (l.take i)).length L

theorem dead_1 (h : VisR P) (hR : R_vacuum_dead_1 P) (f : FatesT) (hz : Nat) (l : List StoredT) (hf : FatesOk f) (hl : l.length < 2 ^ 40) {yv : V} {N i1 v1 i2 v2 i3 v3 : Nat}
    (J : Nat → List (Option (Nat × Obj)) → Prop) (hJ : ∀ n L, J n L → DBox f hz l N i1 v1 i2 v2 i3 v3 L)
    {L0 : List (Option (Nat × Obj))} {nv0 : Nat} {K : V → St → Prop}
    (hy : ∀ (n : Nat) (s : SpotT) (e : Int) (L G : List (Option (Nat × Obj))) (nv : Nat) (K' : Kont), J n L → (dTold f hz l)[n]? = some (s, e) →
      (∀ L' G' nv', J (n + 1) L' → K'.f (.bool true) ⟨L' ++ G', nv'⟩) → (∀ L' G' nv', L'.length = N → (∀ nv'', K (.tup []) ⟨L', nv''⟩) → K'.f (.bool false) ⟨L' ++ G', nv'⟩) → @inv P yv [.agg (cSpot s), .int .i64 e] ⟨L ++ G, nv⟩ K')
    (h0 : J 0 L0) (hk : ∀ L nv, J (dTold f hz l).length L → K (.tup []) ⟨L, nv⟩) :
    ACalls P n_vacuum_dead_1 [yv, .ptr i1 v1 0 0, .ptr i2 v2 0 0, .ptr i3 v3 0 0] ⟨L0, nv0⟩ K := by
  have hb := hJ 0 L0 h0
  refine A_vacuum_dead_1 hR ?_
  delta F_vacuum_dead_1 sp sd gp gd fl fd gl
  simp [hb.b1]
  refine ⟨DeadI f hz l J, ⟨l.length, GhostV.refl ⟨0, L0, nv0, rfl, by omega, rfl, rfl, by simpa [dTold] using h0⟩⟩, ?_⟩
  rintro k1 v11 st ⟨i, L, nv, rfl, hi, rfl, rfl, hJi⟩
  have hb := hJ _ L hJi
  by_cases hlt : i < l.length
  · have e2 : IntKind.i64.wrap ((i : Int) + 1) = ((i + 1 : Nat) : Int) := by rw [wrap_i64 (by omega)]; omega
    simp [hlt, hb.b1, hb.b2, hb.b3]
    refine inv_p (vis_Dead h f hz l[i].tuple (by have := hf.2.1; omega)) (by simp) (by simp [pureL, pureLL]) ?_
    have hstep : dTold f hz (l.take (i + 1)) = dTold f hz (l.take i) ++ (if tupS l[i].tuple then (if deadS f hz l[i].tuple then [(l[i].spot, (0 : Int))] else []) else [(l[i].spot, 200)]) := by
      rw [take_snoc hlt]; unfold dTold; rw [List.filterMap_append]; congr 1
      simp only [List.filterMap_cons, List.filterMap_nil]
      split <;> (try split) <;> simp_all
    have hpre : ∀ (s : SpotT) (e : Int), dTold f hz (l.take (i + 1)) = dTold f hz (l.take i) ++ [(s, e)] → (dTold f hz l)[(dTold f hz (l.take i)).length]? = some (s, e) := by
      intro s e he
      have : dTold f hz l = dTold f hz (l.take (i + 1)) ++ dTold f hz (l.drop (i + 1)) := by
        conv => lhs; rw [← List.take_append_drop (i + 1) l]
        unfold dTold; rw [List.filterMap_append]
      rw [this, he]; simp
    rintro _ (⟨hn, _⟩ | ⟨_, ht, rfl⟩ | ⟨_, ht, rfl⟩)
    · exact absurd hf hn
    · -- what is no tuple
      simp [ht] at hstep
      have hp := hpre _ _ hstep
      simp
      refine hy _ _ _ L _ _ ⟨_⟩ hJi hp ?_ ?_
      · intro L' G' nv' hJ'
        simp
        refine ⟨l.length - (i + 1), by omega, ?_⟩
        have hL' := (hJ _ _ hJ').len
        refine GhostV.take N ?_
        refine ⟨i + 1, L', nv', rfl, by omega, by rw [e2], by simp [← hL'], by rw [hstep]; simpa using hJ'⟩
      · intro L' G' nv' hL' hK
        simp
        exact GhostV.take N (by simpa [← hL'] using hK nv')
    · cases hd : deadS f hz l[i].tuple
      · simp [ht, hd] at hstep
        simp
        refine ⟨l.length - (i + 1), by omega, ?_⟩
        refine GhostV.take N ⟨i + 1, L, _, rfl, by omega, by rw [e2], by simp [← hb.len]; rfl, by rw [hstep]; exact hJi⟩
      · simp [ht, hd] at hstep
        have hp := hpre _ _ hstep
        simp
        refine hy _ _ _ L _ _ ⟨_⟩ hJi hp ?_ ?_
        · intro L' G' nv' hJ'
          simp
          refine ⟨l.length - (i + 1), by omega, ?_⟩
          have hL' := (hJ _ _ hJ').len
          refine GhostV.take N ?_
          refine ⟨i + 1, L', nv', rfl, by omega, by rw [e2], by simp [← hL'], by rw [hstep]; simpa using hJ'⟩
        · intro L' G' nv' hL' hK
          simp
          exact GhostV.take N (by simpa [← hL'] using hK nv')
  · have : i = l.length := by omega
    subst this
    simp
    refine GhostV.refl ?_
    simpa using hk L nv (by simpa using hJi)
end Go.Proofs.Ytmjnpfackanhlaa.AM

namespace Go.Proofs.Ytmjnpfackanhlaa.AM
open Go
set_option linter.unusedVariables false
set_option linter.unusedSimpArgs false
variable {P : Program}

def deadL (f : FatesT) (hz : Nat) (l : List StoredT) : List SpotT := (l.filter fun x => deadS f hz x.tuple).map (·.spot)

def DeadR (f : FatesT) (hz : Nat) (l : List StoredT) (r : V) : Prop :=
 (¬ FatesOk f ∧ r = .tup [.sl .unk 2 [] [], .int .i64 270]) ∨ (FatesOk f ∧ (∃ x ∈ l, tupS x.tuple = false) ∧ r = .tup [.sl .unk 2 [] [], .int .i64 200]) ∨
 (FatesOk f ∧ (∀ x ∈ l, tupS x.tuple = true) ∧ r = .tup [.sl .unk 2 ((deadL f hz l).map cSpot) [], .int .i64 0])

theorem dTold_mem {f : FatesT} {hz : Nat} {l : List StoredT} {s : SpotT} {e : Int} (h : (s, e) ∈ dTold f hz l) : e = 0 ∨ (e = 200 ∧ ∃ x ∈ l, tupS x.tuple = false) := by
 unfold dTold at h
 obtain ⟨x, hx, hs⟩ := List.mem_filterMap.1 h
 split at hs
 ·split at hs
  ·simp at hs; exact .inl hs.2.symm
  ·simp at hs
 ·rename_i ht
  simp at hs; exact .inr ⟨hs.2.symm, x, hx, by simpa using ht⟩

theorem dTold_all {f : FatesT} {hz : Nat} {l : List StoredT} (h : ∀ p ∈ dTold f hz l, p.2 = 0) : (∀ x ∈ l, tupS x.tuple = true) ∧ (dTold f hz l).map (·.1) = deadL f hz l := by
  induction l with
  | nil => simp [dTold, deadL]
  | cons x l ih =>
    have hx : tupS x.tuple = true := by
      cases ht : tupS x.tuple
      · have := h (x.spot, 200) (by simp [dTold, ht])
        simp at this
      · rfl
    have h' : ∀ p ∈ dTold f hz l, p.2 = 0 := fun p hp => h p (by
      unfold dTold at hp ⊢
      obtain ⟨y, hy, e⟩ := List.mem_filterMap.1 hp
      exact List.mem_filterMap.2 ⟨y, by simp [hy], e⟩)
    obtain ⟨i1, i2⟩ := ih h'
    refine ⟨by simpa [hx] using i1, ?_⟩
    cases hd : deadS f hz x.tuple
    · have : dTold f hz (x :: l) = dTold f hz l := by simp [dTold, hx, hd]
      rw [this, i2]; simp [deadL, hd]
    · have : dTold f hz (x :: l) = (x.spot, 0) :: dTold f hz l := by simp [dTold, hx, hd]
      rw [this]; simp [deadL, hd]; exact i2

def dObjs (f : FatesT) (hz : Nat) (l : List StoredT) (r1 r2 : V) (lp : Obj) (va n : Nat) : List (Option (Nat × Obj)) :=
 [some (0, .mem 2 [[.int .u64 f.first, .sl .unk 2 (f.list.map cFate) []]]), some (1, .mem 1 [[r1]]), some (2, .mem 1 [[r2]]), some (3, .mem 1 [[.msl 8 va 0 n]]),
  some (4, .mem 2 [[.int .u64 f.first, .sl .unk 2 (f.list.map cFate) []]]), some (5, .mem 1 [[.int .u64 hz]]), some (6, .mem 1 [[.sl .unk 10 (l.map cStored) []]]), some (7, lp), some (va, .mem 2 ((((dTold f hz l).take n).map (·.1)).map cSpot))]
def DJ (f : FatesT) (hz : Nat) (l : List StoredT) (LP : LSt → Obj) (n : Nat) (L : List (Option (Nat × Obj))) : Prop :=
 ∃ va, n ≤ (dTold f hz l).length ∧ (∀ p ∈ (dTold f hz l).take n, p.2 = 0) ∧ L = dObjs f hz l (.sl .nil 0 [] []) (.int .i64 0) (LP .ready) va n

structure VacR (P : Program) : Prop extends VisR P where
 dead1 : R_vacuum_dead_1 P
 dead : R_vacuum_dead P
 vdead : R_vacuum_Dead P

theorem vac_Dead (h : VacR P) (f : FatesT) (hz : Nat) (l : List StoredT) (hfl : f.list.length < 2 ^ 40) (hl : l.length < 2 ^ 40) :
    PCalls P n_vacuum_Dead [vFates f, .int .u64 hz, .sl .unk 10 (l.map cStored) []] (DeadR f hz l) := by
  refine A_vacuum_Dead h.vdead ?_
  delta F_vacuum_Dead sp sd gp gd fl fd gl
  simp [st0]
  refine inv_p (vis_Check h.check f hfl) (by simp) (by simp [pureL, pureLL]) ?_
  rintro _ ⟨ok, rfl, hok⟩
  cases ok
  · simp
    exact GhostV.le (LeVs.cons (.nil 0 2) (LeVs.refl _)) ⟨by simp [V.pure, pureL, pureLL], .inl ⟨fun h => by simpa using hok.2 h, rfl⟩⟩
  have hf := hok.1 rfl
  simp
  refine inv_f0 (vac_dead h.dead f hz l (fv := .fn (.func n_vacuum_dead_1) [] [.ptr 6 6 0 0, .ptr 4 4 0 0, .ptr 5 5 0 0]) (st' := ⟨[some (0, .mem 2 [[.int .u64 f.first, .sl .unk 2 (f.list.map cFate) []]]), some (1, .mem 1 [[.sl .nil 0 [] []]]), some (2, .mem 1 [[.int .i64 0]]), some (3, .mem 1 [[.sl .nil 0 [] []]]),
    some (4, .mem 2 [[.int .u64 f.first, .sl .unk 2 (f.list.map cFate) []]]), some (5, .mem 1 [[.int .u64 hz]]), some (6, .mem 1 [[.sl .unk 10 (l.map cStored) []]])], 7⟩) rfl rfl ?_)
  intro LP HY
  simp
  refine AInvE_fn (first := []) ?_
  refine ACalls.ghost (ghost_nilbox (j := 3) (ver := 3) (s := 0) (sz := 2) (by decide) rfl) ?_
  simp
  refine dead_1 h.toVisR h.dead1 f hz l hf hl (N := 9) (DJ f hz l LP) ?_ ?_ ?_ ?_
  · rintro n L ⟨va, _, _, rfl⟩
    exact ⟨rfl, rfl, rfl, rfl⟩
  · rintro n s e L G nv ⟨K'⟩ ⟨va, hn, hz0, rfl⟩ hdl h1 h2
    have hlt : n < (dTold f hz l).length := (List.getElem?_eq_some_iff.1 hdl).1
    have hle : (dTold f hz l).length ≤ l.length := by unfold dTold; exact List.length_filterMap_le _ _
    refine HY _ K' _ _ (by simp [St.get, dObjs]) ?_
    rcases dTold_mem (List.mem_of_getElem? hdl) with rfl | ⟨rfl, hx⟩
    · have hrow : List.take (n + 1) (List.map (cSpot ∘ fun x => x.fst) (dTold f hz l)) = List.take n (List.map (cSpot ∘ fun x => x.fst) (dTold f hz l)) ++ [cSpot s] := by
        rw [take_snoc (by simpa using hlt)]
        have : (dTold f hz l)[n] = (s, 0) := by rw [List.getElem?_eq_getElem hlt] at hdl; simpa using hdl
        simp [this]
      have key := h1 (dObjs f hz l (.sl .nil 0 [] []) (.int .i64 0) (LP .ready) (nv + 1 + 1) (n + 1)) (G ++ [some (nv, .mem 2 [cSpot s]), some (nv + 1, .mem 2 [cSpot s])]) (nv + 1 + 1 + 1) ⟨_, by omega, by
        rw [take_snoc hlt]
        intro p hp
        rcases List.mem_append.1 hp with hp | hp
        · exact hz0 p hp
        · have : (dTold f hz l)[n] = (s, 0) := by rw [List.getElem?_eq_getElem hlt] at hdl; simpa using hdl
          rw [this] at hp; simp at hp; rw [hp], rfl⟩
      simp [dObjs, List.length_take, Nat.min_eq_left hn]
      simp [dObjs, hrow] at key
      exact ⟨by omega, key⟩
    · have key := h2 (dObjs f hz l (.sl .nil 0 [] []) (.int .i64 200) (LP (.done .ret)) va n) (G ++ [some (nv, .mem 2 [cSpot s])]) (nv + 1) rfl ?_
      · simp [dObjs]
        simp [dObjs] at key
        exact key
      · intro nv''
        refine ⟨.done .ret, by simp [dObjs], ?_⟩
        simp [dObjs, hend]
        exact GhostV.le (LeVs.cons (.nil 0 2) (LeVs.refl _)) ⟨by simp [V.pure, pureL, pureLL], .inr (.inl ⟨hf, hx, rfl⟩)⟩
  · exact ⟨8, by simp, by simp, by simp [dObjs]⟩
  · rintro L nv ⟨va, hn, hz0, rfl⟩
    rw [List.take_of_length_le (Nat.le_refl _)] at hz0
    obtain ⟨hall, hdl⟩ := dTold_all hz0
    refine ⟨.ready, by simp [dObjs], ?_⟩
    simp [dObjs, hend]
    refine GhostV.rowc (sz := 2) (by simp [St.get]; rfl) (by simp) ?_
    have e : List.take (dTold f hz l).length (List.map (cSpot ∘ fun x => x.fst) (dTold f hz l)) = (deadL f hz l).map cSpot := by
      rw [List.take_of_length_le (by simp), ← hdl, List.map_map]
    simp only [mkres2, List.drop_zero]
    refine ⟨?_, .inr (.inr ⟨hf, hall, ?_⟩)⟩
    · simp [V.pure, pureL, pureLL, e]
    · simp [e]
end Go.Proofs.Ytmjnpfackanhlaa.AM

namespace Go.Proofs.Ytmjnpfackanhlaa.AM
open Go
set_option linter.unusedVariables false
set_option linter.unusedSimpArgs false
variable {P : Program}

def spotOk (s : SpotT) : Prop := 0 ≤ s.page ∧ s.page < 32 ∧ 0 ≤ s.slot ∧ s.slot < 4
instance (s : SpotT) : Decidable (spotOk s) := by unfold spotOk; infer_instance

def EntryR (s : SpotT) (r : V) : Prop := (¬ spotOk s ∧ r = .tup [.int .u32 0, .int .i64 2]) ∨ (spotOk s ∧ r = .tup [.int .u32 (s.page * 4 + s.slot + 1), .int .i64 0])

theorem Entry (hR : R_vacuum_Entry P) (s : SpotT) : PCalls P n_vacuum_Entry [.agg (cSpot s)] (EntryR s) := by
 refine A_vacuum_Entry hR ?_
 delta F_vacuum_Entry sp sd gp gd fl fd gl
 simp [st0]
 have bad : ¬ spotOk s → ∀ st, GhostV [.int .u32 0, .int .i64 2] st fun vs st => (mkres vs).pure = true ∧ EntryR s (mkres vs) := fun h st => GhostV.refl ⟨rfl, .inl ⟨h, rfl⟩⟩
 by_cases h1 : s.page < 0
 ·simp [h1]; exact bad (by unfold spotOk; omega) _
 by_cases h2 : 32 ≤ s.page
 ·simp [h1, h2]; exact bad (by unfold spotOk; omega) _
 by_cases h3 : s.slot < 0
 ·simp [h1, h2, h3]; exact bad (by unfold spotOk; omega) _
 by_cases h4 : 4 ≤ s.slot
 ·simp [h1, h2, h3, h4]; exact bad (by unfold spotOk; omega) _
 have e1 : IntKind.i64.wrap (s.page * 4) = s.page * 4 := wrap_i64 (by omega)
 have e2 : IntKind.i64.wrap (s.page * 4 + s.slot) = s.page * 4 + s.slot := wrap_i64 (by omega)
 have e3 : IntKind.i64.wrap (s.page * 4 + s.slot + 1) = s.page * 4 + s.slot + 1 := wrap_i64 (by omega)
 have e4 : IntKind.u32.wrap (s.page * 4 + s.slot + 1) = s.page * 4 + s.slot + 1 := by simp [IntKind.wrap, IntKind.signed, IntKind.bits]; omega
 simp [h1, h2, h3, h4, e1, e2, e3, e4]
 exact GhostV.refl ⟨rfl, .inr ⟨by unfold spotOk; omega, rfl⟩⟩

theorem first18 (hR : R_gazetteerlaw18_first P) : PCalls P n_gazetteerlaw18_first [] (fun r => r = vFates ⟨3, [⟨3, 5⟩, ⟨4, 0⟩]⟩) := by
 refine A_gazetteerlaw18_first hR ?_
 delta F_gazetteerlaw18_first sp sd gp gd fl fd gl
 simp [st0]
 refine GhostV.trans (GhostV.freeze (K := fun vs st => vs = [.agg [.int .u64 3, .sl .unk 2 [[.int .u64 3, .int .u64 5], [.int .u64 4, .int .u64 0]] []]] ∧ st = ⟨[], 2⟩) (id := 1) (ver := 1) (sz := 2) (es := [[.int .u64 3, .int .u64 5], [.int .u64 4, .int .u64 0]])
  (vs' := [.agg [.int .u64 3, .sl .unk 2 [[.int .u64 3, .int .u64 5], [.int .u64 4, .int .u64 0]] []]]) (st' := ⟨[], 2⟩) rfl rfl rfl (fun i => ?_) (fun id1 ver1 o1 h => by simp at h) ⟨rfl, rfl⟩) ?_
 ·cases i with
  | zero =>
   refine .agg _ _ rfl (fun i hi => ?_)
   have : i = 0 ∨ i = 1 := by simp at hi; omega
   rcases this with rfl | rfl
   ·exact .refl _
   ·exact .msl 1 0 2 (by simp)
  | succ i => simpa using Frz.refl _
 ·rintro _ _ ⟨rfl, rfl⟩
  exact GhostV.refl ⟨rfl, rfl⟩

def wakeL : List StoredT := [⟨⟨0, 0⟩, ⟨1, 1, 3, ⟨0, 0, 0, 0⟩, 0⟩⟩, ⟨⟨0, 1⟩, ⟨1, 1, 4, ⟨0, 0, 0, 0⟩, 0⟩⟩, ⟨⟨0, 2⟩, ⟨1, 7, 0, ⟨0, 0, 0, 0⟩, 0⟩⟩]
def wakeF : FatesT := ⟨3, [⟨3, 5⟩, ⟨4, 0⟩]⟩

structure WakeR (P : Program) : Prop extends VacR P, LeftR P where
 first : R_gazetteerlaw18_first P
 entry : R_vacuum_Entry P
 wakes : R_gazetteerlaw18_wakes P

theorem wakes18 (h : WakeR P) : PCalls P n_gazetteerlaw18_wakes [] (fun r => r = .bool true) := by
 refine A_gazetteerlaw18_wakes h.wakes ?_
 delta F_gazetteerlaw18_wakes sp sd gp gd fl fd gl
 refine ⟨fun v st => v = .sl .unk 10 (wakeL.map cStored) [] ∧ ∃ nv, st = ⟨[], nv⟩, ?_, ?_⟩
 ·simp [st0]
  exact GhostV.row1 (sz := 10) rfl (by simp) ⟨rfl, _, rfl⟩
 rintro v st ⟨rfl, nv, rfl⟩
 simp
 refine inv_p (first18 h.first) rfl rfl ?_
 rintro _ rfl
 simp
 refine inv_p (vac_Dead h.toVacR wakeF 6 wakeL (by decide) (by decide)) rfl (by decide) ?_
 have hok : FatesOk wakeF := by
  refine ⟨by decide, by decide, ?_, ?_, ?_⟩ <;> decide
 have hall : ∀ x ∈ wakeL, tupS x.tuple = true := by decide
 have hdl : deadL wakeF 6 wakeL = [⟨0, 0⟩, ⟨0, 2⟩] := by decide
 rintro _ (⟨hn, _⟩ | ⟨_, ⟨x, hx, hx'⟩, _⟩ | ⟨_, _, rfl⟩)
 ·exact absurd hok hn
 ·rw [hall x hx] at hx'; cases hx'
 rw [hdl]
 simp
 refine inv_p (Entry h.entry ⟨1, 2⟩) rfl rfl ?_
 rintro _ (⟨hn, _⟩ | ⟨_, rfl⟩)
 ·exact absurd (by decide) hn
 simp
 refine inv_p (vac_Left h.toLeftR wakeL [⟨0, 0⟩, ⟨0, 2⟩] (by decide) (by decide)) rfl (by decide) ?_
 have hl : leftS wakeL [⟨0, 0⟩, ⟨0, 2⟩] = [⟨⟨0, 1⟩, ⟨1, 1, 4, ⟨0, 0, 0, 0⟩, 0⟩⟩] := by decide
 rintro _ rfl
 rw [hl]
 simp
 exact GhostV.refl ⟨rfl, rfl⟩
end Go.Proofs.Ytmjnpfackanhlaa.AM

namespace Go.Proofs.Ytmjnpfackanhlaa.AM
open Go
set_option linter.unusedVariables false
set_option linter.unusedSimpArgs false
variable {P : Program}

@[simp] theorem p_stored_take (n : Nat) (l : List StoredT) : pureLL (List.take n (l.map cStored)) = true := by rw [← List.map_take]; exact p_stored _
@[simp] theorem p_spot_take (n : Nat) (l : List SpotT) : pureLL (List.take n (l.map cSpot)) = true := by rw [← List.map_take]; exact p_spot _
@[simp] theorem p_fate_take (n : Nat) (l : List FateT) : pureLL (List.take n (l.map cFate)) = true := by rw [← List.map_take]; exact p_fate _
theorem items18 (hR : R_gazetteerlaw18_items P) (l : List StoredT) : PCalls P n_gazetteerlaw18_items [.sl .unk 10 (l.map cStored) []] (fun r => r = .sl .unk 10 ((l.take 130).map cStored) []) := by
  refine A_gazetteerlaw18_items hR ?_
  delta F_gazetteerlaw18_items sp sd gp gd fl fd gl
  simp [st0]
  by_cases h : (130 : Int) < l.length
  · have e : min 130 l.length = 130 := by omega
    simp [h, e]
    refine ⟨by omega, ?_⟩
    exact GhostV.row1 (sz := 10) rfl (by simp; omega) ⟨by simp [V.pure, List.take_take, ← List.map_take], by simp [mkres1, List.take_take]⟩
  · have e : List.take 130 (l.map cStored) = l.map cStored := List.take_of_length_le (by simp; omega)
    simp [h, e]
    refine ⟨by omega, ?_⟩
    exact GhostV.row1 (sz := 10) rfl (by simp) ⟨by simp [V.pure, List.take_take, ← List.map_take], by simp [mkres1, List.take_take, ← List.map_take]⟩

end Go.Proofs.Ytmjnpfackanhlaa.AM
namespace Go.Proofs.Ytmjnpfackanhlaa.AM
open Go
set_option linter.unusedVariables false
set_option linter.unusedSimpArgs false
variable {P : Program}

theorem take_all {α β : Type} (f : α → β) (l : List α) : List.take l.length (l.map f) = l.map f := List.take_of_length_le (by simp)
end Go.Proofs.Ytmjnpfackanhlaa.AM
namespace Go.Proofs.Ytmjnpfackanhlaa.AM
open Go
set_option linter.unusedVariables false
set_option linter.unusedSimpArgs false
variable {P : Program}

theorem Box09 (hR : R_gazetteerref09_Box P) (k : KeyT) : PCalls P n_gazetteerref09_Box [.agg (cKey k)] (fun r => r = .bool (decide (k.x0 ≤ k.x1) && decide (k.y0 ≤ k.y1))) := by
 refine A_gazetteerref09_Box hR ?_
 delta F_gazetteerref09_Box sp sd gp gd fl fd gl
 simp [st0]
 by_cases h1 : k.x0 ≤ k.x1
 ·simp [h1]; exact GhostV.refl ⟨rfl, by simp [h1]⟩
 ·simp [h1]; exact GhostV.refl ⟨rfl, by simp [h1]⟩

theorem Right10 (hB : R_gazetteerref09_Box P) (hR : R_gazetteerref10_Right P) (t : TupleT) : PCalls P n_gazetteerref10_Right [.agg (cTuple t)] (fun r => r = .bool (tupS t)) := by
 refine A_gazetteerref10_Right hR ?_
 delta F_gazetteerref10_Right sp sd gp gd fl fd gl
 simp [st0]
 have no : tupS t = false → ∀ st, GhostV [.bool false] st fun vs st => (mkres vs).pure = true ∧ mkres vs = .bool (tupS t) := fun h st => GhostV.refl ⟨rfl, by simp [h]⟩
 by_cases h1 : (1 : Int) ≤ t.row
 ·by_cases h2 : (1 : Int) ≤ t.xmin
  ·by_cases h3 : (t.xmin : Int) ≤ 4294967295
   ·by_cases h4 : (t.xmax : Int) ≤ 4294967295
    ·simp [h1, h2, h3, h4]
     refine inv_p (Box09 hB t.key) (by simp) (by simp [pureL, pureLL]) ?_
     rintro _ rfl
     simp
     have e : tupS t = boxS t.key := by
      have a1 : ¬ t.row = 0 := by omega
      have a2 : ¬ t.xmin = 0 := by omega
      have a3 : ¬ 4294967295 < t.xmin := by omega
      have a4 : ¬ 4294967295 < t.xmax := by omega
      simp [tupS, a1, a2, a3, a4]
     exact GhostV.refl ⟨rfl, by simp [e, boxS]⟩
    ·simp [h1, h2, h3, h4]; exact no (by simp [tupS]; omega) _
   ·simp [h1, h2, h3]; exact no (by simp [tupS]; omega) _
  ·simp [h1, h2]; exact no (by simp [tupS]; omega) _
 ·simp [h1]; exact no (by simp [tupS]; omega) _

theorem find_first {α : Type} {p : α → Bool} {l : List α} {i : Nat} (h : i < l.length) (hn : ∀ x ∈ l.take i, p x = false) (hp : p l[i] = true) : l.find? p = some l[i] := by
 have e : l.find? p = (l.take i ++ l.drop i).find? p := by rw [List.take_append_drop]
 rw [e, List.find?_append, List.find?_eq_none.2 (fun x hx => by simp [hn x hx]), Option.none_or, List.drop_eq_getElem_cons h, List.find?_cons, hp]
def AllI (l : List StoredT) (k : Nat) (v : V) (st : St) : Prop := ∃ i nv, k = l.length - i ∧ i ≤ l.length ∧ v = .int .i64 i ∧ st = ⟨[], nv⟩ ∧ ∀ x ∈ l.take i, tupS x.tuple = true
theorem All17 (hB : R_gazetteerref09_Box P) (h10 : R_gazetteerref10_Right P) (hR : R_gazetteerref17_All P) (l : List StoredT) (hl : l.length < 2 ^ 47) : PCalls P n_gazetteerref17_All [.sl .unk 10 (l.map cStored) []] (fun r => r = .bool (l.all fun x => tupS x.tuple)) := by
 refine A_gazetteerref17_All hR ?_
 delta F_gazetteerref17_All sp sd gp gd fl fd gl
 refine ⟨AllI l, ⟨l.length, GhostV.refl ⟨0, 0, by simp, by simp, rfl, rfl, by simp⟩⟩, ?_⟩
 rintro k1 v8 st ⟨i, nv, rfl, hi, rfl, rfl, hn⟩
 by_cases hlt : i < l.length
 ·simp [hlt]
  refine inv_p (Right10 hB h10 l[i].tuple) (by simp) (by simp [pureL, pureLL]) ?_
  rintro _ rfl
  cases ht : tupS l[i].tuple
  ·simp
   exact GhostV.refl ⟨rfl, by simp; exact ⟨l[i], List.getElem_mem hlt, ht⟩⟩
  ·simp
   have e2 : IntKind.i64.wrap ((i : Int) + 1) = ((i + 1 : Nat) : Int) := by rw [wrap_i64 (by omega)]; omega
   refine ⟨l.length - (i + 1), by omega, GhostV.refl ⟨i + 1, nv, rfl, by omega, by rw [e2], rfl, fun x hx => ?_⟩⟩
   rw [take_snoc hlt, List.mem_append] at hx
   rcases hx with hx | hx
   ·exact hn x hx
   ·simp at hx; subst hx; exact ht
 ·simp [hlt]
  rw [List.take_of_length_le (by omega)] at hn
  exact GhostV.refl ⟨rfl, by simp; exact hn⟩

def refFate (f : FatesT) (id : Nat) : Int × Nat :=
 if id = 0 then (0, 0) else if id < f.first then (1, 0) else
  match f.list.find? (fun x => x.id == id) with
  | none => (3, 0)
  | some x => if x.number = 0 then (2, 0) else (1, x.number)
def FateI (f : FatesT) (id : Nat) (k : Nat) (v : V) (st : St) : Prop := ∃ i nv, k = f.list.length - i ∧ i ≤ f.list.length ∧ v = .int .i64 i ∧ st = ⟨[some (0, .mem 2 [[.int .u64 f.first, .sl .unk 2 (f.list.map cFate) []]])], nv⟩ ∧ ∀ x ∈ f.list.take i, x.id ≠ id
theorem Fate17 (hR : R_gazetteerref17_Fate P) (f : FatesT) (id : Nat) (hl : f.list.length < 2 ^ 47) : PCalls P n_gazetteerref17_Fate [vFates f, .int .u64 id] (fun r => r = .tup [.int .i64 (refFate f id).1, .int .u64 (refFate f id).2]) := by
  refine A_gazetteerref17_Fate hR ?_
  delta F_gazetteerref17_Fate sp sd gp gd fl fd gl
  simp [st0]
  by_cases h0 : id = 0
  · simp [h0]; exact GhostV.refl ⟨rfl, by simp [refFate, h0]⟩
  by_cases h1 : id < f.first
  · simp [h0, h1]; exact GhostV.refl ⟨rfl, by simp [refFate, h0, h1]⟩
  simp [h0, h1]
  refine ⟨FateI f id, ⟨f.list.length, GhostV.refl ⟨0, 1, by simp, by simp, by simp, by simp, by simp⟩⟩, ?_⟩
  rintro k1 v8 st ⟨i, nv, rfl, hi, rfl, rfl, hn⟩
  by_cases hlt : i < f.list.length
  · have hg : f.list[i]? = some f.list[i] := List.getElem?_eq_getElem hlt
    simp [hlt, hg]
    by_cases he : f.list[i].id = id
    · have hf : f.list.find? (fun x => x.id == id) = some f.list[i]   := find_first hlt (fun x hx => by simpa using hn x hx) (by simp [he])
      by_cases hz : f.list[i].number = 0
      · simp [he, hz, hlt, hg]
        exact GhostV.refl ⟨rfl, by simp [refFate, h0, h1, hf, hz]⟩
      · simp [he, hz, hlt, hg]
        exact GhostV.refl ⟨rfl, by simp [refFate, h0, h1, hf, hz]⟩
    · simp [he, hlt, hg]
      have e2 : IntKind.i64.wrap ((i : Int) + 1) = ((i + 1 : Nat) : Int) := by rw [wrap_i64 (by omega)]; omega
      refine ⟨f.list.length - (i + 1), by omega, GhostV.refl ⟨i + 1, nv, rfl, by omega, by rw [e2], rfl, fun x hx => ?_⟩⟩
      rw [take_snoc hlt, List.mem_append] at hx
      rcases hx with hx | hx
      · exact hn x hx
      · simp at hx; subst hx; exact he
  · simp [hlt]
    rw [List.take_of_length_le (by omega)] at hn
    have hf : f.list.find? (fun x => x.id == id) = none := List.find?_eq_none.2 (fun x hx => by simpa using hn x hx)
    exact GhostV.refl ⟨rfl, by simp [refFate, h0, h1, hf]⟩

end Go.Proofs.Ytmjnpfackanhlaa.AM
namespace Go.Proofs.Ytmjnpfackanhlaa.AM
open Go
set_option linter.unusedVariables false
set_option linter.unusedSimpArgs false
variable {P : Program}

theorem GhostV.agg2 {a : V} {id ver len sz : Nat} {es : List (List V)} {st : St} {K : List V → St → Prop} (ho : st.get id ver = some (.mem sz es)) (h : len = es.length) (hk : K [.agg [a, .sl .unk sz es []]] ⟨[], st.nv⟩) : GhostV [.agg [a, .msl id ver 0 len]] st K := by
  subst h
  refine GhostV.freeze (vs' := [.agg [a, .sl .unk sz es []]]) (st' := ⟨[], st.nv⟩) ho rfl rfl (fun i => ?_) (fun id1 ver1 o1 h => by simp at h) hk
  cases i with
  | zero =>
    refine .agg _ _ rfl (fun i hi => ?_)
    have : i = 0 ∨ i = 1 := by simp at hi; omega
    rcases this with rfl | rfl
    · exact .refl _
    · have := Frz.msl (ver := ver) (sz := sz) (es := es) id 0 es.length (by omega)
      simpa using this
  | succ i => simpa using Frz.refl _
theorem fates18 (hR : R_gazetteerlaw18_fates P) (f : FatesT) : PCalls P n_gazetteerlaw18_fates [vFates f] (fun r => r = vFates ⟨f.first, f.list.take 257⟩) := by
  refine A_gazetteerlaw18_fates hR ?_
  delta F_gazetteerlaw18_fates sp sd gp gd fl fd gl
  simp [st0]
  by_cases h : (257 : Int) < f.list.length
  · have e : min 257 f.list.length = 257 := by omega
    simp [h, e]
    exact ⟨by omega, GhostV.agg2 (sz := 2) (es := List.take 257 (List.map cFate f.list)) (by simp [St.get]) (by simp; omega) ⟨by simp [V.pure, pureL], by simp [mkres1]⟩⟩
  · have e : List.take 257 (f.list.map cFate) = f.list.map cFate := List.take_of_length_le (by simp; omega)
    simp [h, e]
    exact ⟨by omega, GhostV.agg2 (sz := 2) (es := List.map cFate f.list) (by simp [St.get, take_all]) (by simp) ⟨by simp [V.pure, pureL], by simp [mkres1]⟩⟩
end Go.Proofs.Ytmjnpfackanhlaa.AM
namespace Go.Proofs.Ytmjnpfackanhlaa.AM
open Go
set_option linter.unusedVariables false
set_option linter.unusedSimpArgs false
variable {P : Program}

def vRight (f : FatesT) (r : V) : Prop := ∃ b, r = .bool b ∧ (b = true ↔ FatesOk f)
structure DeadLawR (P : Program) : Prop extends WakeR P where
 items : R_gazetteerlaw18_items P
 fates18 : R_gazetteerlaw18_fates P
 right17 : R_gazetteerref17_Right P
 all17 : R_gazetteerref17_All P
 fate17 : R_gazetteerref17_Fate P
 right10 : R_gazetteerref10_Right P
 box09 : R_gazetteerref09_Box P

end Go.Proofs.Ytmjnpfackanhlaa.AM
namespace Go.Proofs.Ytmjnpfackanhlaa.AM
open Go
set_option linter.unusedVariables false
set_option linter.unusedSimpArgs false
variable {P : Program}

def RightI (f : FatesT) (k : Nat) (v : V) (st : St) : Prop := ∃ i nv, k = f.list.length - i ∧ i ≤ f.list.length ∧ v = .int .i64 i ∧ st = ⟨[some (0, .mem 2 [[.int .u64 f.first, .sl .unk 2 (f.list.map cFate) []]])], nv⟩ ∧ FOk f.first (f.list.take i)
def RightJ (f : FatesT) (i nv : Nat) (x : FateT) (k : Nat) (v : V) (st : St) : Prop := ∃ j, k = i - j ∧ j ≤ i ∧ v = .int .i64 j ∧
 st = ⟨[some (0, .mem 2 [[.int .u64 f.first, .sl .unk 2 (f.list.map cFate) []]]), some (nv, .mem 2 [cFate x])], nv + 1⟩ ∧ ∀ a ∈ f.list.take j, x.number = 0 ∨ a.number ≠ x.number
theorem Right17 (hR : R_gazetteerref17_Right P) (f : FatesT) (hl : f.list.length < 2 ^ 40) : PCalls P n_gazetteerref17_Right [vFates f] (vRight f) := by
  refine A_gazetteerref17_Right hR ?_
  delta F_gazetteerref17_Right sp sd gp gd fl fd gl
  simp [st0]
  by_cases h1 : f.first = 0
  · simp [h1]
    exact GhostV.refl ⟨rfl, false, rfl, by simp [FatesOk, h1]⟩
  by_cases h2 : (256 : Int) < f.list.length
  · simp [h1, h2]
    exact GhostV.refl ⟨rfl, false, rfl, by simp [FatesOk]; omega⟩
  simp [h1, h2]
  refine ⟨RightI f, ⟨f.list.length, GhostV.refl ⟨0, 1, by simp, by simp, by simp, rfl, by simp [FOk]⟩⟩, ?_⟩
  rintro k1 v19 st ⟨i, nv, rfl, hi, rfl, rfl, hok⟩
  by_cases hlt : i < f.list.length
  · have hsn := take_snoc hlt
    have hg : f.list[i]? = some f.list[i] := List.getElem?_eq_getElem hlt
    have bad' : ∀ st, ¬ FOk f.first (f.list.take (i + 1)) → GhostV [.bool false] st (fun vs st => (mkres vs).pure = true ∧ vRight f (mkres vs)) := fun st hb =>
      GhostV.refl ⟨rfl, false, rfl, by simp; exact fun h => hb h.2.2.take⟩
    simp only [hsn, FOk.snoc] at bad'
    have e2 : IntKind.i64.wrap ((i : Int) + 1) = ((i + 1 : Nat) : Int) := by rw [wrap_i64 (by omega)]; omega
    simp [hlt]
    by_cases hA : f.list[i].id < f.first
    · simp [hA, hlt]
      exact bad' _ (fun h => by have := h.2.1; omega)
    simp [hA]
    by_cases h0 : 0 < i
    · have e1 : IntKind.i64.wrap ((i : Int) - 1) = ((i - 1 : Nat) : Int) := by rw [wrap_i64 (by omega)]; omega
      have hi1 : i - 1 < f.list.length := by omega
      have hg1 : f.list[i - 1]? = some f.list[i - 1] := List.getElem?_eq_getElem hi1
      by_cases hB : f.list[i].id ≤ f.list[i - 1].id
      · simp [hA, h0, e1, hi1, hg1, hB]
        refine bad' _ (fun h => ?_)
        have := h.2.2.1 f.list[i - 1] (List.mem_take_iff_getElem.2 ⟨i - 1, by omega, rfl⟩)
        omega
      · simp [hA, h0, e1, hi1, hg1, hB]
        have hall : ∀ a ∈ f.list.take i, a.id < f.list[i].id := by
          intro a ha
          obtain ⟨j, hj, rfl⟩ := List.mem_take_iff_getElem.1 ha
          have hr : Rising (f.list.take i) := hok.2.1
          by_cases e : j = i - 1
          · subst e; omega
          · have h3 := hr.lt (i := j) (j := i - 1) (by omega) (by simp; omega)
            simp at h3; omega
        refine ⟨RightJ f i nv f.list[i], ⟨i, GhostV.refl ⟨0, by simp, by simp, rfl, rfl, by simp⟩⟩, ?_⟩
        rintro k2 v5 st ⟨j, rfl, hj, rfl, rfl, hn⟩
        by_cases hji : j < i
        · have hjl : j < f.list.length := by omega
          have hgj : f.list[j]? = some f.list[j] := List.getElem?_eq_getElem hjl
          have e3 : IntKind.i64.wrap ((j : Int) + 1) = ((j + 1 : Nat) : Int) := by rw [wrap_i64 (by omega)]; omega
          have next : (f.list[i].number = 0 ∨ f.list[j].number ≠ f.list[i].number) → ∃ m, m < i - j ∧ GhostV [.int .i64 (IntKind.i64.wrap ((j : Int) + 1))] ⟨[some (0, .mem 2 [[.int .u64 f.first, .sl .unk 2 (f.list.map cFate) []]]), some (nv, .mem 2 [cFate f.list[i]])], nv + 1⟩ (app (n := 1) (RightJ f i nv f.list[i] m)) := fun hh =>
            ⟨i - (j + 1), by omega, GhostV.refl ⟨j + 1, rfl, by omega, by rw [e3], rfl, fun a ha => by
              rw [take_snoc hjl, List.mem_append] at ha
              rcases ha with ha | ha
              · exact hn a ha
              · simp at ha; subst ha; exact hh⟩⟩
          by_cases hz : f.list[i].number = 0
          · simp [hji, hz]
            simpa [hz] using next (.inl hz)
          · by_cases he : f.list[j].number = f.list[i].number
            · simp [hji, hz, hjl, hgj, he]
              refine bad' _ (fun h => ?_)
              rcases h.2.2.2 f.list[j] (List.mem_take_iff_getElem.2 ⟨j, by omega, rfl⟩) with h | h
              · exact hz h
              · exact h he
            · simp [hji, hz, hjl, hgj, he]
              simpa using next (.inr he)
        · simp [hji]
          have hji' : j = i := by omega
          subst hji'
          exact ⟨f.list.length - (j + 1), by omega, GhostV.take 1 ⟨j + 1, _, rfl, by omega, by rw [e2], rfl, by rw [hsn, FOk.snoc]; exact ⟨hok, by omega, hall, hn⟩⟩⟩
    · simp [hA, h0]
      have hall : ∀ a ∈ f.list.take i, a.id < f.list[i].id := by
        intro a ha
        obtain ⟨j, hj, rfl⟩ := List.mem_take_iff_getElem.1 ha
        omega
      refine ⟨RightJ f i nv f.list[i], ⟨i, GhostV.refl ⟨0, by simp, by simp, rfl, rfl, by simp⟩⟩, ?_⟩
      rintro k2 v5 st ⟨j, rfl, hj, rfl, rfl, hn⟩
      by_cases hji : j < i
      · have hjl : j < f.list.length := by omega
        have hgj : f.list[j]? = some f.list[j] := List.getElem?_eq_getElem hjl
        have e3 : IntKind.i64.wrap ((j : Int) + 1) = ((j + 1 : Nat) : Int) := by rw [wrap_i64 (by omega)]; omega
        have next : (f.list[i].number = 0 ∨ f.list[j].number ≠ f.list[i].number) → ∃ m, m < i - j ∧ GhostV [.int .i64 (IntKind.i64.wrap ((j : Int) + 1))] ⟨[some (0, .mem 2 [[.int .u64 f.first, .sl .unk 2 (f.list.map cFate) []]]), some (nv, .mem 2 [cFate f.list[i]])], nv + 1⟩ (app (n := 1) (RightJ f i nv f.list[i] m)) := fun hh =>
          ⟨i - (j + 1), by omega, GhostV.refl ⟨j + 1, rfl, by omega, by rw [e3], rfl, fun a ha => by
            rw [take_snoc hjl, List.mem_append] at ha
            rcases ha with ha | ha
            · exact hn a ha
            · simp at ha; subst ha; exact hh⟩⟩
        by_cases hz : f.list[i].number = 0
        · simp [hji, hz]
          simpa [hz] using next (.inl hz)
        · by_cases he : f.list[j].number = f.list[i].number
          · simp [hji, hz, hjl, hgj, he]
            refine bad' _ (fun h => ?_)
            rcases h.2.2.2 f.list[j] (List.mem_take_iff_getElem.2 ⟨j, by omega, rfl⟩) with h | h
            · exact hz h
            · exact h he
          · simp [hji, hz, hjl, hgj, he]
            simpa using next (.inr he)
      · simp [hji]
        have hji' : j = i := by omega
        subst hji'
        exact ⟨f.list.length - (j + 1), by omega, GhostV.take 1 ⟨j + 1, _, rfl, by omega, by rw [e2], rfl, by rw [hsn, FOk.snoc]; exact ⟨hok, by omega, hall, hn⟩⟩⟩
  · simp [hlt]
    rw [List.take_of_length_le (by omega)] at hok
    exact GhostV.refl ⟨rfl, true, rfl, by simp [FatesOk]; exact ⟨by omega, by omega, hok⟩⟩
end Go.Proofs.Ytmjnpfackanhlaa.AM

namespace Go.Proofs.Ytmjnpfackanhlaa.AM
open Go
set_option linter.unusedVariables false
set_option linter.unusedSimpArgs false
variable {P : Program}

structure SpotsR (P : Program) : Prop where
 rspot : R_gazetteerref18_Spot P
 rentry : R_gazetteerref18_Entry P

theorem rSpot18 (h : SpotsR P) (s : SpotT) : PCalls P n_gazetteerref18_Spot [.agg (cSpot s)] (fun r => r = .bool (decide (spotOk s))) := by
 refine A_gazetteerref18_Spot h.rspot ?_
 delta F_gazetteerref18_Spot sp sd gp gd fl fd gl
 simp [st0]
 have fin : ∀ (b : Bool) st, b = decide (spotOk s) → GhostV [.bool b] st fun vs st => (mkres vs).pure = true ∧ mkres vs = .bool (decide (spotOk s)) := fun b st hb => GhostV.refl ⟨rfl, by rw [hb]; rfl⟩
 by_cases h1 : 0 ≤ s.page
 ·by_cases h2 : s.page < 32
  ·by_cases h3 : 0 ≤ s.slot
   ·by_cases h4 : s.slot < 4
    ·simp [h1, h2, h3, h4]; exact fin _ _ (by simp [spotOk, *])
    ·simp [h1, h2, h3, h4]; exact fin _ _ (by simp [spotOk, *])
   ·simp [h1, h2, h3]; exact fin _ _ (by simp [spotOk, *])
  ·simp [h1, h2]; exact fin _ _ (by simp [spotOk, *])
 ·simp [h1]; exact fin _ _ (by simp [spotOk, *])
theorem rEntry18 (h : SpotsR P) (s : SpotT) (hs : spotOk s) : PCalls P n_gazetteerref18_Entry [.agg (cSpot s)] (fun r => r = .int .u32 (4 * s.page + s.slot + 1)) := by
 refine A_gazetteerref18_Entry h.rentry ?_
 delta F_gazetteerref18_Entry sp sd gp gd fl fd gl
 unfold spotOk at hs
 have e1 : IntKind.i64.wrap (4 * s.page) = 4 * s.page := wrap_i64 (by omega)
 have e2 : IntKind.i64.wrap (4 * s.page + s.slot) = 4 * s.page + s.slot := wrap_i64 (by omega)
 have e3 : IntKind.i64.wrap (4 * s.page + s.slot + 1) = 4 * s.page + s.slot + 1 := wrap_i64 (by omega)
 have e4 : IntKind.u32.wrap (4 * s.page + s.slot + 1) = 4 * s.page + s.slot + 1 := by simp [IntKind.wrap, IntKind.signed, IntKind.bits]; omega
 simp [st0, e1, e2, e3, e4]
 exact GhostV.refl ⟨rfl, rfl⟩
/-! ### Batches -/
structure Bt where
 id : Nat
 ver : Nat
 l : List SpotT
@[simp] def cBt (q : Bt) : List V := [.msl q.id q.ver 0 q.l.length]
structure BatA (L : List (Option (Nat × Obj))) (i0 vb : Nat) (qs : List Bt) (A : List (Option (Nat × Obj))) : Prop where
 il : L.length = i0
 pre : A.take i0 = L
 out : A[i0]? = some (some (vb, .mem 1 (qs.map cBt)))
 ins : ∀ q ∈ qs, i0 < q.id ∧ A[q.id]? = some (some (q.ver, .mem 2 (q.l.map cSpot)))
 nd : (qs.map (·.id)).Nodup
structure Chunks (n : Int) (ls : List (List SpotT)) (more : Bool) : Prop where
 sz : ∀ x ∈ ls, x ≠ [] ∧ (x.length : Int) ≤ n
 full : ∀ i x, ls[i]? = some x → i + 1 < ls.length ∨ more = true → (x.length : Int) = n
end Go.Proofs.Ytmjnpfackanhlaa.AM

namespace Go.Proofs.Ytmjnpfackanhlaa.AM
open Go
set_option linter.unusedVariables false
set_option linter.unusedSimpArgs false
variable {P : Program}

/-! ### which rows a tree has behind a Put -/
theorem Psteps.rows {w : List Int} {n : Nat} {t t' : TreeT} {l l' : List SplitT} (h : Psteps w n t l t' l') {a : Int} : a ∈ rowsS (shs t'.nodes) → a ∈ rowsS (shs t.nodes) := by
 induction h with
 | done t l => exact id
 | skip x hx h k ih => exact ih
 | split x left hx h hl h1 h0 k ih => exact fun ha => rows_split (findN_some hx).1 (rows_keyed (ih ha))
theorem PutRel.rows {t t' : TreeT} {row : Int} {k : KeyT} {l' : List SplitT} (h : PutRel t row k t' l') {a : Int} (ha : a ∈ rowsS (shs t'.nodes)) : a ∈ rowsS (shs t.nodes) ∨ a = row := by
 obtain ⟨w, x, hw, hx, hp⟩ := h
 rcases rows_updN (rows_keyed (hp.rows ha)) with h1 | ⟨hl, e, he, h1⟩
 ·exact .inl h1
 ·rcases List.mem_append.1 he with he | he
  ·exact .inl (rows_in.2 ⟨x, (findN_some hx).1, hl, e, he, h1⟩)
  ·rw [List.mem_singleton.1 he] at h1
   exact .inr h1.symm

structure MadeT where
 keys : List KeyT
 take : List Int
 raw : Bool
 tree : TreeT
@[simp] def cMade (m : MadeT) : List V := [.sl .unk 4 (m.keys.map cKey) [], .sl .unk 1 (m.take.map fun i => [.int .i64 i]) [], .bool m.raw, vNs m.tree.nodes, .int .u32 m.tree.root, .int .u64 m.tree.count]
def cutN (x : NodeT) : NodeT := { x with es := x.es.take 6 }
structure MkR (P : Program) : Prop extends LvR P, PuR P where
 made : R_gazetteerlaw18_Tree_made P
structure MadeOk (t : TreeT) : Prop where
 small : smallT t
 ty : TyT t
theorem Inv.made {t : TreeT} (hI : Inv t) : MadeOk t := by
 obtain ⟨h, rk, hS, _⟩ := hI.shp
 refine ⟨⟨by have := hI.len; omega, fun x hx => ?_⟩, hI.cnt, fun x hx => ?_, fun x hx e he => ?_⟩
 ·have := hI.wid _ (mem_shs hx)
  simp only [NodeT.sh_ch, List.length_map] at this; omega
 ·have h1 := hS.pos _ (mem_shs hx)
  have h2 := hI.mark _ (mem_shs hx)
  simp only [NodeT.sh_id, NodeT.sh_mark] at h1 h2
  omega
 ·cases hl : x.leaf with
  | true =>
   have := hI.rpos e.child (mem_rows (mem_shs hx) (by simp only [SN.rows, NodeT.sh_leaf, hl, NodeT.sh_ch, if_true]; exact List.mem_map.2 ⟨e, he, rfl⟩))
   omega
  | false =>
   have hk : e.child ∈ x.sh.kids := by simp only [SN.kids, NodeT.sh_leaf, hl, NodeT.sh_ch, Bool.false_eq_true, if_false]; exact List.mem_map.2 ⟨e, he, rfl⟩
   obtain ⟨y, hy, e1⟩ := of_ids (hS.kid_mem (mem_kids (mem_shs hx) hk))
   have := hS.pos _ hy
   omega
theorem p_treeV (t : TreeT) : (mkres [V.agg (cTree t)]).pure = true := by simp only [mkres1, V.pure]; exact p_tree t
theorem GhostV.seed2 {z1 z2 : Option (Nat × Obj)} {v1 v2 nv : Nat} {vs : List V} {K : List V → St → Prop} (hk : K vs ⟨[z1, z2, none, some (v2, .mem 3 [cTree (emptyF 0)]), none], nv + 1⟩) :
  GhostV vs ⟨[z1, z2, some (v1, .mem 5 [[.int .u32 1, .bool true, .sl .nil 0 [] [], .int .u64 0, .int .u32 0]]), some (v2, .mem 3 [[.msl 2 v1 0 1, .int .u32 1, .int .u64 0]])], nv⟩ K := by
 refine GhostV.trans (K := fun vs1 st1 => vs1 = vs ∧ st1 = ⟨[z1, z2, some (v1, .mem 5 [[.int .u32 1, .bool true, .msl 4 nv 0 0, .int .u64 0, .int .u32 0]]), some (v2, .mem 3 [[.msl 2 v1 0 1, .int .u32 1, .int .u64 0]]), some (nv, .mem 5 [])], nv + 1⟩) (GhostV.nilo (sz := 5) (j := 2) (verj := v1) (s := 5) (c := 2) (z := 0) (row := [.int .u32 1, .bool true, .sl .nil 0 [] [], .int .u64 0, .int .u32 0]) (by decide) rfl rfl ⟨rfl, rfl⟩) ?_
 rintro _ _ ⟨hv, rfl⟩
 rw [hv]
 refine GhostV.trans (K := fun vs1 st1 => vs1 = vs ∧ st1 = ⟨[z1, z2, some (v1, .mem 5 [cNode ⟨1, true, [], 0, 0⟩]), some (v2, .mem 3 [[.msl 2 v1 0 1, .int .u32 1, .int .u64 0]]), none], nv + 1⟩) (GhostV.frzo (id := 4) (ver := nv) (sz := 5) (es := []) (j := 2) (verj := v1) (o := .mem 5 [[.int .u32 1, .bool true, .msl 4 nv 0 0, .int .u64 0, .int .u32 0]]) (o' := .mem 5 [cNode ⟨1, true, [], 0, 0⟩]) rfl rfl (by decide) (OFrz.cell (r := 0) (c := 2) (w := 4) (n := 0) (row := [.int .u32 1, .bool true, .msl 4 nv 0 0, .int .u64 0, .int .u32 0]) rfl rfl rfl rfl) ⟨rfl, rfl⟩) ?_
 rintro _ _ ⟨hv, rfl⟩
 rw [hv]
 exact GhostV.frzo (id := 2) (ver := v1) (sz := 5) (es := [cNode ⟨1, true, [], 0, 0⟩]) (j := 3) (verj := v2) (o := .mem 3 [[.msl 2 v1 0 1, .int .u32 1, .int .u64 0]]) (o' := .mem 3 [cTree (emptyF 0)]) rfl rfl (by decide) (OFrz.cell (r := 0) (c := 0) (w := 2) (n := 1) (row := [.msl 2 v1 0 1, .int .u32 1, .int .u64 0]) rfl rfl rfl rfl) hk
abbrev MdL (m : MadeT) (t : TreeT) : List (Option (Nat × Obj)) := [some (0, .mem 6 [cMade m]), some (1, .mem 3 [zTree]), none, some (3, .mem 3 [cTree t]), none]
def MdJ (m : MadeT) (st : St) : Prop := ∃ t nv, Inv t ∧ st = ⟨MdL m t, nv⟩
def MdI3 (m : MadeT) (k : Nat) (v : V) (st : St) : Prop := ∃ i t nv, k = 129 - i ∧ i ≤ m.keys.length ∧ i ≤ 128 ∧ v = .int .i64 ((i : Nat) : Int) ∧ Inv t ∧ (∀ a ∈ rowsS (shs t.nodes), a ≤ (i : Int)) ∧ st = ⟨MdL m t, nv⟩
def MdI4 (m : MadeT) (k : Nat) (v : V) (st : St) : Prop := ∃ i t nv, k = m.take.length - i ∧ i ≤ m.take.length ∧ v = .int .i64 ((i : Nat) : Int) ∧ Inv t ∧ st = ⟨MdL m t, nv⟩
def MkI1 (m : MadeT) (k : Nat) (v : V) (st : St) : Prop :=
 ∃ i A nv va rows ws, k = m.tree.nodes.length - i ∧ i ≤ m.tree.nodes.length ∧ i ≤ 20 ∧ v = .int .i64 ((i : Nat) : Int) ∧ A[0]? = some (some (0, .mem 6 [cMade m])) ∧ A[1]? = some (some (1, .mem 3 [zTree])) ∧
  A[2]? = some (some (2, .mem 3 [[.msl 3 va 0 (rows : List (List V)).length, .int .u32 m.tree.root, .int .u64 m.tree.count]])) ∧ A[3]? = some (some (va, .mem 5 rows)) ∧
  DT A rows ws ((m.tree.nodes.take i).map cutN) ∧ (∀ w ∈ ws, 3 < w) ∧ st = ⟨A, nv⟩
set_option maxHeartbeats 2000000 in
set_option maxRecDepth 8000 in
theorem rMade (h : MkR P) (m : MadeT) (hT : TyT m.tree) (hk : m.take.length < 2 ^ 63) : PCalls P n_gazetteerlaw18_Tree_made [.agg (cMade m)] (fun r => ∃ t, MadeOk t ∧ r = .agg (cTree t)) := by
  refine A_gazetteerlaw18_Tree_made h.made ?_
  delta F_gazetteerlaw18_Tree_made sp sd gp gd fl fd gl
  simp [st0]
  cases hraw : m.raw
  · simp
    refine ⟨MdJ m, ?_, ?_⟩
    · simp
      refine ⟨MdI3 m, ⟨129, ?_⟩, ?_⟩
      · refine GhostV.seed2 ?_
        exact ⟨0, emptyF 0, 5, rfl, by omega, by omega, rfl, inv_empty (by omega), fun a ha => by simp [emptyF, rowsS, shs, SN.rows, NodeT.sh] at ha, by simp [hraw]⟩
      rintro k3 v60 st ⟨i, t, nv, rfl, hi, hi128, rfl, hI, hrw, rfl⟩
      have hsm := hI.made.small
      have hJ : ∀ (M : List (Option (Nat × Obj))) (nv : Nat), GhostV [] ⟨MdL m t ++ M, nv⟩ (@app 0 (MdJ m)) := fun M nv => GhostV.keep ⟨t, nv, hI, rfl⟩
      by_cases hlt : i < m.keys.length
      · obtain ⟨k, hk2⟩ : ∃ k, k = m.keys[i] := ⟨_, rfl⟩
        simp [hlt, ← hk2]
        by_cases h128 : i = 128
        · have h128' : (i : Int) = 128 := by omega
          simp [h128']
          simpa using hJ [some (nv, .mem 4 [cKey k])] (nv + 1)
        · have h128' : ¬ (i : Int) = 128 := by omega
          have hw1 : IntKind.i64.wrap ((i : Int) + 1) = ((i + 1 : Nat) : Int) := wadd1 (by omega)
          have hw2 : IntKind.u32.wrap ((i + 1 : Nat) : Int) = ((i + 1 : Nat) : Int) := Go.IntWalk.u32_in _ (by omega)
          have hno : ¬ ((i + 1 : Nat) : Int) ∈ rowsS (shs t.nodes) := fun hm => by have := hrw _ hm; omega
          have hgo : ∀ (t' : TreeT) (M : List (Option (Nat × Obj))) (nvq : Nat), Inv t' → (∀ a ∈ rowsS (shs t'.nodes), a ≤ ((i + 1 : Nat) : Int)) → ∃ j, j < 129 - i ∧ GhostV [V.int .i64 (IntKind.i64.wrap ((i : Int) + 1))] ⟨MdL m t' ++ M, nvq⟩ (@app 1 (MdI3 m j)) := fun t' M nvq hI' hr' =>
            ⟨129 - (i + 1), by omega, GhostV.keep ⟨i + 1, t', nvq, rfl, by omega, by omega, by rw [hw1], hI', hr', rfl⟩⟩
          have hrw' : ∀ a ∈ rowsS (shs t.nodes), a ≤ ((i + 1 : Nat) : Int) := fun a ha => by have := hrw a ha; omega
          simp [h128']
          rw [hw1]
          simp only [hw2]
          refine inv_p (rPutW h.toPuR t hI ((i + 1 : Nat) : Int) k ⟨by omega, by omega⟩ hno) rfl (by simp [pureL, V.pure, pureLL]) ?_
          rintro _ (⟨t', l', hI', hR, rfl⟩ | ⟨_, rfl⟩)
          · have hbk : boxK k = (decide (k.x0 ≤ k.x1) && decide (k.y0 ≤ k.y1)) := rfl
            by_cases hx : k.x0 ≤ k.x1
            · by_cases hy : k.y0 ≤ k.y1
              · simp [hx, hy]
                have := hgo t' [some (nv, .mem 4 [cKey k]), some (nv + 1, .mem 3 [cTree t'])] (nv + 1 + 1) (hI' (by simp [hbk, hx, hy])) (fun a ha => by
                  rcases hR.rows ha with h1 | h1
                  · exact hrw' a h1
                  · omega)
                simpa using this
              · simp [hx, hy]
                have := hgo t [some (nv, .mem 4 [cKey k]), some (nv + 1, .mem 3 [cTree t'])] (nv + 1 + 1) hI hrw'
                simpa using this
            · simp [hx]
              have := hgo t [some (nv, .mem 4 [cKey k]), some (nv + 1, .mem 3 [cTree t'])] (nv + 1 + 1) hI hrw'
              simpa using this
          · simp
            have := hgo t [some (nv, .mem 4 [cKey k]), some (nv + 1, .mem 3 [zTree])] (nv + 1 + 1) hI hrw'
            simpa using this
      · simp [hlt]
        simpa using hJ [] nv
    rintro st ⟨t, nv, hI, rfl⟩
    simp
    refine ⟨MdI4 m, ⟨m.take.length, GhostV.refl ⟨0, t, nv, by simp, by omega, by simp, hI, rfl⟩⟩, ?_⟩
    clear hI
    rintro k4 v97 st ⟨i, t, nv, rfl, hi, rfl, hI, rfl⟩
    have hsm := hI.made.small
    by_cases hlt : i < m.take.length
    · obtain ⟨q, hq⟩ : ∃ q, q = m.take[i] := ⟨_, rfl⟩
      obtain ⟨r, hr⟩ : ∃ r, r = IntKind.u32.wrap q := ⟨_, rfl⟩
      simp [hlt, ← hq, ← hr]
      refine inv_p (rRow h.toLvR.toRtR.toRdR t r (by have := hsm.1; omega) (fun x hx => by have := hsm.2 x hx; omega)) rfl (by simp [pureL, V.pure, pureLL]) ?_
      rintro _ rfl
      have hw1 : IntKind.i64.wrap ((i : Int) + 1) = ((i + 1 : Nat) : Int) := by rw [wrap_i64 (by omega)]; omega
      have hgo : ∀ (t' : TreeT), Inv t' → ∃ j, j < m.take.length - i ∧ GhostV [V.int .i64 (IntKind.i64.wrap ((i : Int) + 1))] ⟨MdL m t', nv⟩ (@app 1 (MdI4 m j)) := fun t' hI' =>
        ⟨m.take.length - (i + 1), by omega, GhostV.refl ⟨i + 1, t', nv, rfl, by omega, by rw [hw1], hI', rfl⟩⟩
      cases hf : t.nodes.findIdx? (isRow r) with
      | none =>
        rw [show rowP t.nodes r = .tup [.int .i64 (-1), .int .i64 (-1)] from by unfold rowP; rw [hf]]
        by_cases h1 : (i : Int) < 128
        · by_cases h2 : 0 < q
          · by_cases h3 : q ≤ 128
            · simp [h1, h2, h3]
              simpa using hgo t hI
            · simp [h1, h2, h3]
              simpa using hgo t hI
          · simp [h1, h2]
            simpa using hgo t hI
        · simp [h1]
          simpa using hgo t hI
      | some ir =>
        obtain ⟨hir, h2, h3⟩ := find_of_idx hf
        have hleaf : t.nodes[ir].leaf = true := by
          cases hl' : t.nodes[ir].leaf with
          | true => rfl
          | false => rw [isRow_in hl'] at h3; cases h3
        obtain ⟨z, hz⟩ : ∃ z, rowP t.nodes r = .tup [.int .i64 ((ir : Nat) : Int), .int .i64 z] := by unfold rowP; rw [hf]; exact ⟨_, rfl⟩
        rw [hz]
        have hir0 : (0 : Int) ≤ ((ir : Nat) : Int) := by omega
        by_cases h1 : (i : Int) < 128
        · by_cases h4 : 0 < q
          · by_cases h5 : q ≤ 128
            · simp [h1, h4, h5, hir0, ← hr]
              refine inv_p (rTake h.toLvR.toPlR.toTkR t hI r hir hf) rfl (by simp [pureL, V.pure, pureLL]) ?_
              rintro _ ⟨g, rfl⟩
              simp
              simpa [MdL] using hgo (takeF t t.nodes[ir] r) (take_ok hI (List.getElem_mem hir) hleaf _)
            · simp [h1, h4, h5]
              simpa using hgo t hI
          · simp [h1, h4]
            simpa using hgo t hI
        · simp [h1]
          simpa using hgo t hI
    · simp [hlt]
      exact GhostV.refl ⟨by simp [mkres, V.pure, p_tree t], t, hI.made, by simp [mkres]⟩
  · simp
    refine ⟨MkI1 m, ⟨m.tree.nodes.length, ?_⟩, ?_⟩
    · refine GhostV.nilo (sz := 5) (j := 2) (verj := 2) (s := 3) (c := 0) (z := 0) (row := [.sl .nil 0 [] [], .int .u32 m.tree.root, .int .u64 m.tree.count]) (by decide) rfl rfl ?_
      exact ⟨0, _, 4, 3, [], [], by simp, by omega, by omega, by simp, by simp [hraw], by simp, by simp, by simp, by simpa using DT.nil, by simp, rfl⟩
    have fin : ∀ (i : Nat) (A : List (Option (Nat × Obj))) (nv va : Nat) (rows : List (List V)) (ws : List Nat) (M : List (Option (Nat × Obj))), A[0]? = some (some (0, .mem 6 [cMade m])) → A[1]? = some (some (1, .mem 3 [zTree])) →
        A[2]? = some (some (2, .mem 3 [[.msl 3 va 0 (rows : List (List V)).length, .int .u32 m.tree.root, .int .u64 m.tree.count]])) → A[3]? = some (some (va, .mem 5 rows)) → DT A rows ws ((m.tree.nodes.take i).map cutN) → (∀ w ∈ ws, 3 < w) → i ≤ 20 → i ≤ m.tree.nodes.length →
        GhostV [.agg [.msl 3 va 0 rows.length, .int .u32 m.tree.root, .int .u64 m.tree.count]] ⟨A.set 1 (some (1, .mem 3 [[.msl 3 va 0 rows.length, .int .u32 m.tree.root, .int .u64 m.tree.count]])) ++ M, nv⟩ (fun vs st => (mkres vs).pure = true ∧ ∃ t, MadeOk t ∧ mkres vs = .agg (cTree t)) := by
      intro i A nv va rows ws M h0 h1 h2 h3 hD hws hi hi2
      have hA4 := (List.getElem?_eq_some_iff.1 h3).1
      refine GhostV.tree (t := ⟨(m.tree.nodes.take i).map cutN, m.tree.root, m.tree.count⟩) (L := []) (hD.up (fun w hw => ?_)) ?_ ⟨Nat.zero_le _, fun id hid => by simp at hid⟩ (fun w _ => Nat.zero_le _) (Nat.zero_le _) (fun hw => by have := hws _ hw; omega) (by rw [hD.rl]) ⟨p_treeV _, ⟨(m.tree.nodes.take i).map cutN, m.tree.root, m.tree.count⟩, ⟨⟨?_, fun x hx => ?_⟩, hT.cnt, fun x hx => ?_, fun x hx e he => ?_⟩, rfl⟩
      · have := hD.lt w hw
        have h5 := hws w hw
        rw [List.getElem?_append_left (by simpa using this), List.getElem?_set_ne (by omega)]
      · rw [List.getElem?_append_left (by simp; omega), List.getElem?_set_ne (by omega)]; exact h3
      · simp only [List.length_map, List.length_take]; omega
      · obtain ⟨y, hy, rfl⟩ := List.mem_map.1 hx
        simp only [cutN, List.length_take]; omega
      · obtain ⟨y, hy, rfl⟩ := List.mem_map.1 hx
        exact hT.ids y (List.mem_of_mem_take hy)
      · obtain ⟨y, hy, rfl⟩ := List.mem_map.1 hx
        exact hT.kid y (List.mem_of_mem_take hy) e (List.mem_of_mem_take he)
    rintro k1 v29 st ⟨i, A, nv, va, rows, ws, rfl, hi, hi20, rfl, h0, h1, h2, h3, hD, hws, rfl⟩
    have hA4 := (List.getElem?_eq_some_iff.1 h3).1
    by_cases hlt : i < m.tree.nodes.length
    · obtain ⟨x, hx⟩ : ∃ x, x = m.tree.nodes[i] := ⟨_, rfl⟩
      simp [hlt, ← hx]
      by_cases h20 : i = 20
      · subst h20
        have h1M : ∀ x M, (A.set 1 x ++ M)[1]? = some x := fun x M => by rw [List.getElem?_append_left (by simp; omega), List.getElem?_set_self (by omega)]
        simp [h1, h2, h1M]
        exact fin 20 A _ va rows ws _ h0 h1 h2 h3 hD hws hi20 (by omega)
      · have h20' : ¬ (i : Int) = 20 := by omega
        obtain ⟨q, hq⟩ : ∃ q : Nat, q = min 6 x.es.length := ⟨_, rfl⟩
        have hqi : (if (6 : Int) < (x.es.length : Int) then (6 : Int) else (x.es.length : Int)) = ((q : Nat) : Int) := by
          rw [hq]; split <;> omega
        have hes : (x.es.map cLink).take q = (cutN x).es.map cLink := by rw [← List.map_take, hq]; unfold cutN; dsimp only; rw [List.map_take, List.map_take, List.take_eq_take_iff]; simp
        have hql : (cutN x).es.length = q := by rw [hq]; simp [cutN]
        have hgM : ∀ {j : Nat} {o : Option (Nat × Obj)} (M), A[j]? = some o → (A ++ M)[j]? = some o := fun {j o} M e => by rw [List.getElem?_append_left (List.getElem?_eq_some_iff.1 e).1]; exact e
        have h2M := fun M => hgM M h2
        have h3M := fun M => hgM M h3
        simp [h20']
        rw [hqi]
        have hmq : min q x.es.length = q := by omega
        have hs3 : ∀ (M : List (Option (Nat × Obj))) (y : Option (Nat × Obj)), (A ++ M).set 3 y = A.set 3 y ++ M := fun M y => List.set_append_left _ _ hA4
        have h23 : ∀ (y : Option (Nat × Obj)) M, (A.set 3 y ++ M)[2]? = some (some (2, .mem 3 [[.msl 3 va 0 rows.length, .int .u32 m.tree.root, .int .u64 m.tree.count]])) := fun y M => by rw [List.getElem?_append_left (by simp; omega), List.getElem?_set_ne (by omega)]; exact h2
        have hs2 : ∀ (y : Option (Nat × Obj)) (M : List (Option (Nat × Obj))) (z : Option (Nat × Obj)), (A.set 3 y ++ M).set 2 z = (A.set 3 y).set 2 z ++ M := fun y M z => List.set_append_left _ _ (by simp; omega)
        simp [-getElem?_pos, List.getElem?_cons_zero, List.getElem?_cons_succ, hmq, h2M, h3M, hs3, h23, hs2, hes]
        have hrl : rows.length = i := by rw [hD.rl, List.length_map, List.length_take]; omega
        refine ⟨by omega, by omega, by omega, m.tree.nodes.length - (i + 1), by omega, GhostV.refl ⟨i + 1, _, _, nv + 1 + 1 + 1 + 1, rows ++ [dNode (A.length + 1) (nv + 1 + 1) (cutN x)], ws ++ [A.length + 1], rfl, by omega, by omega, by rw [wadd1 (by omega)], ?_, ?_, ?_, ?_, ?_, ?_, rfl⟩⟩
        · rw [List.getElem?_append_left (by simp; omega), List.getElem?_set_ne (by omega), List.getElem?_set_ne (by omega)]; exact h0
        · rw [List.getElem?_append_left (by simp; omega), List.getElem?_set_ne (by omega), List.getElem?_set_ne (by omega)]; exact h1
        · rw [List.getElem?_append_left (by simp; omega), List.getElem?_set_self (by simp; omega)]; simp
        · rw [List.getElem?_append_left (by simp; omega), List.getElem?_set_ne (by omega), List.getElem?_set_self (by omega)]
          simp [dNode, hql]
          exact ⟨rfl, rfl, rfl, rfl⟩
        · rw [take_snoc hlt, ← hx, List.map_append]
          refine (hD.up (fun w hw => ?_)).snoc (x := cutN x) (w := A.length + 1) ⟨nv + 1 + 1, rfl, ?_⟩ (fun hw => by have := hD.lt _ hw; omega)
          · have := hD.lt w hw
            have h5 := hws w hw
            rw [List.getElem?_append_left (by simpa using this), List.getElem?_set_ne (by omega), List.getElem?_set_ne (by omega)]
          · rw [List.getElem?_append_right (by simp)]; simp
        · intro w hw
          rcases List.mem_append.1 hw with hw | hw
          · exact hws w hw
          · rw [List.mem_singleton.1 hw]; omega
    · have h1M : ∀ x, (A.set 1 x)[1]? = some x := fun x => List.getElem?_set_self (by omega)
      simp [hlt, h1, h2, h1M]
      have := fin i A nv va rows ws [] h0 h1 h2 h3 hD hws hi20 (by omega)
      simpa using this
end Go.Proofs.Ytmjnpfackanhlaa.AM

namespace Go.Proofs.Ytmjnpfackanhlaa.AM
open Go
set_option linter.unusedVariables false
set_option linter.unusedSimpArgs false
variable {P : Program}

structure ClR (P : Program) : Prop where
 md : MkR P
 dl : DeadLawR P
 sp : SpotsR P
 cnt17 : R_gazetteerref17_Counts P
 vcnt : R_vision_Counts P
 done18 : R_gazetteerref18_done P
 ord18 : R_gazetteerref18_Ordered P
 clean18 : R_gazetteerref18_Clean P
 vclean : R_vacuum_Clean P
@[simp] theorem hwat_u {w : Bool} {ro : RO} {v : V} {st : St} : hwat P (some (.tup [], w)) ro st v = (v = .tup []) := Eq.trans rfl rfl
def eye0 : EyeT := ⟨0, false, 0⟩
def cm (f : FatesT) (id : Nat) : Bool := decide ((refFate f id).1 = 1)
theorem cm_zero (f : FatesT) : cm f 0 = false := by simp [cm, refFate]
theorem cm_eq {f : FatesT} (hf : FatesOk f) (id : Nat) : countsS f eye0 id = cm f id := by
 unfold countsS cm eye0 refFate fateS
 by_cases h0 : id = 0
 ·subst h0
  have : f.list.find? (fun x => x.id == 0) = none := List.find?_eq_none.2 (fun x hx => by have := hf.2.2.1 x hx; have := hf.1; simp; omega)
  simp [this]
 ·by_cases h1 : id < f.first
  ·simp [h0, h1, Nat.pos_of_ne_zero h0]
  ·simp only [h0, h1, and_false, if_false]
   cases f.list.find? (fun x => x.id == id) with
   | none => simp
   | some x =>
    by_cases hz : x.number = 0
    ·simp [hz]
    ·simp [hz]; omega
theorem Counts17 (h : ClR P) (f : FatesT) (id : Nat) (hl : f.list.length < 2 ^ 40) : PCalls P n_gazetteerref17_Counts [vFates f, .agg (cEye eye0), .int .u64 id] (fun r => r = .bool (cm f id)) := by
 refine A_gazetteerref17_Counts h.cnt17 ?_
 delta F_gazetteerref17_Counts sp sd gp gd fl fd gl
 simp [st0, eye0]
 refine inv_p (Fate17 h.dl.fate17 f id (by omega)) (by simp) (by simp [pureL, pureLL]) ?_
 rintro _ rfl
 simp
 by_cases h1 : (refFate f id).1 = 1
 ·simp [h1]
  exact GhostV.refl ⟨rfl, by simp [cm, h1]⟩
 ·by_cases h0 : id = 0
  ·have d0 : decide (id = 0) = true := decide_eq_true h0
   simp [h1, d0]
   exact GhostV.refl ⟨rfl, by simp [cm, h1]⟩
  ·simp [h1, h0]
   exact GhostV.refl ⟨rfl, by simp [cm, h1]⟩
theorem Done18 (h : ClR P) (f : FatesT) (id : Nat) (hl : f.list.length < 2 ^ 40) : PCalls P n_gazetteerref18_done [vFates f, .int .u64 id] (fun r => r = .bool (cm f id)) := by
 refine A_gazetteerref18_done h.done18 ?_
 delta F_gazetteerref18_done sp sd gp gd fl fd gl
 simp [st0]
 by_cases h0 : 0 < id
 ·simp [h0]
  refine inv_p (Counts17 h f id hl) (by simp [eye0]) (by simp [pureL, pureLL]) ?_
  rintro _ rfl
  simp [h0]
  exact GhostV.refl ⟨rfl, rfl⟩
 ·simp [h0]
  have : id = 0 := by omega
  exact GhostV.refl ⟨rfl, by rw [this, cm_zero]; rfl⟩
theorem vCounts (h : ClR P) (f : FatesT) (id : Nat) (hf : FatesOk f) : PCalls P n_vision_Counts [vFates f, .agg (cEye eye0), .int .u64 id] (fun r => r = .bool (cm f id)) := by
 refine A_vision_Counts h.vcnt ?_
 delta F_vision_Counts sp sd gp gd fl fd gl
 have hl : f.list.length < 2 ^ 40 := by have := hf.2.1; omega
 simp [st0, eye0]
 refine inv_p (vis_Check h.dl.check f hl) (by simp) (by simp [pureL, pureLL]) ?_
 rintro _ ⟨ok, rfl, hok⟩
 obtain rfl : ok = true := hok.2 hf
 simp
 refine inv_p (counts h.dl.toFateR h.dl.counts f eye0 id hl hf.2.2.2.1) (by simp [eye0]) (by simp [pureL, pureLL]) ?_
 rintro _ rfl
 simp
 exact GhostV.refl ⟨rfl, by rw [cm_eq hf]; rfl⟩
/-! ### in order -/
def entI (s : SpotT) : Int := 4 * s.page + s.slot + 1
structure OrdOk (l : List StoredT) : Prop where
 spot : ∀ x ∈ l, spotOk x.spot
 ord : ∀ (i : Nat) (x y : StoredT), l[i]? = some x → l[i + 1]? = some y → entI x.spot < entI y.spot
open Classical in
noncomputable def ordB (l : List StoredT) : Bool := decide (OrdOk l)
def OdI (l : List StoredT) (k : Nat) (v : V) (st : St) : Prop := ∃ i nv, k = l.length - i ∧ i ≤ l.length ∧ v = .int .i64 ((i : Nat) : Int) ∧ (∀ x ∈ l.take i, spotOk x.spot) ∧ (∀ (j : Nat) (x y : StoredT), j + 1 < i → l[j]? = some x → l[j + 1]? = some y → entI x.spot < entI y.spot) ∧ st = ⟨[], nv⟩
theorem Ordered18 (h : ClR P) (l : List StoredT) (hl : l.length < 2 ^ 40) : PCalls P n_gazetteerref18_Ordered [.sl .unk 10 (l.map cStored) []] (fun r => r = .bool (ordB l)) := by
  refine A_gazetteerref18_Ordered h.ord18 ?_
  delta F_gazetteerref18_Ordered sp sd gp gd fl fd gl
  simp [st0]
  have bad : ¬ OrdOk l → ∀ {st : St}, GhostV [.bool false] st fun vs st => (mkres vs).pure = true ∧ mkres vs = .bool (ordB l) := fun hb st => GhostV.refl ⟨rfl, by simp [ordB, hb]⟩
  refine ⟨OdI l, ⟨l.length, GhostV.refl ⟨0, 0, by simp, by omega, by simp, by simp, fun j x y hj => by omega, rfl⟩⟩, ?_⟩
  rintro k1 v7 st ⟨i, nv, rfl, hi, rfl, hsp, hor, rfl⟩
  by_cases hlt : i < l.length
  · obtain ⟨x, hx⟩ : ∃ x, x = l[i] := ⟨_, rfl⟩
    have hxi : l[i]? = some x := by rw [List.getElem?_eq_getElem hlt, hx]
    simp [hlt, ← hx]
    refine inv_p (rSpot18 h.sp x.spot) rfl (by simp [pureL, V.pure]) ?_
    rintro _ rfl
    by_cases hs : spotOk x.spot
    · have hsp' : ∀ y ∈ l.take (i + 1), spotOk y.spot := fun y hy => by
        rw [take_snoc hlt, ← hx, List.mem_append] at hy
        rcases hy with hy | hy
        · exact hsp y hy
        · rw [List.mem_singleton.1 hy]; exact hs
      rcases Nat.eq_zero_or_pos i with hi1 | hi1
      · subst hi1
        simp [hs]
        exact ⟨l.length - 1, by omega, GhostV.take 0 ⟨1, _, rfl, by omega, by rw [wrap_i64 (by omega)]; rfl, hsp', fun j x y hj => by omega, rfl⟩⟩
      · have hlt1 : i - 1 < l.length := by omega
        obtain ⟨y, hy⟩ : ∃ y, y = l[i - 1] := ⟨_, rfl⟩
        have hyi : l[i - 1]? = some y := by rw [List.getElem?_eq_getElem hlt1, hy]
        have hsy : spotOk y.spot := hsp y (by
          rw [List.mem_take_iff_getElem]
          exact ⟨i - 1, by omega, hy.symm⟩)
        simp [hs, hi1]
        rw [wsub1 (by omega) (by omega)]
        simp [hs, hi1, hlt1, ← hy]
        refine inv_p (rEntry18 h.sp y.spot hsy) rfl (by simp [pureL, V.pure]) ?_
        rintro _ rfl
        simp [hs, hi1, hlt1, ← hy]
        refine inv_p (rEntry18 h.sp x.spot hs) rfl (by simp [pureL, V.pure]) ?_
        rintro _ rfl
        simp [hs, hi1, hlt1, ← hy]
        by_cases hle : 4 * x.spot.page + x.spot.slot ≤ 4 * y.spot.page + y.spot.slot
        · simp [hle]
          exact bad (fun H => by
            have := H.ord (i - 1) y x hyi (by rw [show i - 1 + 1 = i by omega]; exact hxi)
            unfold entI at this; omega)
        · simp [hle]
          refine ⟨l.length - (i + 1), by omega, GhostV.take 0 ⟨i + 1, _, rfl, by omega, by rw [wadd1 (by omega)], hsp', fun j a c hj ha hc => ?_, rfl⟩⟩
          by_cases hji : j + 1 = i
          · have e1 : j = i - 1 := by omega
            rw [e1, hyi] at ha
            rw [hji, hxi] at hc
            obtain rfl := Option.some.inj ha
            obtain rfl := Option.some.inj hc
            unfold entI; omega
          · exact hor j a c (by omega) ha hc
    · simp [hs]
      exact bad (fun H => hs (H.spot x (List.mem_of_getElem? hxi)))
  · simp [hlt]
    rw [List.take_of_length_le (by omega)] at hsp
    refine GhostV.refl ⟨rfl, ?_⟩
    have : OrdOk l := ⟨hsp, fun j x y h1 h2 => hor j x y (by have := (List.getElem?_eq_some_iff.1 h2).1; omega) h1 h2⟩
    simp [ordB, this]
/-! ### clean -/
theorem row_cases (t : TreeT) (row : Int) : (rowP t.nodes row = .tup [.int .i64 (-1), .int .i64 (-1)] ∧ ∀ e ∈ t.nodes.flatMap leafE, e.child ≠ row) ∨
  ∃ i q, ∃ hi : i < t.nodes.length, ∃ hq : q < t.nodes[i].es.length, rowP t.nodes row = .tup [.int .i64 ((i : Nat) : Int), .int .i64 ((q : Nat) : Int)] ∧ t.nodes[i].leaf = true ∧ t.nodes[i].es[q].child = row := by
 cases hf : t.nodes.findIdx? (isRow row) with
 | none =>
  refine .inl ⟨by unfold rowP; rw [hf], fun e he hc => ?_⟩
  rw [List.findIdx?_eq_none_iff] at hf
  obtain ⟨x, hx, he⟩ := List.mem_flatMap.1 he
  have h1 := hf x hx
  unfold leafE at he
  split at he
  ·rename_i hl
   rw [isRow_leaf hl, List.any_eq_false] at h1
   have := h1 e he
   simp [hasC, hc] at this
  ·simp at he
 | some i =>
  obtain ⟨hi, _, h3⟩ := find_of_idx hf
  have hleaf : t.nodes[i].leaf = true := by
   cases hl' : t.nodes[i].leaf with
   | true => rfl
   | false => rw [isRow_in hl'] at h3; cases h3
  rw [isRow_leaf hleaf] at h3
  cases hq : t.nodes[i].es.findIdx? (hasC row) with
  | none =>
   rw [List.findIdx?_eq_none_iff] at hq
   obtain ⟨e, he, hec⟩ := List.any_eq_true.1 h3
   rw [hq e he] at hec; cases hec
  | some q =>
   obtain ⟨hq1, _, hq2⟩ := find_of_idx hq
   exact .inr ⟨i, q, hi, hq1, by unfold rowP; rw [hf]; simp [hi, hq]; rfl, hleaf, by simpa [hasC] using hq2⟩
structure ItemOk (f : FatesT) (t : TreeT) (l : List StoredT) (i : Nat) (x : StoredT) : Prop where
 cmin : cm f x.tuple.xmin = true
 cmax : cm f x.tuple.xmax = false
 row : ∀ j y, j < i → l[j]? = some y → y.tuple.row ≠ x.tuple.row
 key : keyOf t (entI x.spot) = some x.tuple.key
def leafN (ns : List NodeT) : Nat := (ns.map (fun x => if x.leaf then x.es.length else 0)).sum
structure CleanOk (f : FatesT) (t : TreeT) (l : List StoredT) : Prop where
 item : ∀ i x, l[i]? = some x → ItemOk f t l i x
 cnt : leafN t.nodes = l.length
open Classical in
noncomputable def cleanB (f : FatesT) (t : TreeT) (l : List StoredT) : Bool := decide (CleanOk f t l)
theorem leafN_snoc (ns : List NodeT) (x : NodeT) : leafN (ns ++ [x]) = leafN ns + if x.leaf then x.es.length else 0 := by simp [leafN]
theorem leafN_le {ns : List NodeT} (h : ∀ x ∈ ns, x.es.length < 2 ^ 30) : leafN ns ≤ ns.length * 2 ^ 30 := by
 induction ns with
 | nil => simp [leafN]
 | cons x ns ih =>
  have h1 := h x (by simp)
  have h2 := ih (fun y hy => h y (by simp [hy]))
  simp only [leafN, List.map_cons, List.sum_cons, List.length_cons] at h2 ⊢
  split <;> omega
abbrev ClO (f : FatesT) (t : TreeT) : List (Option (Nat × Obj)) := [some (0, .mem 2 [[.int .u64 f.first, .sl .unk 2 (f.list.map cFate) []]]), some (1, .mem 3 [cTree t])]
def ClI1 (f : FatesT) (t : TreeT) (l : List StoredT) (k : Nat) (v : V) (st : St) : Prop := ∃ i nv, k = l.length - i ∧ i ≤ l.length ∧ v = .int .i64 ((i : Nat) : Int) ∧ (∀ j x, j < i → l[j]? = some x → ItemOk f t l j x) ∧ st = ⟨ClO f t, nv⟩
def ClI2 (f : FatesT) (t : TreeT) (l : List StoredT) (x : StoredT) (i vx : Nat) (k : Nat) (v : V) (st : St) : Prop := ∃ q nv, k = i - q ∧ q ≤ i ∧ v = .int .i64 ((q : Nat) : Int) ∧ (∀ j y, j < q → l[j]? = some y → y.tuple.row ≠ x.tuple.row) ∧ st = ⟨ClO f t ++ [some (vx, .mem 10 [cStored x])], nv⟩
def ClI3 (f : FatesT) (t : TreeT) (k : Nat) (v13 v : V) (st : St) : Prop := ∃ i nv, k = t.nodes.length - i ∧ i ≤ t.nodes.length ∧ v = .int .i64 ((i : Nat) : Int) ∧ v13 = .int .i64 ((leafN (t.nodes.take i) : Nat) : Int) ∧ st = ⟨ClO f t, nv⟩
set_option maxHeartbeats 2000000 in
set_option maxRecDepth 8000 in
theorem rClean (h : ClR P) (f : FatesT) (t : TreeT) (l : List StoredT) (hfl : f.list.length < 2 ^ 40) (hs : smallT t) (hr : ∀ a, (rowsS (shs t.nodes)).count a ≤ 1) (hl : l.length < 2 ^ 40) (hsp : ∀ x ∈ l, spotOk x.spot) :
    PCalls P n_gazetteerref18_Clean [vFates f, .sl .unk 10 (l.map cStored) [], .agg (cTree t)] (fun r => r = .bool (cleanB f t l)) := by
  refine A_gazetteerref18_Clean h.clean18 ?_
  delta F_gazetteerref18_Clean sp sd gp gd fl fd gl
  simp [st0]
  have bad : ¬ CleanOk f t l → ∀ {st : St}, GhostV [.bool false] st fun vs st => (mkres vs).pure = true ∧ mkres vs = .bool (cleanB f t l) := fun hb st => GhostV.refl ⟨rfl, by simp [cleanB, hb]⟩
  refine ⟨ClI1 f t l, ⟨l.length, GhostV.refl ⟨0, _, by simp, by omega, by simp, fun j x hj => by omega, rfl⟩⟩, ?_⟩
  rintro k1 v18 st ⟨i, nv, rfl, hi, rfl, hit, rfl⟩
  by_cases hlt : i < l.length
  · obtain ⟨x, hx⟩ : ∃ x, x = l[i] := ⟨_, rfl⟩
    have hxi : l[i]? = some x := by rw [List.getElem?_eq_getElem hlt, hx]
    have hno : ¬ ItemOk f t l i x → ¬ CleanOk f t l := fun hn H => hn (H.item i x hxi)
    simp [hlt, ← hx]
    refine inv_p (Done18 h f x.tuple.xmin hfl) rfl (by simp [pureL, V.pure, pureLL]) ?_
    rintro _ rfl
    cases h1 : cm f x.tuple.xmin
    · simp
      exact bad (hno (fun H => by have := H.cmin; rw [h1] at this; cases this))
    simp
    refine inv_p (Done18 h f x.tuple.xmax hfl) rfl (by simp [pureL, V.pure, pureLL]) ?_
    rintro _ rfl
    cases h2 : cm f x.tuple.xmax
    case true =>
      simp
      exact bad (hno (fun H => by have := H.cmax; rw [h2] at this; cases this))
    simp
    refine ⟨by omega, ?_⟩
    refine ⟨ClI2 f t l x i nv, ⟨i, GhostV.refl ⟨0, nv + 1, by simp, by omega, by simp, fun j y hj => by omega, by simp⟩⟩, ?_⟩
    rintro k2 v40 st ⟨q, nv2, rfl, hq, rfl, hrw, rfl⟩
    by_cases hqi : q < i
    · obtain ⟨y, hy⟩ : ∃ y, y = l[q] := ⟨_, rfl⟩
      have hyi : l[q]? = some y := by rw [List.getElem?_eq_getElem (by omega), hy]
      simp [hqi, Nat.min_eq_left hi]
      rw [← hy]
      by_cases hrr : y.tuple.row = x.tuple.row
      · have d1 : decide (y.tuple.row = x.tuple.row) = true := decide_eq_true hrr
        simp [d1]
        exact bad (hno (fun H => H.row q y hqi hyi hrr))
      · simp [hrr]
        refine ⟨i - (q + 1), by omega, ?_⟩
        have : GhostV [V.int .i64 (IntKind.i64.wrap ((q : Int) + 1))] ⟨(ClO f t ++ [some (nv, .mem 10 [cStored x])]) ++ [some (nv2, .mem 10 [cStored y])], nv2 + 1⟩ (@app 1 (ClI2 f t l x i nv (i - (q + 1)))) :=
          GhostV.keep ⟨q + 1, _, rfl, by omega, by rw [wadd1 (by omega)], fun j z hj hz => by
            by_cases hjq : j = q
            · subst hjq
              rw [hyi] at hz
              obtain rfl := Option.some.inj hz
              exact hrr
            · exact hrw j z (by omega) hz, rfl⟩
        simpa [ClO] using this
    · have hq' : q = i := by omega
      subst hq'
      simp [Nat.min_eq_left hi]
      refine inv_p (rEntry18 h.sp x.spot (hsp x (List.mem_of_getElem? hxi))) rfl (by simp [pureL, V.pure]) ?_
      rintro _ rfl
      simp
      refine inv_p (rRow h.md.toLvR.toRtR.toRdR t (4 * x.spot.page + x.spot.slot + 1) (by have := hs.1; omega) (fun z hz => by have := hs.2 z hz; omega)) rfl (by simp [pureL, V.pure, pureLL]) ?_
      rintro _ rfl
      have hgo : ItemOk f t l q x → ∃ j, j < l.length - q ∧ GhostV [V.int .i64 (IntKind.i64.wrap ((q : Int) + 1))] ⟨ClO f t ++ [some (nv, .mem 10 [cStored x])], nv2⟩ (@app 1 (ClI1 f t l j)) := fun hI =>
        ⟨l.length - (q + 1), by omega, GhostV.keep ⟨q + 1, _, rfl, by omega, by rw [wadd1 (by omega)], fun j z hj hz => by
          by_cases hjq : j = q
          · subst hjq
            rw [hxi] at hz
            obtain rfl := Option.some.inj hz
            exact hI
          · exact hit j z (by omega) hz, rfl⟩⟩
      rcases row_cases t (4 * x.spot.page + x.spot.slot + 1) with ⟨e1, e2⟩ | ⟨ir, iq, hir, hiq, e1, e2, e3⟩
      · rw [e1]
        simp
        exact bad (hno (fun H => by
          have := H.key
          rw [keyOf_none (row := entI x.spot) e2] at this
          cases this))
      · have hir0 : ¬ ((ir : Nat) : Int) < 0 := by omega
        have hko : keyOf t (entI x.spot) = some t.nodes[ir].es[iq].key := keyOf_some hr (List.mem_flatMap.2 ⟨t.nodes[ir], List.getElem_mem hir, by unfold leafE; rw [if_pos e2]; exact List.getElem_mem hiq⟩) e3
        rw [e1]
        simp [hir0, hir, hiq]
        refine cd (fun hb => ?_) (fun hb => ?_)
        · simp
          refine bad (hno (fun H => ?_))
          have hk := H.key
          rw [hko] at hk
          rw [Option.some.inj hk] at hb
          simp at hb
        · simp at hb
          have hk : t.nodes[ir].es[iq].key = x.tuple.key := by
            cases e8 : t.nodes[ir].es[iq].key
            cases e9 : x.tuple.key
            rw [e8, e9] at hb
            simp at hb ⊢
            exact hb
          simp
          simpa [ClO] using hgo ⟨h1, h2, hrw, by rw [hko, hk]⟩
  · simp [hlt]
    refine ⟨ClI3 f t, ⟨t.nodes.length, GhostV.refl ⟨0, _, by simp, by omega, by simp, by simp [leafN], rfl⟩⟩, ?_⟩
    rintro k3 v13 v82 st ⟨i3, nv3, rfl, hi3, rfl, rfl, rfl⟩
    by_cases hlt3 : i3 < t.nodes.length
    · obtain ⟨y, hy⟩ : ∃ y, y = t.nodes[i3] := ⟨_, rfl⟩
      have hyw := hs.2 y (by rw [hy]; exact List.getElem_mem hlt3)
      have hb1 := leafN_le (ns := t.nodes.take i3) (fun z hz => hs.2 z (List.mem_of_mem_take hz))
      have hb2 : (t.nodes.take i3).length ≤ 2 ^ 30 := by rw [List.length_take]; have := hs.1; omega
      have hb3 : leafN (t.nodes.take i3) ≤ 2 ^ 60 := Nat.le_trans hb1 (by have := Nat.mul_le_mul_right (2 ^ 30) hb2; omega)
      have hsn := leafN_snoc (t.nodes.take i3) y
      rw [hy, ← take_snoc hlt3, ← hy] at hsn
      have hgo : ∀ c : Int, c = ((leafN (t.nodes.take (i3 + 1)) : Nat) : Int) → ∃ j, j < t.nodes.length - i3 ∧ GhostV [V.int .i64 c, V.int .i64 (IntKind.i64.wrap ((i3 : Int) + 1))] ⟨ClO f t ++ [some (nv3, .mem 5 [cNode y])], nv3 + 1⟩ (@app 2 (ClI3 f t j)) := fun c hc =>
        ⟨t.nodes.length - (i3 + 1), by omega, GhostV.keep ⟨i3 + 1, _, rfl, by omega, by rw [wadd1 (by have := hs.1; omega)], by rw [hc], rfl⟩⟩
      simp [hlt3, ← hy]
      cases hyl : y.leaf
      · rw [hyl] at hsn
        simp at hsn
        simp
        simpa [ClO, hyl] using hgo _ (by rw [hsn])
      · rw [hyl] at hsn
        simp at hsn
        simp
        have hw9 : IntKind.i64.wrap ((leafN (t.nodes.take i3) : Nat) + (y.es.length : Int)) = ((leafN (t.nodes.take (i3 + 1)) : Nat) : Int) := by rw [hsn, wrap_i64 (by omega)]; omega
        simpa [ClO, hyl] using hgo _ hw9
    · have e1 : t.nodes.take i3 = t.nodes := List.take_of_length_le (by omega)
      rw [e1]
      simp [hlt3]
      have hitem : ∀ i x, l[i]? = some x → ItemOk f t l i x := fun j x hx => hit j x (by have := (List.getElem?_eq_some_iff.1 hx).1; omega) hx
      refine GhostV.refl ⟨rfl, ?_⟩
      by_cases hq : leafN t.nodes = l.length
      · have : CleanOk f t l := ⟨hitem, hq⟩
        simp [cleanB, this, hq]
      · have : ¬ CleanOk f t l := fun H => hq H.cnt
        simp [cleanB, this, hq]
end Go.Proofs.Ytmjnpfackanhlaa.AM

namespace Go.Proofs.Ytmjnpfackanhlaa.AM
open Go
set_option linter.unusedVariables false
set_option linter.unusedSimpArgs false
variable {P : Program}

/-! ### counts by rows -/
theorem lv_idxk (r : Int) : ∀ (lv : List (Int × Nat)) (k : Nat), ((∀ p ∈ lv, p.1 ≠ r) ∧ mfind (.one .int) (.int .u32 r) (eM (lvE lv)) k = some none ∧ lvOf lv r = 0) ∨
    (∃ j, ∃ h : j < lv.length, (∀ (n m : Nat), lvOf (lv.set j (r, n)) m = if (m : Int) = r then n else lvOf lv m) ∧ mfind (.one .int) (.int .u32 r) (eM (lvE lv)) k = some (some (k + j, .int .i64 ((lvOf lv r : Nat) : Int))))
  | [], k => .inl ⟨by simp, rfl, rfl⟩
  | p :: lv, k => by
    by_cases e : p.1 = r
    · have h1 : keyEq (.one .int) (.int .u32 r) (.int .u32 p.1) = some true := by simp [keyEq, eqL, e]
      have h2 : lvOf (p :: lv) r = p.2 := by simp [lvOf, e]
      refine .inr ⟨0, by simp, fun n m => ?_, ?_⟩
      · simp only [List.set_cons_zero, lvOf, List.find?_cons]
        by_cases hm : r = (m : Int)
        · simp [hm]
        · have hm' : ¬ (m : Int) = r := fun h => hm h.symm
          simp [hm, hm', e]
      · simp only [eM, lvE, List.map_cons, mfind, h1, h2]
        rfl
    · have h1 : keyEq (.one .int) (.int .u32 r) (.int .u32 p.1) = some false := by simp [keyEq, eqL]; exact fun e2 => e e2.symm
      have hm : mfind (.one .int) (.int .u32 r) (eM (lvE (p :: lv))) k = mfind (.one .int) (.int .u32 r) (eM (lvE lv)) (k + 1) := by
        simp only [eM, lvE, List.map_cons, mfind, h1]
      have h2 : lvOf (p :: lv) r = lvOf lv r := by simp [lvOf, e]
      rw [hm, h2]
      rcases lv_idxk r lv (k + 1) with ⟨a, b, c⟩ | ⟨j, hj, a, b⟩
      · exact .inl ⟨fun q hq => by
          rcases List.mem_cons.1 hq with rfl | hq
          · exact e
          · exact a q hq, b, c⟩
      · refine .inr ⟨j + 1, by simp; omega, fun n m => ?_, by rw [b]; congr 3; omega⟩
        have := a n m
        simp only [List.set_cons_succ, lvOf, List.find?_cons] at this ⊢
        by_cases hpm : p.1 = (m : Int)
        · have : ¬ (m : Int) = r := fun h => e (by rw [hpm, h])
          simp [hpm, this]
        · simp only [hpm, decide_false]
          exact this
theorem lv_snoc {r : Int} {lv : List (Int × Nat)} (h : ∀ p ∈ lv, p.1 ≠ r) (n m : Nat) : lvOf (lv ++ [(r, n)]) m = if (m : Int) = r then n else lvOf lv m := by
  induction lv with
  | nil =>
    simp only [List.nil_append, lvOf, List.find?_cons, List.find?_nil]
    by_cases hm : r = (m : Int)
    · simp [hm]
    · have hm' : ¬ (m : Int) = r := fun h => hm h.symm
      simp [hm, hm']
  | cons p lv ih =>
    have h1 := h p (by simp)
    have := ih (fun q hq => h q (by simp [hq]))
    simp only [List.cons_append, lvOf, List.find?_cons] at this ⊢
    by_cases hpm : p.1 = (m : Int)
    · have : ¬ (m : Int) = r := fun h2 => h1 (by rw [hpm, h2])
      simp [hpm, this]
    · simp only [hpm, decide_false]
      exact this
def rowsC (l : List StoredT) (r : Nat) : Nat := (l.map (fun x => x.tuple.row)).count r
theorem rowsC_snoc (l : List StoredT) (x : StoredT) (r : Nat) : rowsC (l ++ [x]) r = rowsC l r + if r = x.tuple.row then 1 else 0 := by
 unfold rowsC
 rw [List.map_append, List.count_append, List.map_singleton, List.count_singleton]
 by_cases h : r = x.tuple.row
 ·simp [h]
 ·have h' : ¬ x.tuple.row = r := fun e => h e.symm
  simp [h, h']
theorem rowsC_le (l : List StoredT) (r : Nat) : rowsC l r ≤ l.length := by
 unfold rowsC
 have := List.count_le_length (a := r) (l := l.map (fun x => x.tuple.row))
 simpa using this
theorem rowsC_zero {l : List StoredT} {i : Nat} {r : Nat} : rowsC (l.take i) r = 0 ↔ ∀ j y, j < i → l[j]? = some y → y.tuple.row ≠ r := by
 unfold rowsC
 rw [List.count_eq_zero]
 constructor
 ·intro h j y hj hy e
  refine h (List.mem_map.2 ⟨y, ?_, e⟩)
  rw [List.mem_take_iff_getElem]
  obtain ⟨h1, h2⟩ := List.getElem?_eq_some_iff.1 hy
  exact ⟨j, by omega, h2⟩
 ·intro h hm
  obtain ⟨y, hy, e⟩ := List.mem_map.1 hm
  rw [List.mem_take_iff_getElem] at hy
  obtain ⟨j, hj, h2⟩ := hy
  exact h j y (by omega) (List.getElem?_eq_some_iff.2 ⟨by omega, h2⟩) e
def cleanV (f : FatesT) (l : List StoredT) (t : TreeT) (r : V) : Prop :=
 (¬ FatesOk f ∧ r = .tup [.bool false, .int .i64 270]) ∨ (FatesOk f ∧ (∃ x ∈ l, tupS x.tuple = false) ∧ r = .tup [.bool false, .int .i64 200]) ∨
 (FatesOk f ∧ (∀ x ∈ l, tupS x.tuple = true) ∧ plantF t = false ∧ r = .tup [.bool false, .int .i64 210]) ∨
 (FatesOk f ∧ (∀ x ∈ l, tupS x.tuple = true) ∧ plantF t = true ∧ ¬ OrdOk l ∧ r = .tup [.bool false, .int .i64 2]) ∨
 (FatesOk f ∧ (∀ x ∈ l, tupS x.tuple = true) ∧ plantF t = true ∧ OrdOk l ∧ r = .tup [.bool (cleanB f t l), .int .i64 0])
def VcI1 (f : FatesT) (t : TreeT) (l : List StoredT) (k : Nat) (v11 v : V) (st : St) : Prop := ∃ (i nv : Nat) (last : Int), k = l.length - i ∧ i ≤ l.length ∧ v = .int .i64 ((i : Nat) : Int) ∧ v11 = .int .u32 last ∧
 (∀ x ∈ l.take i, spotOk x.spot) ∧ (∀ (j : Nat) (x y : StoredT), j + 1 < i → l[j]? = some x → l[j + 1]? = some y → entI x.spot < entI y.spot) ∧ ((i = 0 ∧ last = 0) ∨ (0 < i ∧ ∃ y, l[i - 1]? = some y ∧ last = entI y.spot)) ∧ st = ⟨ClO f t, nv⟩
def VcI2 (f : FatesT) (t : TreeT) (l : List StoredT) (vm : Nat) (k : Nat) (v17 v : V) (st : St) : Prop := ∃ (i nv ep : Nat) (ok : Bool) (lv : List (Int × Nat)), k = l.length - i ∧ i ≤ l.length ∧ v = .int .i64 ((i : Nat) : Int) ∧ v17 = .bool ok ∧
 (ok = true ↔ ∀ j x, j < i → l[j]? = some x → ItemOk f t l j x) ∧ (∀ m : Nat, lvOf lv m = rowsC (l.take i) m) ∧ st = ⟨ClO f t ++ [some (vm, .map ep (eM (lvE lv)))], nv⟩
def VcI3 (f : FatesT) (t : TreeT) (mo : Option (Nat × Obj)) (k : Nat) (v13 v : V) (st : St) : Prop := ∃ i nv, k = t.nodes.length - i ∧ i ≤ t.nodes.length ∧ v = .int .i64 ((i : Nat) : Int) ∧ v13 = .int .i64 ((leafN (t.nodes.take i) : Nat) : Int) ∧ st = ⟨ClO f t ++ [mo], nv⟩
set_option maxHeartbeats 2000000 in
set_option maxRecDepth 8000 in
theorem vClean (h : ClR P) (f : FatesT) (l : List StoredT) (t : TreeT) (hfl : f.list.length < 2 ^ 40) (hs : smallT t) (hr : plantF t = true → ∀ a, (rowsS (shs t.nodes)).count a ≤ 1) (hl : l.length < 2 ^ 40) :
    PCalls P n_vacuum_Clean [vFates f, .sl .unk 10 (l.map cStored) [], .agg (cTree t)] (cleanV f l t) := by
  refine A_vacuum_Clean h.vclean ?_
  delta F_vacuum_Clean sp sd gp gd fl fd gl
  simp [st0]
  refine inv_p (vac_Dead h.dl.toVacR f 0 l hfl hl) (by simp) (by simp [pureL, V.pure, pureLL]) ?_
  rintro _ (⟨hn, rfl⟩ | ⟨hf, hb, rfl⟩ | ⟨hf, hall, rfl⟩)
  · simp
    exact GhostV.refl ⟨rfl, .inl ⟨hn, rfl⟩⟩
  · simp
    exact GhostV.refl ⟨rfl, .inr (.inl ⟨hf, hb, rfl⟩)⟩
  simp
  refine inv_p (tCheck h.md.toLvR.toPlR t hs) rfl (by simp [pureL, V.pure, pureLL]) ?_
  rintro _ rfl
  cases hp : plantF t
  · simp
    exact GhostV.refl ⟨rfl, .inr (.inr (.inl ⟨hf, hall, hp, rfl⟩))⟩
  simp
  have badO : ¬ OrdOk l → ∀ {st : St}, GhostV [.bool false, .int .i64 2] st fun vs st => (mkres vs).pure = true ∧ cleanV f l t (mkres vs) := fun hb st => GhostV.refl ⟨rfl, .inr (.inr (.inr (.inl ⟨hf, hall, hp, hb, rfl⟩)))⟩
  refine ⟨VcI1 f t l, ⟨l.length, GhostV.refl ⟨0, _, 0, by simp, by omega, by simp, rfl, by simp, fun j x y hj => by omega, .inl ⟨rfl, rfl⟩, rfl⟩⟩, ?_⟩
  rintro k1 v11 v43 st ⟨i, nv, last, rfl, hi, rfl, rfl, hsp, hor, hla, rfl⟩
  by_cases hlt : i < l.length
  · obtain ⟨x, hx⟩ : ∃ x, x = l[i] := ⟨_, rfl⟩
    have hxi : l[i]? = some x := by rw [List.getElem?_eq_getElem hlt, hx]
    simp [hlt, ← hx]
    refine inv_p (Entry h.dl.entry x.spot) rfl (by simp [pureL, V.pure]) ?_
    rintro _ (⟨hns, rfl⟩ | ⟨hso, rfl⟩)
    · simp
      exact badO (fun H => hns (H.spot x (List.mem_of_getElem? hxi)))
    · simp
      have hent : x.spot.page * 4 + x.spot.slot + 1 = entI x.spot := by unfold entI; omega
      rw [hent]
      by_cases hle : entI x.spot ≤ last
      · simp [hle]
        refine badO (fun H => ?_)
        rcases hla with ⟨_, h0⟩ | ⟨h0, y, hy, h1⟩
        · obtain ⟨g1, g2, g3, g4⟩ := hso
          unfold entI at hle; omega
        · have := H.ord (i - 1) y x hy (by rw [show i - 1 + 1 = i by omega]; exact hxi)
          omega
      · simp [hle]
        have : GhostV [V.int .u32 (entI x.spot), V.int .i64 (IntKind.i64.wrap ((i : Int) + 1))] ⟨ClO f t ++ [some (nv, .mem 10 [cStored x])], nv + 1⟩ (@app 2 (VcI1 f t l (l.length - (i + 1)))) :=
          GhostV.keep ⟨i + 1, _, entI x.spot, rfl, by omega, by rw [wadd1 (by omega)], rfl, fun y hy => by
            rw [take_snoc hlt, ← hx, List.mem_append] at hy
            rcases hy with hy | hy
            · exact hsp y hy
            · rw [List.mem_singleton.1 hy]; exact hso, fun j a c hj ha hc => by
            by_cases hji : j + 1 = i
            · rcases hla with ⟨h0, _⟩ | ⟨h0, y, hy, h1⟩
              · omega
              · have e1 : j = i - 1 := by omega
                rw [e1, hy] at ha
                rw [hji, hxi] at hc
                obtain rfl := Option.some.inj ha
                obtain rfl := Option.some.inj hc
                omega
            · exact hor j a c (by omega) ha hc, .inr ⟨by omega, x, by simpa using hxi, rfl⟩, rfl⟩
        exact ⟨l.length - (i + 1), by omega, by simpa [ClO] using this⟩
  · have hO : OrdOk l := by
      rw [List.take_of_length_le (by omega)] at hsp
      exact ⟨hsp, fun j x y h1 h2 => hor j x y (by have := (List.getElem?_eq_some_iff.1 h2).1; omega) h1 h2⟩
    have hru := hr hp
    simp [hlt]
    clear hsp hor hla hlt hi
    refine ⟨VcI2 f t l nv, ⟨l.length, GhostV.refl ⟨0, nv + 2, nv + 1, true, [], by simp, by omega, by simp, rfl, by simp, fun m => by simp [lvOf, rowsC], by simp [eM, lvE]⟩⟩, ?_⟩
    rintro k2 v17 v65 st ⟨i, nv2, ep, ok, lv, rfl, hi, rfl, rfl, hok, hlv, rfl⟩
    by_cases hlt : i < l.length
    · obtain ⟨x, hx⟩ : ∃ x, x = l[i] := ⟨_, rfl⟩
      have hxi : l[i]? = some x := by rw [List.getElem?_eq_getElem hlt, hx]
      have hso := hO.spot x (List.mem_of_getElem? hxi)
      have hrl := rowsC_le (l.take i) x.tuple.row
      rw [List.length_take] at hrl
      have hlvr := hlv x.tuple.row
      have hlv' : ∀ lv', (∀ n m : Nat, n = lvOf lv x.tuple.row + 1 → lvOf lv' m = if (m : Int) = (x.tuple.row : Int) then n else lvOf lv m) → ∀ m : Nat, lvOf lv' m = rowsC (l.take (i + 1)) m := fun lv' h m => by
        rw [h _ m rfl, take_snoc hlt, ← hx, rowsC_snoc, hlv]
        by_cases e : m = x.tuple.row
        · simp [e, hlvr]
        · have e' : ¬ (m : Int) = (x.tuple.row : Int) := by omega
          simp [e, e', hlv]
      have hent : x.spot.page * 4 + x.spot.slot + 1 = entI x.spot := by unfold entI; omega
      have hrz : rowsC (l.take i) x.tuple.row = 0 ↔ ∀ j y, j < i → l[j]? = some y → y.tuple.row ≠ x.tuple.row := rowsC_zero
      have hr1 : rowsC (l.take (i + 1)) x.tuple.row = rowsC (l.take i) x.tuple.row + 1 := by rw [take_snoc hlt, ← hx, rowsC_snoc]; simp
      have hgo : ∀ (b : Bool) (lv' : List (Int × Nat)) (ep' nv' : Nat) (M : List (Option (Nat × Obj))), (∀ m : Nat, lvOf lv' m = rowsC (l.take (i + 1)) m) → (b = true ↔ (ok = true ∧ ItemOk f t l i x)) →
          ∃ j, j < l.length - i ∧ GhostV [V.bool b, V.int .i64 (IntKind.i64.wrap ((i : Int) + 1))] ⟨(ClO f t ++ [some (nv, .map ep' (eM (lvE lv')))]) ++ M, nv'⟩ (@app 2 (VcI2 f t l nv j)) := fun b lv' ep' nv' M hL hb =>
        ⟨l.length - (i + 1), by omega, GhostV.keep ⟨i + 1, nv', ep', b, lv', rfl, by omega, by rw [wadd1 (by omega)], rfl, by
          rw [hb, hok]
          constructor
          · rintro ⟨h1, h2⟩ j z hj hz
            by_cases hji : j = i
            · subst hji
              rw [hxi] at hz
              obtain rfl := Option.some.inj hz
              exact h2
            · exact h1 j z (by omega) hz
          · exact fun h1 => ⟨fun j z hj hz => h1 j z (by omega) hz, h1 i x (by omega) hxi⟩, hL, rfl⟩⟩
      simp [hlt, ← hx]
      rcases lv_idxk (x.tuple.row : Int) lv 0 with ⟨hn, hm, h0⟩ | ⟨j, hj, hset, hm⟩
      case' inl =>
        have hw0 : IntKind.i64.wrap 1 = 1 := by decide
        have he : eM (lvE lv) ++ [(V.int IntKind.u32 (x.tuple.row : Int), V.int IntKind.i64 1)] = eM (lvE (lv ++ [((x.tuple.row : Int), 1)])) := by simp [eM, lvE]
        obtain ⟨lv', hl'⟩ : ∃ lv', lv' = lv ++ [((x.tuple.row : Int), 1)] := ⟨_, rfl⟩
        have hL : ∀ m : Nat, lvOf lv' m = rowsC (l.take (i + 1)) m := hlv' lv' (fun n m hn2 => by rw [hl', hn2, h0]; exact lv_snoc hn _ m)
        simp [hm, hw0]
        rw [he, ← hl']
      case' inr =>
        have hwn : IntKind.i64.wrap (((lvOf lv x.tuple.row : Nat) : Int) + 1) = ((lvOf lv x.tuple.row + 1 : Nat) : Int) := wadd1 (by omega)
        have he : (eM (lvE lv)).set j (V.int IntKind.u32 (x.tuple.row : Int), V.int IntKind.i64 ((lvOf lv x.tuple.row + 1 : Nat) : Int)) = eM (lvE (lv.set j ((x.tuple.row : Int), lvOf lv x.tuple.row + 1))) := by simp [eM, lvE, List.map_set]
        obtain ⟨lv', hl'⟩ : ∃ lv', lv' = lv.set j ((x.tuple.row : Int), lvOf lv x.tuple.row + 1) := ⟨_, rfl⟩
        have hL : ∀ m : Nat, lvOf lv' m = rowsC (l.take (i + 1)) m := hlv' lv' (fun n m hn2 => by rw [hl', hn2]; exact hset _ m)
        rw [Nat.zero_add] at hm
        simp [hm]
        rw [hwn, he, ← hl']
      all_goals
        have hLr := hL x.tuple.row
        refine inv_p (Entry h.dl.entry x.spot) rfl (by simp [pureL, V.pure]) ?_
        rintro _ (⟨hns, rfl⟩ | ⟨_, rfl⟩)
        · exact absurd hso hns
        simp
        rw [hent]
        refine inv_p (tRow h.md.toLvR t hs hr (entI x.spot)) rfl (by simp [pureL, V.pure, pureLL]) ?_
        rintro _ rfl
        unfold rowR
        rw [hp]
        cases hk : keyOf t (entI x.spot) with
        | none =>
          have hnI : ¬ ItemOk f t l i x := fun H => by have := H.key; rw [hk] at this; cases this
          cases ok
          · simp
            simpa [ClO] using hgo false lv' _ _ _ hL (by simp)
          · simp
            simpa [ClO] using hgo false lv' _ _ _ hL (by simp [hnI])
        | some k =>
          cases ok
          · simp
            simpa [ClO] using hgo false lv' _ _ _ hL (by simp)
          · simp
            obtain ⟨kb, hkb⟩ : ∃ kb, kb = (decide (k.x0 = x.tuple.key.x0) && (decide (k.x1 = x.tuple.key.x1) && (decide (k.y0 = x.tuple.key.y0) && decide (k.y1 = x.tuple.key.y1)))) := ⟨_, rfl⟩
            have hkk : kb = true ↔ k = x.tuple.key := by
              rw [hkb]
              cases k
              cases e9 : x.tuple.key
              simp
            rw [← hkb]
            cases kb
            · have hnI : ¬ ItemOk f t l i x := fun H => by
                have := H.key
                rw [hk] at this
                have := hkk.2 (Option.some.inj this)
                cases this
              simp
              simpa [ClO] using hgo false lv' _ _ _ hL (by simp [hnI])
            · have hke : k = x.tuple.key := hkk.1 rfl
              simp
              rcases lv_idxk (x.tuple.row : Int) lv' 0 with ⟨_, _, h0⟩ | ⟨j2, hj2, _, hm2⟩
              · omega
              rw [Nat.zero_add] at hm2
              by_cases hz : rowsC (l.take i) x.tuple.row = 0
              · have hl1 : lvOf lv' x.tuple.row = 1 := by omega
                rw [hl1] at hm2
                simp [hm2]
                refine inv_p (vCounts h f x.tuple.xmin hf) rfl (by simp [pureL, V.pure, pureLL]) ?_
                rintro _ rfl
                have hrow := hrz.1 hz
                cases hc1 : cm f x.tuple.xmin
                · have hnI : ¬ ItemOk f t l i x := fun H => by have := H.cmin; rw [hc1] at this; cases this
                  simp
                  simpa [ClO] using hgo false lv' _ _ _ hL (by simp [hnI])
                · by_cases hx0 : x.tuple.xmax = 0
                  · have d0 : decide (x.tuple.xmax = 0) = true := decide_eq_true hx0
                    have hI : ItemOk f t l i x := ⟨hc1, by rw [hx0]; exact cm_zero f, hrow, by rw [hk, hke]⟩
                    simp [d0]
                    simpa [ClO] using hgo true lv' _ _ _ hL (by simp [hI])
                  · simp [hx0]
                    refine inv_p (vCounts h f x.tuple.xmax hf) rfl (by simp [pureL, V.pure, pureLL]) ?_
                    rintro _ rfl
                    cases hc2 : cm f x.tuple.xmax
                    · have hI : ItemOk f t l i x := ⟨hc1, hc2, hrow, by rw [hk, hke]⟩
                      simp [hx0]
                      simpa [ClO] using hgo true lv' _ _ _ hL (by simp [hI])
                    · have hnI : ¬ ItemOk f t l i x := fun H => by have := H.cmax; rw [hc2] at this; cases this
                      simp [hx0]
                      simpa [ClO] using hgo false lv' _ _ _ hL (by simp [hnI])
              · have hl1 : ¬ ((lvOf lv' x.tuple.row : Nat) : Int) = 1 := by omega
                have hnI : ¬ ItemOk f t l i x := fun H => hz (hrz.2 H.row)
                simp [hm2, hl1]
                simpa [ClO] using hgo false lv' _ _ _ hL (by simp [hnI])
    · have hok' : ok = true ↔ ∀ i x, l[i]? = some x → ItemOk f t l i x := by
        rw [hok]
        exact ⟨fun h1 j x hx => h1 j x (by have := (List.getElem?_eq_some_iff.1 hx).1; omega) hx, fun h1 j x _ hx => h1 j x hx⟩
      simp [hlt]
      clear hok hlv
      obtain ⟨mo, hmo⟩ : ∃ mo, mo = some (nv, Obj.map ep (eM (lvE lv))) := ⟨_, rfl⟩
      rw [← hmo]
      refine ⟨VcI3 f t mo, ⟨t.nodes.length, GhostV.refl ⟨0, nv2, by simp, by omega, by simp, by simp [leafN], by simp⟩⟩, ?_⟩
      rintro k3 v24 v135 st ⟨i3, nv3, rfl, hi3, rfl, rfl, rfl⟩
      by_cases hlt3 : i3 < t.nodes.length
      · obtain ⟨y, hy⟩ : ∃ y, y = t.nodes[i3] := ⟨_, rfl⟩
        have hyw := hs.2 y (by rw [hy]; exact List.getElem_mem hlt3)
        have hb1 := leafN_le (ns := t.nodes.take i3) (fun z hz => hs.2 z (List.mem_of_mem_take hz))
        have hb2 : (t.nodes.take i3).length ≤ 2 ^ 30 := by rw [List.length_take]; have := hs.1; omega
        have hb3 : leafN (t.nodes.take i3) ≤ 2 ^ 60 := Nat.le_trans hb1 (by have := Nat.mul_le_mul_right (2 ^ 30) hb2; omega)
        have hsn := leafN_snoc (t.nodes.take i3) y
        rw [hy, ← take_snoc hlt3, ← hy] at hsn
        have hgo : ∀ c : Int, c = ((leafN (t.nodes.take (i3 + 1)) : Nat) : Int) → ∃ j, j < t.nodes.length - i3 ∧ GhostV [V.int .i64 c, V.int .i64 (IntKind.i64.wrap ((i3 : Int) + 1))] ⟨(ClO f t ++ [mo]) ++ [some (nv3, .mem 5 [cNode y])], nv3 + 1⟩ (@app 2 (VcI3 f t mo j)) := fun c hc =>
          ⟨t.nodes.length - (i3 + 1), by omega, GhostV.keep ⟨i3 + 1, _, rfl, by omega, by rw [wadd1 (by have := hs.1; omega)], by rw [hc], rfl⟩⟩
        simp [hlt3, ← hy]
        cases hyl : y.leaf
        · rw [hyl] at hsn
          simp at hsn
          simp
          simpa [ClO, hyl] using hgo _ (by rw [hsn])
        · rw [hyl] at hsn
          simp at hsn
          simp
          have hw9 : IntKind.i64.wrap ((leafN (t.nodes.take i3) : Nat) + (y.es.length : Int)) = ((leafN (t.nodes.take (i3 + 1)) : Nat) : Int) := by rw [hsn, wrap_i64 (by omega)]; omega
          simpa [ClO, hyl] using hgo _ hw9
      · have e1 : t.nodes.take i3 = t.nodes := List.take_of_length_le (by omega)
        rw [e1]
        have fin : ∀ b : Bool, b = cleanB f t l → ∀ {st : St}, GhostV [.bool b, .int .i64 0] st fun vs st => (mkres vs).pure = true ∧ cleanV f l t (mkres vs) := fun b hb st => GhostV.refl ⟨rfl, .inr (.inr (.inr (.inr ⟨hf, hall, hp, hO, by rw [hb]; rfl⟩)))⟩
        cases ok
        · simp [hlt3]
          refine fin false ?_
          have : ¬ CleanOk f t l := fun H => by have := hok'.2 H.item; cases this
          simp [cleanB, this]
        · simp [hlt3]
          refine fin _ ?_
          by_cases hq : leafN t.nodes = l.length
          · have : CleanOk f t l := ⟨hok'.1 rfl, hq⟩
            simp [cleanB, this, hq]
          · have : ¬ CleanOk f t l := fun H => hq H.cnt
            simp [cleanB, this, hq]
end Go.Proofs.Ytmjnpfackanhlaa.AM

namespace Go.Proofs.Ytmjnpfackanhlaa.AM
open Go
set_option linter.unusedVariables false
set_option linter.unusedSimpArgs false
variable {P : Program}

theorem rgt_plant {t : TreeT} (T : TyT t) : rgtB t = plantF t := by
 cases h : plantF t with
 | true => exact rgtB_yes (plant_inv T h).rgt
 | false => exact rgtB_no (fun H => by rw [(rgt_inv T H).plant] at h; cases h)
@[simp] theorem p_keys (l : List KeyT) : pureLL (l.map cKey) = true := pureLL_map (fun _ => rfl) l
@[simp] theorem p_ints (l : List Int) : pureLL (l.map fun i => [V.int IntKind.i64 i]) = true := pureLL_map (fun _ => rfl) l
def LcO (f : FatesT) (m : MadeT) (t : TreeT) : List (Option (Nat × Obj)) := [some (0, .mem 2 [[.int .u64 f.first, .sl .unk 2 (f.list.map cFate) []]]), some (1, .mem 6 [cMade m]), some (2, .mem 3 [cTree t])]
def LcJ (f : FatesT) (m : MadeT) (t : TreeT) (e : Int) (v : V) (st : St) : Prop := ∃ nv, v = .int .i64 e ∧ st = ⟨LcO f m t, nv⟩
set_option maxHeartbeats 2000000 in
theorem lClean (h : ClR P) (hl : R_gazetteerlaw18_VacuumClean P) (f : FatesT) (l : List StoredT) (m : MadeT) (hT : TyT m.tree) (hk : m.take.length < 2 ^ 63) :
  PCalls P n_gazetteerlaw18_VacuumClean [vFates f, .sl .unk 10 (l.map cStored) [], .agg (cMade m)] (fun r => r = .bool true) := by
 refine A_gazetteerlaw18_VacuumClean hl ?_
 delta F_gazetteerlaw18_VacuumClean sp sd gp gd fl fd gl
 simp [st0]
 refine inv_p (wakes18 h.dl.toWakeR) rfl (by simp [pureL]) ?_
 rintro _ rfl
 simp
 refine inv_p (rMade h.md m hT hk) rfl (by simp [pureL, V.pure, pureLL]) ?_
 rintro _ ⟨t, ht, rfl⟩
 simp
 obtain ⟨f', hf'⟩ : ∃ f' : FatesT, f' = ⟨f.first, f.list.take 257⟩ := ⟨_, rfl⟩
 obtain ⟨l', hl'⟩ : ∃ l', l' = l.take 130 := ⟨_, rfl⟩
 have hfl : f'.list.length < 2 ^ 40 := by rw [hf']; simp only [List.length_take]; omega
 have hll : l'.length < 2 ^ 40 := by rw [hl', List.length_take]; omega
 have hr : plantF t = true → ∀ a, (rowsS (shs t.nodes)).count a ≤ 1 := fun hp => (plant_inv ht.ty hp).rows
 have hbig : t.nodes.length < 2 ^ 40 ∧ ∀ x ∈ t.nodes, x.es.length < 2 ^ 40 := ⟨by have := ht.small.1; omega, fun x hx => by have := ht.small.2 x hx; omega⟩
 have hF : PCalls P n_gazetteerlaw18_fates [vFates f] (fun r => r = vFates f') := by rw [hf']; exact fates18 h.dl.fates18 f
 have hI : PCalls P n_gazetteerlaw18_items [.sl .unk 10 (l.map cStored) []] (fun r => r = .sl .unk 10 (l'.map cStored) []) := by rw [hl']; exact items18 h.dl.items l
 clear hf' hl'
 refine inv_p hF (by simp) (by simp [pureL, V.pure, pureLL]) ?_
 rintro _ rfl
 simp
 refine inv_p hI rfl (by simp [pureL, V.pure, pureLL]) ?_
 rintro _ rfl
 simp
 refine inv_p (vClean h f' l' t hfl ht.small hr hll) rfl (by simp [pureL, V.pure, pureLL]) ?_
 have fin : ∀ {st : St}, GhostV [.bool true] st fun vs st => (mkres vs).pure = true ∧ mkres vs = .bool true := fun {st} => GhostV.refl ⟨rfl, rfl⟩
 rintro _ (⟨hn, rfl⟩ | ⟨hf, hbt, rfl⟩ | ⟨hf, hat, hp, rfl⟩ | ⟨hf, hat, hp, hno, rfl⟩ | ⟨hf, hat, hp, ho, rfl⟩)
 ·simp
  refine ⟨LcJ f' m t 270, ?_, ?_⟩
  ·simp
   refine inv_p (Right17 h.dl.right17 f' hfl) rfl (by simp [pureL, V.pure, pureLL]) ?_
   rintro _ ⟨b, rfl, hb⟩
   cases b
   ·simp
    exact GhostV.refl ⟨3, rfl, by simp [LcO]⟩
   ·exact absurd (hb.1 rfl) hn
  rintro v10 st ⟨nv, rfl, rfl⟩
  simp
  exact fin
 ·simp
  refine ⟨LcJ f' m t 200, ?_, ?_⟩
  ·simp
   refine inv_p (Right17 h.dl.right17 f' hfl) rfl (by simp [pureL, V.pure, pureLL]) ?_
   rintro _ ⟨b, rfl, hb⟩
   obtain rfl : b = true := hb.2 hf
   simp
   refine inv_p (All17 h.dl.box09 h.dl.right10 h.dl.all17 l' (by omega)) rfl (by simp [pureL, V.pure, pureLL]) ?_
   rintro _ rfl
   have : (l'.all fun x => tupS x.tuple) = false := by
    obtain ⟨x, hx, h1⟩ := hbt
    exact List.all_eq_false.2 ⟨x, hx, by simp [h1]⟩
   rw [this]
   simp
   exact GhostV.refl ⟨3, rfl, by simp [LcO]⟩
  rintro v10 st ⟨nv, rfl, rfl⟩
  simp
  exact fin
 all_goals
  have hat' : (l'.all fun x => tupS x.tuple) = true := List.all_eq_true.2 hat
 ·simp
  refine ⟨LcJ f' m t 210, ?_, ?_⟩
  ·simp
   refine inv_p (Right17 h.dl.right17 f' hfl) rfl (by simp [pureL, V.pure, pureLL]) ?_
   rintro _ ⟨b, rfl, hb⟩
   obtain rfl : b = true := hb.2 hf
   simp
   refine inv_p (All17 h.dl.box09 h.dl.right10 h.dl.all17 l' (by omega)) rfl (by simp [pureL, V.pure, pureLL]) ?_
   rintro _ rfl
   rw [hat']
   simp
   refine inv_p (rRight11 h.md.toLvR.toRtR t hbig.1 hbig.2) rfl (by simp [pureL, V.pure, pureLL]) ?_
   rintro _ rfl
   rw [rgt_plant ht.ty, hp]
   simp
   exact GhostV.refl ⟨3, rfl, by simp [LcO]⟩
  rintro v10 st ⟨nv, rfl, rfl⟩
  simp
  exact fin
 ·simp
  refine ⟨LcJ f' m t 2, ?_, ?_⟩
  ·simp
   refine inv_p (Right17 h.dl.right17 f' hfl) rfl (by simp [pureL, V.pure, pureLL]) ?_
   rintro _ ⟨b, rfl, hb⟩
   obtain rfl : b = true := hb.2 hf
   simp
   refine inv_p (All17 h.dl.box09 h.dl.right10 h.dl.all17 l' (by omega)) rfl (by simp [pureL, V.pure, pureLL]) ?_
   rintro _ rfl
   rw [hat']
   simp
   refine inv_p (rRight11 h.md.toLvR.toRtR t hbig.1 hbig.2) rfl (by simp [pureL, V.pure, pureLL]) ?_
   rintro _ rfl
   rw [rgt_plant ht.ty, hp]
   simp
   refine inv_p (Ordered18 h l' hll) rfl (by simp [pureL, V.pure, pureLL]) ?_
   rintro _ rfl
   have : ordB l' = false := by simp [ordB, hno]
   rw [this]
   simp
   exact GhostV.refl ⟨3, rfl, by simp [LcO]⟩
  rintro v10 st ⟨nv, rfl, rfl⟩
  simp
  exact fin
 ·simp
  refine ⟨LcJ f' m t 0, ?_, ?_⟩
  ·simp
   refine inv_p (Right17 h.dl.right17 f' hfl) rfl (by simp [pureL, V.pure, pureLL]) ?_
   rintro _ ⟨b, rfl, hb⟩
   obtain rfl : b = true := hb.2 hf
   simp
   refine inv_p (All17 h.dl.box09 h.dl.right10 h.dl.all17 l' (by omega)) rfl (by simp [pureL, V.pure, pureLL]) ?_
   rintro _ rfl
   rw [hat']
   simp
   refine inv_p (rRight11 h.md.toLvR.toRtR t hbig.1 hbig.2) rfl (by simp [pureL, V.pure, pureLL]) ?_
   rintro _ rfl
   rw [rgt_plant ht.ty, hp]
   simp
   refine inv_p (Ordered18 h l' hll) rfl (by simp [pureL, V.pure, pureLL]) ?_
   rintro _ rfl
   have : ordB l' = true := by simp [ordB, ho]
   rw [this]
   simp
   exact GhostV.refl ⟨3, rfl, by simp [LcO]⟩
  rintro v10 st ⟨nv, rfl, rfl⟩
  simp [LcO]
  refine inv_p (rClean h f' t l' hfl ht.small (hr hp) hll ho.spot) rfl (by simp [pureL, V.pure, pureLL]) ?_
  rintro _ rfl
  simp
  exact fin
end Go.Proofs.Ytmjnpfackanhlaa.AM
