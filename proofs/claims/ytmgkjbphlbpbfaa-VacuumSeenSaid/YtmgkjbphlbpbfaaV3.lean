/- vision: may fates be; who is dead. -/
import Derived.Test.YtmgkjbphlbpbfaaV2
namespace Go.Proofs.Ytmgkjbphlbpbfaa.AM
open Go
set_option linter.unusedVariables false
set_option linter.unusedSimpArgs false
variable {P : Program}

def FOk (first : Nat) (l : List FateT) : Prop := (∀ x ∈ l, first ≤ x.id) ∧ l.Pairwise (fun a b => a.id < b.id) ∧ l.Pairwise (fun a b => b.number = 0 ∨ a.number ≠ b.number)
def FatesOk (f : FatesT) : Prop := 0 < f.first ∧ f.list.length ≤ 256 ∧ FOk f.first f.list

theorem FOk.snoc {first : Nat} {l : List FateT} {x : FateT} : FOk first (l ++ [x]) ↔ FOk first l ∧ first ≤ x.id ∧ (∀ a ∈ l, a.id < x.id) ∧ (∀ a ∈ l, x.number = 0 ∨ a.number ≠ x.number) := by
  unfold FOk
  simp only [List.mem_append, List.mem_singleton, List.pairwise_append, List.pairwise_singleton, List.forall_mem_singleton, true_and, forall_eq_or_imp, forall_eq]
  constructor
  · rintro ⟨h1, ⟨h2, h3⟩, h4, h5⟩
    exact ⟨⟨fun x hx => h1 x (.inl hx), h2, h4⟩, h1 _ (.inr rfl), fun a ha => h3 a ha, fun a ha => h5 a ha⟩
  · rintro ⟨⟨h1, h2, h4⟩, h6, h3, h5⟩
    refine ⟨?_, ⟨h2, ?_⟩, h4, ?_⟩
    · rintro y (hy | rfl)
      · exact h1 y hy
      · exact h6
    · rintro a ha; exact h3 a ha
    · rintro a ha; exact h5 a ha

theorem FOk.take {first : Nat} {l : List FateT} {i : Nat} (h : FOk first l) : FOk first (l.take i) :=
  ⟨fun x hx => h.1 x (List.mem_of_mem_take hx), h.2.1.sublist (List.take_sublist _ _), h.2.2.sublist (List.take_sublist _ _)⟩

theorem take_snoc {α : Type} {l : List α} {i : Nat} (h : i < l.length) : l.take (i + 1) = l.take i ++ [l[i]] := by
  rw [List.take_add_one, List.getElem?_eq_getElem h]; rfl

def entN (m : Nat) : V × V := (.int .u64 m, .bool true)

theorem mfind_nat (n : Nat) : ∀ (ks : List Nat) (i : Nat), mfind (.one .int) (.int .u64 n) (ks.map entN) i = some (if n ∈ ks then some (i + ks.idxOf n, .bool true) else none)
  | [], i => by simp [mfind]
  | m :: ks, i => by
    have e : keyEq (.one .int) (.int .u64 n) (entN m).1 = some (decide (n = m)) := by
      by_cases h : n = m
      · subst h; simp [keyEq, eqL, entN]
      · have : ¬ (n : Int) = m := by omega
        simp [keyEq, eqL, entN, h, this]
    simp only [List.map_cons]
    have key : mfind (.one .int) (.int .u64 n) (entN m :: ks.map entN) i = match keyEq (.one .int) (.int .u64 n) (entN m).1 with
      | some true => some (some (i, (entN m).2))
      | some false => mfind (.one .int) (.int .u64 n) (ks.map entN) (i + 1)
      | none => none := rfl
    rw [key, e]
    by_cases h : n = m
    · subst h; simp [entN, List.idxOf_cons]
    · simp only [h, decide_false, mfind_nat n ks (i + 1)]
      have hm : (m == n) = false := by simpa using fun e => h e.symm
      by_cases hk : n ∈ ks
      · simp [hk, List.idxOf_cons, hm]; omega
      · simp [hk, h]

theorem setSame {n : Nat} {ks : List Nat} (h : n ∈ ks) : (ks.map entN).set (ks.idxOf n) ((.int .u64 n : V), (.bool true : V)) = ks.map entN := by
  apply List.ext_getElem?
  intro j
  by_cases e : ks.idxOf n = j
  · subst e
    have hl := List.idxOf_lt_length_of_mem h
    rw [List.getElem?_set_self (by simpa using hl), List.getElem?_map, List.getElem?_eq_getElem hl]
    simp [entN]
  · rw [List.getElem?_set_ne e]

theorem keysNew {l : List FateT} {x : FateT} {ks : List Nat} (h : ∀ n, n ∈ ks ↔ ∃ x ∈ l, x.number = n) (hk : x.number ∉ ks) : ∀ n, n ∈ ks ++ [x.number] ↔ ∃ y ∈ l ++ [x], y.number = n := by
  intro n
  simp only [List.mem_append, List.mem_singleton, h]
  constructor
  · rintro (⟨y, hy, e⟩ | rfl)
    · exact ⟨y, .inl hy, e⟩
    · exact ⟨x, .inr rfl, rfl⟩
  · rintro ⟨y, hy | rfl, e⟩
    · exact .inl ⟨y, hy, e⟩
    · exact .inr e.symm

theorem keysOld {l : List FateT} {x : FateT} {ks : List Nat} (h : ∀ n, n ∈ ks ↔ ∃ x ∈ l, x.number = n) (hk : x.number ∈ ks) : ∀ n, n ∈ ks ↔ ∃ y ∈ l ++ [x], y.number = n := by
  intro n
  constructor
  · intro hn
    obtain ⟨y, hy, e⟩ := (h n).1 hn
    exact ⟨y, by simp [hy], e⟩
  · rintro ⟨y, hy, e⟩
    simp at hy
    rcases hy with hy | rfl
    · exact (h n).2 ⟨y, hy, e⟩
    · rw [← e]; exact hk

def CheckR (f : FatesT) (r : V) : Prop := ∃ ok : Bool, r = .int .i64 (if ok then 0 else 270) ∧ (ok = true ↔ FatesOk f)

def CheckI (f : FatesT) (k : Nat) (v : V) (st : St) : Prop := ∃ (i nv ep : Nat) (ks : List Nat), k = f.list.length - i ∧ i ≤ f.list.length ∧ v = .int .i64 i ∧ 
      st = ⟨[some (0, .mem 2 [[.int .u64 f.first, .sl .unk 2 (f.list.map cFate) []]]), some (1, .map ep (ks.map entN))], nv⟩ ∧ (∀ n, n ∈ ks ↔ ∃ x ∈ f.list.take i, x.number = n) ∧ FOk f.first (f.list.take i)

theorem vis_Check (hR : R_vision_Check P) (f : FatesT) (hl : f.list.length < 2 ^ 40) : PCalls P n_vision_Check [vFates f] (CheckR f) := by
  refine A_vision_Check hR ?_
  unfold F_vision_Check
  simp [st0]
  by_cases h1 : (f.first : Int) < 1
  · have h1' : f.first = 0 := by omega
    simp [h1']
    exact GhostV.refl ⟨rfl, false, rfl, by simp [FatesOk, h1']⟩
  by_cases h2 : (256 : Int) < f.list.length
  · simp [h1, h2]
    exact GhostV.refl ⟨rfl, false, rfl, by simp [FatesOk]; omega⟩
  simp [h1, h2]
  refine ⟨CheckI f,
    ⟨f.list.length, GhostV.refl ⟨0, 3, 2, [], by simp, by simp, by simp, rfl, by simp, by simp [FOk]⟩⟩, ?_⟩
  rintro k1 v19 st ⟨i, nv, ep, ks, rfl, hi, rfl, rfl, hks, hok⟩
  by_cases hlt : i < f.list.length
  · have hsn := take_snoc hlt
    have bad' : ∀ st, ¬ FOk f.first (f.list.take (i + 1)) → GhostV [.int .i64 270] st (fun vs st => (mkres vs).pure = true ∧ CheckR f (mkres vs)) := fun st hb =>
      GhostV.refl ⟨rfl, false, rfl, by simp; exact fun h => hb h.2.2.take⟩
    simp only [hsn, FOk.snoc] at bad'
    simp [hlt]
    by_cases hA : f.list[i].id < f.first
    · simp [hA]
      exact bad' _ (fun h => by have := h.2.1; omega)
    · simp [hA]
      have hB : (0 < i → f.list[i - 1].id < f.list[i].id) ∨ (∃ h : 0 < i, ¬ f.list[i - 1].id < f.list[i].id) := by
        by_cases h : 0 < i → f.list[i - 1].id < f.list[i].id
        · exact .inl h
        · refine .inr ⟨?_, ?_⟩
          · exact Nat.pos_of_ne_zero (fun e => h (fun h' => by omega))
          · exact fun h' => h (fun _ => h')
      rcases hB with hB | ⟨h0, hB⟩
      · have e2 : IntKind.i64.wrap ((i : Int) + 1) = ((i + 1 : Nat) : Int) := by rw [wrap_i64 (by omega)]; omega
        have hall : ∀ a ∈ f.list.take i, a.id < f.list[i].id := by
          intro a ha
          obtain ⟨j, hj, rfl⟩ := List.mem_take_iff_getElem.1 ha
          have hr : Rising (f.list.take i) := hok.2.1
          have := hB (by omega)
          by_cases e : j = i - 1
          · subst e; exact this
          · have h3 := hr.lt (i := j) (j := i - 1) (by omega) (by simp; omega)
            simp at h3; omega
        by_cases h0 : 0 < i
        · have e1 : IntKind.i64.wrap ((i : Int) - 1) = ((i - 1 : Nat) : Int) := by rw [wrap_i64 (by omega)]; omega
          have hi1 : i - 1 < f.list.length := by omega
          have hB' : ¬ f.list[i].id ≤ f.list[i - 1].id := by have := hB h0; omega
          simp [hA, h0, e1, hi1, hB']
          by_cases hn : 0 < f.list[i].number
          · simp [hn, mfind_nat]
            by_cases hk : f.list[i].number ∈ ks
            · simp [hk]
              refine bad' _ (fun h => ?_)
              obtain ⟨x, hx, hx'⟩ := (hks _).1 hk
              have := h.2.2.2 x hx
              omega
            · simp [hk, mfind_nat, e2]
              exact ⟨f.list.length - (i + 1), by omega, GhostV.take 2 ⟨i + 1, _, _, ks ++ [f.list[i].number], rfl, by omega, by simp [e2], by simp [entN]; exact ⟨rfl, rfl⟩, by rw [hsn]; exact keysNew hks hk, by rw [hsn, FOk.snoc]; exact ⟨hok, by omega, hall, fun a ha => .inr fun e => hk ((hks _).2 ⟨a, ha, e⟩)⟩⟩⟩
          · simp [hn, mfind_nat, e2]
            by_cases hk : f.list[i].number ∈ ks
            · simp [hk]
              exact ⟨f.list.length - (i + 1), by omega, GhostV.take 2 ⟨i + 1, _, _, ks, rfl, by omega, by simp [e2], by simp [setSame hk]; exact ⟨rfl, rfl⟩, by rw [hsn]; exact keysOld hks hk, by rw [hsn, FOk.snoc]; exact ⟨hok, by omega, hall, fun a ha => .inl (by omega)⟩⟩⟩
            · simp [hk]
              exact ⟨f.list.length - (i + 1), by omega, GhostV.take 2 ⟨i + 1, _, _, ks ++ [f.list[i].number], rfl, by omega, by simp [e2], by simp [entN]; exact ⟨rfl, rfl⟩, by rw [hsn]; exact keysNew hks hk, by rw [hsn, FOk.snoc]; exact ⟨hok, by omega, hall, fun a ha => .inl (by omega)⟩⟩⟩
        · simp [hA, h0]
          by_cases hn : 0 < f.list[i].number
          · simp [hn, mfind_nat]
            by_cases hk : f.list[i].number ∈ ks
            · simp [hk]
              refine bad' _ (fun h => ?_)
              obtain ⟨x, hx, hx'⟩ := (hks _).1 hk
              have := h.2.2.2 x hx
              omega
            · simp [hk, mfind_nat, e2]
              exact ⟨f.list.length - (i + 1), by omega, GhostV.take 2 ⟨i + 1, _, _, ks ++ [f.list[i].number], rfl, by omega, by simp [e2], by simp [entN]; exact ⟨rfl, rfl⟩, by rw [hsn]; exact keysNew hks hk, by rw [hsn, FOk.snoc]; exact ⟨hok, by omega, hall, fun a ha => .inr fun e => hk ((hks _).2 ⟨a, ha, e⟩)⟩⟩⟩
          · simp [hn, mfind_nat, e2]
            by_cases hk : f.list[i].number ∈ ks
            · simp [hk]
              exact ⟨f.list.length - (i + 1), by omega, GhostV.take 2 ⟨i + 1, _, _, ks, rfl, by omega, by simp [e2], by simp [setSame hk]; exact ⟨rfl, rfl⟩, by rw [hsn]; exact keysOld hks hk, by rw [hsn, FOk.snoc]; exact ⟨hok, by omega, hall, fun a ha => .inl (by omega)⟩⟩⟩
            · simp [hk]
              exact ⟨f.list.length - (i + 1), by omega, GhostV.take 2 ⟨i + 1, _, _, ks ++ [f.list[i].number], rfl, by omega, by simp [e2], by simp [entN]; exact ⟨rfl, rfl⟩, by rw [hsn]; exact keysNew hks hk, by rw [hsn, FOk.snoc]; exact ⟨hok, by omega, hall, fun a ha => .inl (by omega)⟩⟩⟩
      · have e1 : IntKind.i64.wrap ((i : Int) - 1) = ((i - 1 : Nat) : Int) := by rw [wrap_i64 (by omega)]; omega
        have hi1 : i - 1 < f.list.length := by omega
        have hB' : f.list[i].id ≤ f.list[i - 1].id := by omega
        simp [hA, h0, e1, hi1, hB']
        refine bad' _ (fun h => ?_)
        have := h.2.2.1 f.list[i - 1] (List.mem_take_iff_getElem.2 ⟨i - 1, by omega, rfl⟩)
        omega
  · have : i = f.list.length := by omega
    subst this
    simp
    refine GhostV.refl ⟨rfl, true, rfl, by simp; exact ⟨by omega, by omega, by simpa using hok⟩⟩
end Go.Proofs.Ytmgkjbphlbpbfaa.AM
