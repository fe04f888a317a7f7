/- Redo: the plain law, and the statement, walked. -/
import Derived.Test.YtmbhgjekjpkigaaRC
namespace Go.Proofs.Ytmbhgjekjpkigaa.AM
open Go
set_option linter.unusedVariables false
set_option linter.unusedSimpArgs false
variable {P : Program}

structure PgsR (P : Program) : Prop extends RLawR P where

/-! ### pages -/
@[simp] abbrev vT (l : List UInt8) (t : SK × List (List V)) : V := .sl t.1 1 (l.map c8) t.2
@[simp] abbrev tPage (p : PageT) (t0 t1 t2 t3 : SK × List (List V)) : List V := [.int .i64 p.num, .int .u64 p.lsn, vT p.s0 t0, vT p.s1 t1, vT p.s2 t2, vT p.s3 t3]
@[simp] def cpAt (p : PageT) (t0 t1 t2 t3 : SK × List (List V)) (i : Nat) : List V :=
  [.int .i64 p.num, .int .u64 p.lsn, vT p.s0 (if 0 < i then (.unk, []) else t0), vT p.s1 (if 1 < i then (.unk, []) else t1), vT p.s2 (if 2 < i then (.unk, []) else t2), vT p.s3 (if 3 < i then (.unk, []) else t3)]
@[simp] def c53 (b : Bool) (l : List UInt8) : V := if b then .sl (if l = [] then .unk else .nn) 1 ((l.take 53).map c8) ((l.map c8).drop (min l.length 53)) else vB l
@[simp] def ctAt (p : PageT) (i : Nat) : List V := [.int .i64 p.num, .int .u64 p.lsn, c53 (decide (0 < i)) p.s0, c53 (decide (1 < i)) p.s1, c53 (decide (2 < i)) p.s2, c53 (decide (3 < i)) p.s3]
end Go.Proofs.Ytmbhgjekjpkigaa.AM

namespace Go.Proofs.Ytmbhgjekjpkigaa.AM
open Go
set_option linter.unusedVariables false
set_option linter.unusedSimpArgs false

def succU (n : Nat) : Nat := if n + 1 = 2 ^ 64 then 0 else n + 1

/-! ### which one comes first -/
theorem minO_foldl {x : OpenT} : ∀ {l : List OpenT} {m : OpenT}, (m = x ∨ x ∈ l) → (∀ y, (y = m ∨ y ∈ l) → y ≠ x → befO x y < 0 ∧ ¬ befO y x < 0) → l.foldl (fun m y => if befO y m < 0 then y else m) m = x
  | [], m, h, _ => by
    rcases h with h | h
    · simpa using h
    · cases h
  | y :: l, m, h, h1 => by
    rw [List.foldl_cons]
    by_cases hm : m = x
    · subst hm
      by_cases hy : y = m
      · subst hy
        rw [ite_self]
        exact minO_foldl (.inl rfl) (fun z hz => h1 z (by rcases hz with hz | hz; exact .inl hz; exact .inr (.tail _ hz)))
      · rw [if_neg (h1 y (.inr (.head _)) hy).2]
        exact minO_foldl (.inl rfl) (fun z hz => h1 z (by rcases hz with hz | hz; exact .inl hz; exact .inr (.tail _ hz)))
    · by_cases hy : y = x
      · subst hy
        rw [if_pos (h1 m (.inl rfl) hm).1]
        exact minO_foldl (.inl rfl) (fun z hz => h1 z (by rcases hz with hz | hz; exact .inr (hz ▸ .head _); exact .inr (.tail _ hz)))
      · have hx : x ∈ l := by
          rcases h with h | h
          · exact absurd h hm
          · rcases List.mem_cons.1 h with h | h
            · exact absurd h.symm hy
            · exact h
        refine minO_foldl (.inr hx) (fun z hz => h1 z ?_)
        rcases hz with hz | hz
        · split at hz
          · exact .inr (hz ▸ .head _)
          · exact .inl hz
        · exact .inr (.tail _ hz)
theorem minO_of {x : OpenT} {L : List OpenT} (hx : x ∈ L) (h1 : ∀ y ∈ L, y ≠ x → befO x y < 0 ∧ ¬ befO y x < 0) : minO L = x := by
  cases L with
  | nil => cases hx
  | cons a L =>
    refine minO_foldl ?_ (fun y hy => h1 y ?_)
    · rcases List.mem_cons.1 hx with h | h
      · exact .inl h.symm
      · exact .inr h
    · rcases hy with h | h
      · exact h ▸ .head _
      · exact .tail _ h
theorem befO_zn {x y : OpenT} (hx : x.next = 0) (hy : y.next ≠ 0) : befO x y < 0 ∧ ¬ befO y x < 0 := by
  have h : min y.next 1 = 1 := by omega
  unfold befO
  rw [if_pos (.inl hx), if_pos (.inr hx), hx, h]
  simp [orI, cmpN]
theorem befO_zz {x y : OpenT} (hx : x.next = 0) (hy : y.next = 0) (h : x.txn < y.txn) : befO x y < 0 ∧ ¬ befO y x < 0 := by
  unfold befO
  rw [if_pos (.inl hx), if_pos (.inr hx), hx, hy]
  have : ¬ y.txn < x.txn := by omega
  simp [orI, cmpN, h, this]
theorem befO_nn {x y : OpenT} (hx : x.next ≠ 0) (hy : y.next ≠ 0) (h : y.next < x.next) : befO x y < 0 ∧ ¬ befO y x < 0 := by
  unfold befO
  have : ¬ x.next < y.next := by omega
  rw [if_neg (by omega), if_neg (by omega)]
  simp [cmpN, h, this]
/-- The first of some transactions. -/
def Fst (ts : List Nat) (b : Nat → OpenT) (t : Nat) : Prop :=
  t ∈ ts ∧ (((b t).next = 0 ∧ ∀ u ∈ ts, (b u).next = 0 → t ≤ u) ∨ ((b t).next ≠ 0 ∧ ∀ u ∈ ts, (b u).next ≠ 0 ∧ (u ≠ t → (b u).next < (b t).next)))
theorem minO_fst {ts : List Nat} {b : Nat → OpenT} {t : Nat} (hb : ∀ u ∈ ts, (b u).txn = u) (h : Fst ts b t) : minO (ts.map b) = b t := by
  obtain ⟨ht, h⟩ := h
  refine minO_of (List.mem_map_of_mem ht) (fun y hy hne => ?_)
  obtain ⟨u, hu, rfl⟩ := List.mem_map.1 hy
  have hut : u ≠ t := fun e => hne (by rw [e])
  rcases h with ⟨h0, h1⟩ | ⟨h0, h1⟩
  · by_cases hz : (b u).next = 0
    · exact befO_zz h0 hz (by rw [hb t ht, hb u hu]; have := h1 u hu hz; omega)
    · exact befO_zn h0 hz
  · exact befO_nn h0 (h1 u hu).1 ((h1 u hu).2 hut)
theorem exists_max : ∀ (ts : List Nat) (f : Nat → Nat), ts ≠ [] → ∃ t ∈ ts, ∀ u ∈ ts, f u ≤ f t
  | [], _, h => absurd rfl h
  | [a], f, _ => ⟨a, .head _, fun u hu => by rw [List.mem_singleton.1 hu]; exact Nat.le_refl _⟩
  | a :: b :: l, f, _ => by
    obtain ⟨t, ht, h⟩ := exists_max (b :: l) f (by simp)
    by_cases e : f t ≤ f a
    · exact ⟨a, .head _, fun u hu => by
        rcases List.mem_cons.1 hu with rfl | hu
        · exact Nat.le_refl _
        · exact Nat.le_trans (h u hu) e⟩
    · exact ⟨t, .tail _ ht, fun u hu => by
        rcases List.mem_cons.1 hu with rfl | hu
        · omega
        · exact h u hu⟩
theorem exists_min : ∀ (ts : List Nat) (p : Nat → Prop) [DecidablePred p], (∃ t ∈ ts, p t) → ∃ t ∈ ts, p t ∧ ∀ u ∈ ts, p u → t ≤ u
  | [], _, _, h => by obtain ⟨t, h, _⟩ := h; cases h
  | a :: l, p, _, h => by
    by_cases hl : ∃ t ∈ l, p t
    · obtain ⟨t, h1, h2, h3⟩ := exists_min l p hl
      by_cases e : p a ∧ a ≤ t
      · exact ⟨a, .head _, e.1, fun u hu hp => by
          rcases List.mem_cons.1 hu with rfl | hu
          · exact Nat.le_refl _
          · have := h3 u hu hp; omega⟩
      · exact ⟨t, .tail _ h1, h2, fun u hu hp => by
          rcases List.mem_cons.1 hu with rfl | hu
          · by_cases q : u ≤ t
            · exact absurd ⟨hp, q⟩ e
            · omega
          · exact h3 u hu hp⟩
    · obtain ⟨t, ht, hp⟩ := h
      rcases List.mem_cons.1 ht with rfl | ht
      · exact ⟨t, .head _, hp, fun u hu hq => by
          rcases List.mem_cons.1 hu with rfl | hu
          · exact Nat.le_refl _
          · exact absurd ⟨u, hu, hq⟩ hl⟩
      · exact absurd ⟨t, ht, hp⟩ hl
theorem fst_exists {ts : List Nat} {b : Nat → OpenT} (hd : ∀ u ∈ ts, ∀ v ∈ ts, (b u).next ≠ 0 → (b u).next = (b v).next → u = v) (hne : ts ≠ []) : ∃ t, Fst ts b t := by
  by_cases hz : ∃ t ∈ ts, (b t).next = 0
  · obtain ⟨t, h1, h2, h3⟩ := exists_min ts (fun u => (b u).next = 0) hz
    exact ⟨t, h1, .inl ⟨h2, h3⟩⟩
  · obtain ⟨t, h1, h2⟩ := exists_max ts (fun u => (b u).next) hne
    have nz : ∀ u ∈ ts, (b u).next ≠ 0 := fun u hu e => hz ⟨u, hu, e⟩
    exact ⟨t, h1, .inr ⟨nz t h1, fun u hu => ⟨nz u hu, fun hut => by
      have := h2 u hu
      have h3 : (b u).next ≠ (b t).next := fun e => hut (hd u hu t h1 (nz u hu) e)
      omega⟩⟩⟩

/-! ### steps -/
def updB (b : Nat → OpenT) (t : Nat) (y : OpenT) (u : Nat) : OpenT := if u = t then y else b u
theorem idx_map {ts : List Nat} {b : Nat → OpenT} {t : Nat} (hb : ∀ u ∈ ts, (b u).txn = u) (hn : ts.Nodup) (ht : t ∈ ts) (y : OpenT) :
    (ts.map b).eraseIdx ((ts.map b).idxOf (b t)) = (ts.filter fun u => decide (u ≠ t)).map b ∧ (ts.map b).set ((ts.map b).idxOf (b t)) y = ts.map (updB b t y) ∧ (ts.map b).idxOf (b t) < (ts.map b).length ∧ (ts.map b)[(ts.map b).idxOf (b t)]? = some (b t) := by
  induction ts with
  | nil => cases ht
  | cons u ts ih =>
    rw [List.nodup_cons] at hn
    rw [List.map_cons, List.idxOf_cons]
    by_cases e : u = t
    · subst e
      have h1 : ∀ v ∈ ts, v ≠ u := fun v hv q => hn.1 (q ▸ hv)
      refine ⟨?_, ?_, ?_, ?_⟩
      · simp only [beq_self_eq_true, cond_true, List.eraseIdx_zero, List.tail_cons]
        rw [List.filter_cons, if_neg (by simp), List.filter_eq_self.2 (fun v hv => by simpa using h1 v hv)]
      · simp only [beq_self_eq_true, cond_true, List.set_cons_zero, List.map_cons]
        congr 1
        · simp [updB]
        · exact List.map_congr_left fun v hv => by simp [updB, h1 v hv]
      · simp
      · simp
    · have ht' : t ∈ ts := by
        rcases List.mem_cons.1 ht with h | h
        · exact absurd h.symm e
        · exact h
      have hne : (b u == b t) = false := by
        rw [beq_eq_false_iff_ne]
        intro q
        have := congrArg OpenT.txn q
        rw [hb u (.head _), hb t ht] at this
        exact e this
      obtain ⟨i1, i2, i3, i4⟩ := ih (fun v hv => hb v (.tail _ hv)) hn.2 ht'
      rw [hne]
      simp only [cond_false]
      refine ⟨?_, ?_, ?_, ?_⟩
      · rw [List.eraseIdx_cons_succ, i1, List.filter_cons, if_pos (by simpa using e)]; rfl
      · rw [List.set_cons_succ, i2, List.map_cons]
        congr 1
        simp [updB, e]
      · simpa using i3
      · simpa using i4
theorem undoS_at {l : List RecT} {ts : List Nat} {b : Nat → OpenT} {t nx : Nat} {o : List RecT} (hb : ∀ u ∈ ts, (b u).txn = u) (hn : ts.Nodup) (h : Fst ts b t) :
    undoS l ⟨nx, ts.map b, o⟩ = if (b t).next = 0 then emitU ⟨nx, ts.map b, o⟩ ((ts.filter fun u => decide (u ≠ t)).map b) (endRec ⟨nx, ts.map b, o⟩ (b t)) else match recAt l (b t).next with
      | none => .inr 220
      | some r => if r.txn ≠ t ∨ chgR r = false then .inr 220
        else if r.kind = 2 then .inl ⟨nx, ts.map (updB b t ⟨t, (b t).last, r.next⟩), o⟩
        else emitU ⟨nx, ts.map b, o⟩ (ts.map (updB b t ⟨t, nx, r.back⟩)) (undRec ⟨nx, ts.map b, o⟩ (b t) r) := by
  have e := minO_fst hb h
  unfold undoS
  simp only [e, hb t h.1]
  have hi := fun y => idx_map hb hn h.1 y
  rw [(hi (b t)).1]
  (simp only [fun y => (hi y).2.1]) <;> rfl

/-! ### that they end -/
def Lok (l : List RecT) : Prop := ∀ r ∈ l, recOk r = true
theorem Lok.lt {l : List RecT} (h : Lok l) {r : RecT} (hr : r ∈ l) : r.back < r.lsn ∧ r.next ≤ r.back := by
  have := h r hr
  simp only [recOk, decide_eq_true_eq] at this
  omega
theorem undoS_inl {l : List RecT} {s s' : US} (h : undoS l s = .inl s') :
    ((minO s.left).next = 0 ∧ s'.left = s.left.eraseIdx (s.left.idxOf (minO s.left)) ∧ s.next ≠ 0) ∨
    ((minO s.left).next ≠ 0 ∧ ∃ r y, recAt l (minO s.left).next = some r ∧ r.txn = (minO s.left).txn ∧ chgR r = true ∧ s'.left = s.left.set (s.left.idxOf (minO s.left)) y ∧ (y.next = r.next ∨ y.next = r.back) ∧ (s'.next = s.next ∨ s.next ≠ 0)) := by
  have emit : ∀ {L m}, emitU s L m = .inl s' → s'.left = L ∧ s.next ≠ 0 := by
    intro L m h
    unfold emitU at h
    split at h
    · cases h
    · rename_i hq
      simp only [Sum.inl.injEq] at h
      subst h
      exact ⟨rfl, fun q => hq (.inr q)⟩
  unfold undoS at h
  dsimp only at h
  split at h
  · rename_i h0
    exact .inl ⟨h0, emit h⟩
  · rename_i h0
    refine .inr ⟨h0, ?_⟩
    split at h
    · cases h
    · rename_i r hr
      split at h
      · cases h
      · rename_i hq
        have h1 : r.txn = (minO s.left).txn := Classical.byContradiction fun q => hq (.inl q)
        have h2 : chgR r = true := by
          cases e : chgR r
          · exact absurd (.inr e) hq
          · rfl
        split at h
        · simp only [Sum.inl.injEq] at h
          subst h
          exact ⟨r, _, hr, h1, h2, rfl, .inl rfl, .inl rfl⟩
        · exact ⟨r, _, hr, h1, h2, (emit h).1, .inr rfl, .inr (emit h).2⟩
theorem minO_in {L : List OpenT} (h : L ≠ []) : minO L ∈ L := by
  have key : ∀ (l : List OpenT) (m : OpenT), l.foldl (fun m y => if befO y m < 0 then y else m) m = m ∨ l.foldl (fun m y => if befO y m < 0 then y else m) m ∈ l := by
    intro l
    induction l with
    | nil => intro m; exact .inl rfl
    | cons y l ih =>
      intro m
      rw [List.foldl_cons]
      rcases ih (if befO y m < 0 then y else m) with h | h
      · rw [h]
        split
        · exact .inr (.head _)
        · exact .inl rfl
      · exact .inr (.tail _ h)
  cases L with
  | nil => exact absurd rfl h
  | cons a L =>
    rcases key L a with h | h
    · show (L.foldl _ a) ∈ _
      rw [h]; exact .head _
    · exact .tail _ h
theorem idx_min {L : List OpenT} (h : L ≠ []) : ∃ hi : L.idxOf (minO L) < L.length, L[L.idxOf (minO L)] = minO L :=
  ⟨List.idxOf_lt_length_iff.2 (minO_in h), List.getElem_idxOf _⟩
theorem undoS_mu {l : List RecT} (hl : Lok l) {s s' : US} (hne : s.left ≠ []) (h : undoS l s = .inl s') : muO s'.left < muO s.left := by
  obtain ⟨hi, he⟩ := idx_min hne
  rcases undoS_inl h with ⟨_, h1, _⟩ | ⟨h0, r, y, hr, _, _, h1, h2, _⟩
  · rw [h1]
    have := muO_erase hi
    omega
  · rw [h1]
    have := muO_set hi y
    rw [he] at this
    obtain ⟨q1, q2⟩ := recAt_mem hr
    have := hl.lt q1
    omega
inductive Ends (l : List RecT) : US → List RecT → Prop
  | done {s : US} (h : s.left = []) : Ends l s s.out
  | step {s s' : US} {o : List RecT} (h : s.left ≠ []) (h1 : undoS l s = .inl s') (h2 : Ends l s' o) : Ends l s o
theorem undoS_err {l : List RecT} {s : US} {e : Int} (h : undoS l s = .inr e) : e ≠ 0 := by
  have emit : ∀ {L m}, emitU s L m = .inr e → e ≠ 0 := by
    intro L m h
    unfold emitU at h
    split at h
    · simp only [Sum.inr.injEq] at h; subst h; decide
    · cases h
  unfold undoS at h
  dsimp only at h
  split at h
  · exact emit h
  · split at h
    · simp only [Sum.inr.injEq] at h; subst h; decide
    · split at h
      · simp only [Sum.inr.injEq] at h; subst h; decide
      · split at h
        · cases h
        · exact emit h
theorem ends_of {l : List RecT} (hl : Lok l) {o : List RecT} : ∀ (k : Nat) (s : US), muO s.left ≤ k → undoF l k s = (o, 0) → Ends l s o
  | 0, s, hk, h => by
    have : s.left = [] := Classical.byContradiction fun q => by have := muO_pos q; omega
    unfold undoF at h
    rw [if_pos this] at h
    obtain rfl : s.out = o := by simpa using h
    exact .done this
  | k + 1, s, hk, h => by
    unfold undoF at h
    split at h
    · rename_i hs
      obtain rfl : s.out = o := by simpa using h
      exact .done hs
    · rename_i hs
      split at h
      · rename_i e he
        have := undoS_err he
        simp only [Prod.mk.injEq] at h
        exact absurd h.2 this
      · rename_i s' he
        exact .step hs he (ends_of hl k s' (by have := undoS_mu hl hs he; omega) h)
def GoodL (l : List RecT) (L : List OpenT) : Prop := ∀ x ∈ L, x.next = 0 ∨ ∃ r, recAt l x.next = some r ∧ r.txn = x.txn ∧ chgR r = true
theorem Ends.good {l : List RecT} {s : US} {o : List RecT} (h : Ends l s o) : GoodL l s.left := by
  induction h with
  | done h => rw [h]; intro x hx; cases hx
  | @step s s' o h h1 h2 ih =>
    intro z hz
    obtain ⟨hi, he⟩ := idx_min h
    by_cases e : z = minO s.left
    · subst e
      rcases undoS_inl h1 with ⟨h0, _⟩ | ⟨h0, r, y, hr, ht, hc, _⟩
      · exact .inl h0
      · exact .inr ⟨r, hr, ht, hc⟩
    · refine ih z ?_
      obtain ⟨j, hj, rfl⟩ := List.getElem_of_mem hz
      have hji : j ≠ s.left.idxOf (minO s.left) := fun q => e (by subst q; exact he)
      rcases undoS_inl h1 with ⟨_, h3, _⟩ | ⟨_, r, y, _, _, _, h3, _⟩
      · rw [h3, List.mem_eraseIdx_iff_getElem?]
        exact ⟨j, hji, List.getElem?_eq_getElem hj⟩
      · rw [h3]
        refine List.mem_iff_getElem?.2 ⟨j, ?_⟩
        rw [List.getElem?_set_ne hji.symm, List.getElem?_eq_getElem hj]
theorem Ends.next {l : List RecT} {s : US} {o : List RecT} (h : Ends l s o) (hne : s.left ≠ []) : s.next ≠ 0 := by
  induction h with
  | done h => exact absurd h hne
  | @step s s' o h h1 h2 ih =>
    rcases undoS_inl h1 with ⟨_, _, h3⟩ | ⟨_, r, y, _, _, _, h3, _, h4⟩
    · exact h3
    · rcases h4 with h4 | h4
      · rw [← h4]
        refine ih ?_
        rw [h3]
        simpa using h
      · exact h4
end Go.Proofs.Ytmbhgjekjpkigaa.AM

namespace Go.Proofs.Ytmbhgjekjpkigaa.AM
open Go
set_option linter.unusedVariables false
set_option linter.unusedSimpArgs false

/-- One skip of a record that undid. -/
def Skip (l : List RecT) (x y : OpenT) : Prop := x.next ≠ 0 ∧ ∃ r, recAt l x.next = some r ∧ r.txn = x.txn ∧ r.kind = 2 ∧ y = ⟨x.txn, x.last, r.next⟩
inductive Skips (l : List RecT) (c : Nat) : OpenT → OpenT → Prop
  | refl (x : OpenT) : Skips l c x x
  | step {x y z : OpenT} (h : Skip l x y) (hc : c ≤ x.next) (h2 : Skips l c y z) : Skips l c x z
theorem Skips.snoc {l : List RecT} {c : Nat} {x y z : OpenT} (h : Skips l c x y) (h1 : Skip l y z) (hc : c ≤ y.next) : Skips l c x z := by
  induction h with
  | refl x => exact .step h1 hc (.refl _)
  | step h hc' _ ih => exact .step h hc' (ih h1 hc)
theorem Skips.mono {l : List RecT} {c c' : Nat} {x y : OpenT} (h : Skips l c x y) (hc : c' ≤ c) : Skips l c' x y := by
  induction h with
  | refl x => exact .refl _
  | step h hc' _ ih => exact .step h (by omega) ih
theorem Skip.lt {l : List RecT} (hl : Lok l) {x y : OpenT} (h : Skip l x y) : y.next < x.next ∧ y.txn = x.txn ∧ y.last = x.last := by
  obtain ⟨h0, r, hr, ht, hk, rfl⟩ := h
  obtain ⟨q1, q2⟩ := recAt_mem hr
  have := hl.lt q1
  exact ⟨by show r.next < x.next; omega, rfl, rfl⟩
theorem Skips.le {l : List RecT} (hl : Lok l) {c : Nat} {x y : OpenT} (h : Skips l c x y) : y.next ≤ x.next ∧ y.txn = x.txn ∧ y.last = x.last := by
  induction h with
  | refl x => exact ⟨Nat.le_refl _, rfl, rfl⟩
  | step h hc' _ ih =>
    have := h.lt hl
    exact ⟨by omega, ih.2.1.trans this.2.1, ih.2.2.trans this.2.2⟩
theorem Skips.zero {l : List RecT} {c : Nat} {x y : OpenT} (h : Skips l c x y) (h0 : x.next = 0) : y = x := by
  cases h with
  | refl x => rfl
  | step h _ _ => exact absurd h0 h.1
theorem Skip.good {l : List RecT} {x y : OpenT} (h : Skip l x y) : ∃ r, recAt l x.next = some r ∧ r.txn = x.txn ∧ chgR r = true := by
  obtain ⟨h0, r, hr, ht, hk, rfl⟩ := h
  exact ⟨r, hr, ht, by simp [chgR, hk]⟩
theorem good_dist {l : List RecT} {ts : List Nat} {b : Nat → OpenT} (hb : ∀ u ∈ ts, (b u).txn = u) (hg : ∀ u ∈ ts, (b u).next = 0 ∨ ∃ r, recAt l (b u).next = some r ∧ r.txn = (b u).txn ∧ chgR r = true) :
    ∀ u ∈ ts, ∀ v ∈ ts, (b u).next ≠ 0 → (b u).next = (b v).next → u = v := by
  intro u hu v hv h0 he
  rcases hg u hu with h | ⟨r, hr, ht, _⟩
  · exact absurd h h0
  rcases hg v hv with h | ⟨r', hr', ht', _⟩
  · exact absurd (he.trans h) h0
  rw [he, hr'] at hr
  cases hr
  rw [hb u hu] at ht
  rw [hb v hv] at ht'
  exact ht.symm.trans ht'
theorem updB_self {b : Nat → OpenT} {t : Nat} {y : OpenT} : updB b t y t = y := by simp [updB]
theorem updB_ne {b : Nat → OpenT} {t u : Nat} {y : OpenT} (h : u ≠ t) : updB b t y u = b u := by simp [updB, h]
theorem emitU_ok {s s' : US} {L : List OpenT} {m : RecT} (h : emitU s L m = .inl s') : s.out.length ≠ 64 ∧ s.next ≠ 0 ∧ s' = ⟨succU s.next, L, s.out ++ [m]⟩ := by
  unfold emitU at h
  split at h
  · cases h
  · rename_i hq
    simp only [Sum.inl.injEq] at h
    exact ⟨fun q => hq (.inl q), fun q => hq (.inr q), h.symm⟩
end Go.Proofs.Ytmbhgjekjpkigaa.AM

namespace Go.Proofs.Ytmbhgjekjpkigaa.AM
open Go
set_option linter.unusedVariables false
set_option linter.unusedSimpArgs false

def openT (L : List RecT) : List Nat := (txnsL L).filter fun t => !overT L t
theorem openT_rise (L : List RecT) : (openT L).Pairwise (· < ·) := (txnsL_rise L).filter _
theorem openT_nodup (L : List RecT) : (openT L).Nodup := (openT_rise L).imp (fun h => Nat.ne_of_lt h)
theorem openOf_add (L : List RecT) (m : RecT) (t : Nat) : openOf (L ++ [m]) t = if m.txn = t then ⟨t, m.lsn, nextOf m⟩ else openOf L t := by
  unfold openOf; rw [List.foldl_append]; rfl
theorem overT_add (L : List RecT) (m : RecT) (t : Nat) : overT (L ++ [m]) t = (overT L t || decide (m.txn = t) && !chgR m) := by
  unfold overT; rw [List.any_append]; simp
theorem lastLsn_add (L : List RecT) (m : RecT) : lastLsn (L ++ [m]) = m.lsn := by simp [lastLsn]
theorem openOf_inv (t : Nat) (Q : OpenT → Prop) : ∀ (L : List RecT) (a : OpenT), Q a → (∀ r ∈ L, r.txn = t → Q ⟨t, r.lsn, nextOf r⟩) → Q (L.foldl (fun a r => if r.txn = t then ⟨t, r.lsn, nextOf r⟩ else a) a)
  | [], a, h, _ => h
  | r :: L, a, h, hq => by
    rw [List.foldl_cons]
    refine openOf_inv t Q L _ ?_ (fun q hq' => hq q (.tail _ hq'))
    split
    · rename_i e; exact hq r (.head _) e
    · exact h
theorem openOf_le {L : List RecT} (hl : Lok L) (t : Nat) : (openOf L t).next ≤ (openOf L t).last := by
  refine openOf_inv t (fun x => x.next ≤ x.last) L ⟨t, 0, 0⟩ (Nat.le_refl _) (fun r hr _ => ?_)
  have := hl.lt hr
  show nextOf r ≤ r.lsn
  unfold nextOf
  split <;> omega
theorem openOf_last (L : List RecT) (t : Nat) : (openOf L t).last = lastOf L t := by
  unfold openOf lastOf
  have key : ∀ (L : List RecT) (a : OpenT) (n : Nat), a.last = n → (L.foldl (fun a r => if r.txn = t then (⟨t, r.lsn, nextOf r⟩ : OpenT) else a) a).last = L.foldl (fun a r => if r.txn = t then r.lsn else a) n := by
    intro L
    induction L with
    | nil => intro a n h; exact h
    | cons r L ih =>
      intro a n h
      rw [List.foldl_cons, List.foldl_cons]
      refine ih _ _ ?_
      split
      · rfl
      · exact h
  exact key L _ _ rfl
theorem mem_openT {L : List RecT} {t : Nat} : t ∈ openT L ↔ (∃ r ∈ L, r.txn = t) ∧ overT L t = false := by
  unfold openT
  rw [List.mem_filter, mem_txnsL]
  simp
theorem txnsL_add {L : List RecT} {m : RecT} (h : ∃ r ∈ L, r.txn = m.txn) : txnsL (L ++ [m]) = txnsL L := by
  refine rise_ext (txnsL_rise _) (txnsL_rise _) (fun x => ?_)
  rw [mem_txnsL, mem_txnsL]
  constructor
  · rintro ⟨r, hr, rfl⟩
    rcases List.mem_append.1 hr with h1 | h1
    · exact ⟨r, h1, rfl⟩
    · obtain rfl := List.mem_singleton.1 h1
      exact h
  · rintro ⟨r, hr, rfl⟩
    exact ⟨r, List.mem_append.2 (.inl hr), rfl⟩
theorem openT_chg {L : List RecT} {m : RecT} (h : m.txn ∈ openT L) (hc : chgR m = true) : openT (L ++ [m]) = openT L := by
  unfold openT
  rw [txnsL_add (mem_openT.1 h).1]
  congr 1
  funext t
  rw [overT_add, hc]; simp
theorem openT_end {L : List RecT} {m : RecT} (h : m.txn ∈ openT L) (hc : chgR m = false) : openT (L ++ [m]) = (openT L).filter fun u => decide (u ≠ m.txn) := by
  unfold openT
  rw [txnsL_add (mem_openT.1 h).1, List.filter_filter]
  congr 1
  funext t
  rw [overT_add, hc]
  by_cases e : m.txn = t
  · subst e; simp
  · have : ¬ t = m.txn := fun q => e q.symm
    simp [e, this]

/-! ### rows in order -/
theorem rowOk_Lok {L : List RecT} (h : rowOk L = true) : Lok L := by
  intro r hr
  obtain ⟨i, hi, rfl⟩ := List.getElem_of_mem hr
  have := rowOk_iff.1 h i hi
  rw [okAt_eq hi] at this
  simp only [okB, Bool.and_eq_true] at this
  exact this.1.1
theorem rowOk_lsn {L : List RecT} (h : rowOk L = true) : ∀ (i : Nat) (hi : i < L.length), L[i].lsn = L[0].lsn + i
  | 0, hi => rfl
  | i + 1, hi => by
    have h1 := rowOk_iff.1 h (i + 1) hi
    rw [okAt_eq hi] at h1
    simp only [okB, Bool.and_eq_true] at h1
    have h2 := h1.1.2
    simp [List.getElem?_eq_getElem (show i < L.length by omega)] at h2
    rw [h2, rowOk_lsn h i (by omega)]; omega
theorem rowOk_last {L : List RecT} (h : rowOk L = true) {r : RecT} (hr : r ∈ L) : r.lsn ≤ lastLsn L := by
  obtain ⟨i, hi, rfl⟩ := List.getElem_of_mem hr
  rw [lastLsn_get (by omega), rowOk_lsn h i hi, rowOk_lsn h (L.length - 1) (by omega)]
  omega
theorem lastOf_mem {t : Nat} : ∀ (L : List RecT) (n : Nat), ((∃ r ∈ L, r.txn = t) → ∃ r ∈ L, r.txn = t ∧ r.lsn = L.foldl (fun a r => if r.txn = t then r.lsn else a) n) ∧ ((∀ r ∈ L, r.txn ≠ t) → L.foldl (fun a r => if r.txn = t then r.lsn else a) n = n)
  | [], n => ⟨(fun ⟨r, hr, _⟩ => by cases hr), fun _ => rfl⟩
  | q :: L, n => by
    rw [List.foldl_cons]
    obtain ⟨i1, i2⟩ := lastOf_mem (t := t) L (if q.txn = t then q.lsn else n)
    refine ⟨fun ⟨r, hr, ht⟩ => ?_, fun h => ?_⟩
    · by_cases hL : ∃ r ∈ L, r.txn = t
      · obtain ⟨r', a1, a2, a3⟩ := i1 hL
        exact ⟨r', .tail _ a1, a2, a3⟩
      · have hL' : ∀ r ∈ L, r.txn ≠ t := fun r hr e => hL ⟨r, hr, e⟩
        rw [i2 hL']
        rcases List.mem_cons.1 hr with h | h
        · subst h
          exact ⟨r, .head _, ht, by rw [if_pos ht]⟩
        · exact absurd ht (hL' r h)
    · rw [i2 (fun r hr => h r (.tail _ hr)), if_neg (h q (.head _))]
theorem lastOf_in {L : List RecT} {t : Nat} (h : ∃ r ∈ L, r.txn = t) : ∃ r ∈ L, r.txn = t ∧ r.lsn = lastOf L t := (lastOf_mem L 0).1 h
theorem rowOk_snoc {L : List RecT} {m : RecT} (h : rowOk L = true) (hne : L ≠ []) (hm : recOk m = true) (h1 : m.lsn = lastLsn L + 1) (h2 : lastOf L m.txn = m.back) : rowOk (L ++ [m]) = true := by
  rw [rowOk_iff]
  intro i hi
  have hp : 0 < L.length := List.length_pos_iff.2 hne
  have hh : headLsn (L ++ [m]) = headLsn L := by
    cases L with
    | nil => exact absurd rfl hne
    | cons a L => rfl
  rw [okAt_eq hi]
  by_cases e : i < L.length
  · have := rowOk_iff.1 h i e
    rw [okAt_eq e] at this
    unfold okB at this ⊢
    rw [List.getElem_append_left e, hh, List.take_append_of_le_length (by omega)]
    by_cases h0 : i = 0
    · subst h0; exact this
    · rw [List.getElem?_append_left (by omega)]; exact this
  · have hi' : i = L.length := by simp at hi; omega
    subst hi'
    unfold okB
    rw [List.getElem_append_right (Nat.le_refl _)]
    simp only [Nat.sub_self, List.getElem_cons_zero, hm, Bool.true_and]
    rw [List.take_append_of_le_length (Nat.le_refl _), List.take_length, h2, List.getElem?_append_left (by omega), List.getElem?_eq_getElem (by omega)]
    rw [lastLsn_get hp] at h1
    simp [h1]
end Go.Proofs.Ytmbhgjekjpkigaa.AM

namespace Go.Proofs.Ytmbhgjekjpkigaa.AM
open Go
set_option linter.unusedVariables false
set_option linter.unusedSimpArgs false

structure UInv (l : List RecT) (s : US) (b : Nat → OpenT) (c : Nat) : Prop where
  left : s.left = (openT (l ++ s.out)).map b
  txn : ∀ u ∈ openT (l ++ s.out), (b u).txn = u
  lt : ∀ u ∈ openT (l ++ s.out), (b u).next < c
  sk : ∀ u ∈ openT (l ++ s.out), Skips l c (openOf (l ++ s.out) u) (b u)
  row : rowOk (l ++ s.out) = true
  nx : s.next = succU (lastLsn (l ++ s.out))
  lsn : ∀ m ∈ s.out, lastLsn l < m.lsn
  up : lastLsn l ≤ lastLsn (l ++ s.out)
  w : lastLsn (l ++ s.out) < 2 ^ 64
  len : s.out.length ≤ 64
  pg : ∀ m ∈ s.out, chgR m = true → m.page ∈ chgPages l
  tx : ∀ m ∈ s.out, ∃ r ∈ l, r.txn = m.txn
def ZCut (l : List RecT) (s : US) (b : Nat → OpenT) : Prop := ∀ u ∈ openT (l ++ s.out), (b u).next = 0 → openOf (l ++ s.out) u = b u
def ZMid (l : List RecT) (s : US) (b : Nat → OpenT) : Prop := ZCut l s b ∨ ∃ i ∈ openT (l ++ s.out), (b i).next = 0 ∧ ∀ u ∈ openT (l ++ s.out), u ≠ i → (b u).next ≠ 0
theorem UInv.tx' {l : List RecT} {s : US} {b : Nat → OpenT} {c t : Nat} (h : UInv l s b c) (ht : t ∈ openT (l ++ s.out)) : ∃ r ∈ l, r.txn = t := by
  obtain ⟨⟨r, hr, rfl⟩, _⟩ := mem_openT.1 ht
  rcases List.mem_append.1 hr with h1 | h1
  · exact ⟨r, h1, rfl⟩
  · exact h.tx r h1
theorem succU_ne {n : Nat} (h : succU n ≠ 0) : succU n = n + 1 := by
  unfold succU at h ⊢
  split
  · rename_i e; rw [if_pos e] at h; exact absurd rfl h
  · rfl
theorem succU_lt {n : Nat} (h : n < 2 ^ 64) : succU n < 2 ^ 64 := by
  unfold succU
  split <;> omega
/-- What an emission needs. -/
theorem UInv.base {l : List RecT} {s : US} {b : Nat → OpenT} {c t : Nat} (h : UInv l s b c) (hl : Lok l) (ht : t ∈ openT (l ++ s.out)) (h0 : s.next ≠ 0) :
    l ++ s.out ≠ [] ∧ s.next = lastLsn (l ++ s.out) + 1 ∧ 0 < t ∧ (b t).last = lastOf (l ++ s.out) t ∧ (b t).last ≤ lastLsn (l ++ s.out) ∧ (b t).next ≤ (b t).last := by
  obtain ⟨⟨r, hr, hrt⟩, _⟩ := mem_openT.1 ht
  have hsk := (h.sk t ht).le hl
  have hok := rowOk_Lok h.row
  have hop := openOf_le hok t
  rw [openOf_last] at hsk hop
  obtain ⟨q, hq, hqt, hql⟩ := lastOf_in ⟨r, hr, hrt⟩
  have h1 := rowOk_last h.row hq
  have h2 := hok r hr
  simp only [recOk, decide_eq_true_eq] at h2
  refine ⟨(fun e => by rw [e] at hr; cases hr), ?_, by omega, hsk.2.2, by omega, by omega⟩
  have := h.nx
  rw [this] at h0
  rw [this, succU_ne h0]
theorem UInv.fin {l : List RecT} {s : US} {b : Nat → OpenT} {c t : Nat} (h : UInv l s b c) (hl : Lok l) (hf : Fst (openT (l ++ s.out)) b t) (hb0 : (b t).next = 0) (hz : ZMid l s b) (h0 : s.next ≠ 0) (h64 : s.out.length ≠ 64) :
    UInv l ⟨succU s.next, ((openT (l ++ s.out)).filter fun u => decide (u ≠ t)).map b, s.out ++ [endRec s (b t)]⟩ b c ∧ ZCut l ⟨succU s.next, ((openT (l ++ s.out)).filter fun u => decide (u ≠ t)).map b, s.out ++ [endRec s (b t)]⟩ b := by
  obtain ⟨e1, e2, e3, e4, e5, e6⟩ := h.base hl hf.1 h0
  have hbt := h.txn t hf.1
  have hmt : (endRec s (b t)).txn = t := hbt
  have hrow : rowOk (l ++ (s.out ++ [endRec s (b t)])) = true := by
    rw [← List.append_assoc]
    refine rowOk_snoc h.row e1 ?_ e2 ?_
    · simp only [recOk, decide_eq_true_eq, endRec, hbt]
      simp
      omega
    · rw [hmt, ← e4]; rfl
  have hT : openT (l ++ (s.out ++ [endRec s (b t)])) = (openT (l ++ s.out)).filter fun u => decide (u ≠ t) := by
    rw [← List.append_assoc, openT_end (by rw [hmt]; exact hf.1) (by simp [endRec, chgR]), hmt]
  have hO : ∀ u ∈ openT (l ++ (s.out ++ [endRec s (b t)])), u ∈ openT (l ++ s.out) ∧ u ≠ t ∧ openOf (l ++ (s.out ++ [endRec s (b t)])) u = openOf (l ++ s.out) u := by
    intro u hu
    rw [hT] at hu
    obtain ⟨h1, h2⟩ := List.mem_filter.1 hu
    have h2 : u ≠ t := by simpa using h2
    exact ⟨h1, h2, by rw [← List.append_assoc, openOf_add, if_neg (by rw [hmt]; exact fun q => h2 q.symm)]⟩
  have hlast : lastLsn (l ++ (s.out ++ [endRec s (b t)])) = s.next := by rw [← List.append_assoc, lastLsn_add]; rfl
  refine ⟨⟨by rw [hT], fun u hu => h.txn u (hO u hu).1, fun u hu => h.lt u (hO u hu).1, fun u hu => by rw [(hO u hu).2.2]; exact h.sk u (hO u hu).1, hrow, by rw [hlast], ?_, ?_, by rw [hlast, h.nx]; exact succU_lt h.w, ?_, ?_, ?_⟩, ?_⟩
  · intro m hm
    rcases List.mem_append.1 hm with h1 | h1
    · exact h.lsn m h1
    · obtain rfl := List.mem_singleton.1 h1
      have := h.up
      show lastLsn l < s.next
      omega
  · have := h.up
    rw [hlast]; omega
  · have := h.len
    simp only [List.length_append, List.length_singleton]; omega
  · intro m hm hc
    rcases List.mem_append.1 hm with h1 | h1
    · exact h.pg m h1 hc
    · obtain rfl := List.mem_singleton.1 h1
      simp [endRec, chgR] at hc
  · intro m hm
    rcases List.mem_append.1 hm with h1 | h1
    · exact h.tx m h1
    · obtain rfl := List.mem_singleton.1 h1
      rw [hmt]; exact h.tx' hf.1
  · intro u hu hq
    obtain ⟨a1, a2, a3⟩ := hO u hu
    rw [a3]
    rcases hz with hz | ⟨i, hi, hi0, hio⟩
    · exact hz u a1 hq
    · have : i = t := Classical.byContradiction fun q => hio t hf.1 (fun w => q w.symm) hb0
      subst this
      exact absurd hq (hio u a1 a2)
theorem UInv.und {l : List RecT} {s : US} {b : Nat → OpenT} {c t : Nat} {r : RecT} (h : UInv l s b c) (hl : Lok l) (hf : Fst (openT (l ++ s.out)) b t) (hb0 : (b t).next ≠ 0) (hr : recAt l (b t).next = some r) (hrt : r.txn = t) (hrc : chgR r = true) (h0 : s.next ≠ 0) (h64 : s.out.length ≠ 64) :
    UInv l ⟨succU s.next, (openT (l ++ s.out)).map (updB b t ⟨t, s.next, r.back⟩), s.out ++ [undRec s (b t) r]⟩ (updB b t ⟨t, s.next, r.back⟩) c ∧ ZCut l ⟨succU s.next, (openT (l ++ s.out)).map (updB b t ⟨t, s.next, r.back⟩), s.out ++ [undRec s (b t) r]⟩ (updB b t ⟨t, s.next, r.back⟩) := by
  obtain ⟨e1, e2, e3, e4, e5, e6⟩ := h.base hl hf.1 h0
  have hbt := h.txn t hf.1
  have hmt : (undRec s (b t) r).txn = t := hbt
  obtain ⟨hrl, hrn⟩ := recAt_mem hr
  have hrk := hl r hrl
  have hlt := hl.lt hrl
  have hmc : chgR (undRec s (b t) r) = true := by simp [undRec, chgR]
  have hrow : rowOk (l ++ (s.out ++ [undRec s (b t) r])) = true := by
    rw [← List.append_assoc]
    refine rowOk_snoc h.row e1 ?_ e2 ?_
    · simp only [recOk, decide_eq_true_eq] at hrk
      simp only [recOk, decide_eq_true_eq, undRec, hbt]
      simp
      omega
    · rw [hmt, ← e4]; rfl
  have hT : openT (l ++ (s.out ++ [undRec s (b t) r])) = openT (l ++ s.out) := by
    rw [← List.append_assoc, openT_chg (by rw [hmt]; exact hf.1) hmc]
  have hO : ∀ u, openOf (l ++ (s.out ++ [undRec s (b t) r])) u = updB (openOf (l ++ s.out)) t ⟨t, s.next, r.back⟩ u := by
    intro u
    rw [← List.append_assoc, openOf_add, hmt]
    by_cases e : t = u
    · subst e; rw [if_pos rfl, updB_self]; rfl
    · rw [if_neg e, updB_ne (fun q => e q.symm)]
  have hlast : lastLsn (l ++ (s.out ++ [undRec s (b t) r])) = s.next := by rw [← List.append_assoc, lastLsn_add]; rfl
  have hct := h.lt t hf.1
  refine ⟨⟨by rw [hT], fun u hu => ?_, fun u hu => ?_, fun u hu => ?_, hrow, by rw [hlast], ?_, ?_, by rw [hlast, h.nx]; exact succU_lt h.w, ?_, ?_, ?_⟩, ?_⟩
  · rw [hT] at hu
    by_cases e : u = t
    · subst e; rw [updB_self]
    · rw [updB_ne e]; exact h.txn u hu
  · rw [hT] at hu
    by_cases e : u = t
    · subst e; rw [updB_self]; show r.back < c; omega
    · rw [updB_ne e]; exact h.lt u hu
  · rw [hT] at hu
    rw [hO]
    by_cases e : u = t
    · subst e; rw [updB_self, updB_self]; exact .refl _
    · rw [updB_ne e, updB_ne e]; exact h.sk u hu
  · intro m hm
    rcases List.mem_append.1 hm with h1 | h1
    · exact h.lsn m h1
    · obtain rfl := List.mem_singleton.1 h1
      have := h.up
      show lastLsn l < s.next
      omega
  · have := h.up
    rw [hlast]; omega
  · have := h.len
    simp only [List.length_append, List.length_singleton]; omega
  · intro m hm hc
    rcases List.mem_append.1 hm with h1 | h1
    · exact h.pg m h1 hc
    · obtain rfl := List.mem_singleton.1 h1
      exact List.mem_map.2 ⟨r, List.mem_filter.2 ⟨hrl, hrc⟩, rfl⟩
  · intro m hm
    rcases List.mem_append.1 hm with h1 | h1
    · exact h.tx m h1
    · obtain rfl := List.mem_singleton.1 h1
      rw [hmt]; exact h.tx' hf.1
  · intro u hu hq
    rw [hT] at hu
    rw [hO]
    by_cases e : u = t
    · subst e; rw [updB_self, updB_self]
    · rw [updB_ne e] at hq
      rcases hf.2 with ⟨q, _⟩ | ⟨_, q⟩
      · exact absurd q hb0
      · exact absurd hq (q u hu).1
theorem UInv.skip {l : List RecT} {s : US} {b : Nat → OpenT} {c t : Nat} {r : RecT} (h : UInv l s b c) (hl : Lok l) (hf : Fst (openT (l ++ s.out)) b t) (hb0 : (b t).next ≠ 0) (hr : recAt l (b t).next = some r) (hrt : r.txn = t) (hk : r.kind = 2) :
    UInv l ⟨s.next, (openT (l ++ s.out)).map (updB b t ⟨t, (b t).last, r.next⟩), s.out⟩ (updB b t ⟨t, (b t).last, r.next⟩) (b t).next ∧ ZMid l ⟨s.next, (openT (l ++ s.out)).map (updB b t ⟨t, (b t).last, r.next⟩), s.out⟩ (updB b t ⟨t, (b t).last, r.next⟩) := by
  have hbt := h.txn t hf.1
  obtain ⟨hrl, hrn⟩ := recAt_mem hr
  have hlt := hl.lt hrl
  have hct := h.lt t hf.1
  have hmax : ∀ u ∈ openT (l ++ s.out), (b u).next ≠ 0 ∧ (u ≠ t → (b u).next < (b t).next) := by
    rcases hf.2 with ⟨q, _⟩ | ⟨_, q⟩
    · exact absurd q hb0
    · exact q
  refine ⟨⟨rfl, fun u hu => ?_, fun u hu => ?_, fun u hu => ?_, h.row, h.nx, h.lsn, h.up, h.w, h.len, h.pg, h.tx⟩, ?_⟩
  · by_cases e : u = t
    · subst e; rw [updB_self]
    · rw [updB_ne e]; exact h.txn u hu
  · by_cases e : u = t
    · subst e; rw [updB_self]; show r.next < _; omega
    · rw [updB_ne e]; exact (hmax u hu).2 e
  · by_cases e : u = t
    · subst e
      rw [updB_self]
      refine ((h.sk u hu).mono (by omega)).snoc ⟨hb0, r, hr, by rw [hrt, hbt], hk, by rw [hbt]⟩ (Nat.le_refl _)
    · rw [updB_ne e]; exact (h.sk u hu).mono (by omega)
  · by_cases h0 : r.next = 0
    · refine .inr ⟨t, hf.1, by rw [updB_self]; exact h0, fun u hu e => ?_⟩
      rw [updB_ne e]; exact (hmax u hu).1
    · refine .inl fun u hu hq => ?_
      by_cases e : u = t
      · subst e; rw [updB_self] at hq; exact absurd hq h0
      · rw [updB_ne e] at hq; exact absurd hq (hmax u hu).1

end Go.Proofs.Ytmbhgjekjpkigaa.AM

namespace Go.Proofs.Ytmbhgjekjpkigaa.AM
open Go
set_option linter.unusedVariables false
set_option linter.unusedSimpArgs false

theorem againP_app (ps : List PageT) (l o : List RecT) : againP ps (l ++ o) = againP (againP ps l) o := by unfold againP; rw [List.foldl_append]
theorem rowErr_zero {l : List RecT} : rowErr l = 0 ↔ l.length ≤ 64 ∧ rowOk l = true := by
  unfold rowErr
  split
  · constructor
    · intro h; cases h
    · intro h; omega
  · split
    · rename_i h1 h2; simp [h2]; omega
    · rename_i h1 h2; simp [h2]
theorem Ends.nil {l : List RecT} {nx : Nat} {o res : List RecT} (h : Ends l ⟨nx, [], o⟩ res) : res = o := by
  cases h with
  | done h => rfl
  | step h _ _ => exact absurd rfl h
end Go.Proofs.Ytmbhgjekjpkigaa.AM

namespace Go.Proofs.Ytmbhgjekjpkigaa.AM
open Go
set_option linter.unusedVariables false
set_option linter.unusedSimpArgs false
variable {P : Program}

structure CutR (P : Program) : Prop extends PgsR P where

theorem add1_succU {n : Nat} (h : n < 2 ^ 64) : IntKind.u64.wrap ((n : Int) + 1) = ((succU n : Nat) : Int) := by
  rw [u64add1 h]
  unfold succU
  split <;> simp
end Go.Proofs.Ytmbhgjekjpkigaa.AM

namespace Go.Proofs.Ytmbhgjekjpkigaa.AM
open Go
set_option linter.unusedVariables false
set_option linter.unusedSimpArgs false
variable {P : Program}

end Go.Proofs.Ytmbhgjekjpkigaa.AM

namespace Go.Proofs.Ytmbhgjekjpkigaa.AM
open Go
set_option linter.unusedVariables false
set_option linter.unusedSimpArgs false
variable {P : Program}

/-! ### plain -/
def step1 (p : PageT) (r : RecT) : PageT := if chgR r = true ∧ p.num = r.page ∧ p.lsn < r.lsn then setP p r else p
def again1 (p : PageT) (l : List RecT) : PageT := l.foldl step1 p
theorem redo1_map (ps : List PageT) (r : RecT) : redo1 ps r = ps.map fun p => step1 p r := by
  unfold redo1 step1
  cases chgR r
  · simp
  · simp
theorem againP_map (ps : List PageT) (l : List RecT) : againP ps l = ps.map fun p => again1 p l := by
  unfold againP again1
  induction l generalizing ps with
  | nil => simp
  | cons r l ih => rw [List.foldl_cons, ih, redo1_map, List.map_map]; rfl
theorem setP_nl (p : PageT) (r : RecT) : (setP p r).num = p.num ∧ (setP p r).lsn = r.lsn := ⟨setP_num p r, rfl⟩
theorem step1_num (p : PageT) (r : RecT) : (step1 p r).num = p.num := by
  unfold step1
  split
  · exact (setP_nl p r).1
  · rfl
theorem step1_lsn (p : PageT) (r : RecT) : p.lsn ≤ (step1 p r).lsn ∧ ((step1 p r).lsn = p.lsn ∨ (step1 p r).lsn = r.lsn) ∧ (chgR r = true → p.num = r.page → r.lsn ≤ (step1 p r).lsn) := by
  unfold step1
  split
  · rename_i h
    rw [(setP_nl p r).2]
    exact ⟨by omega, .inr rfl, fun _ _ => Nat.le_refl _⟩
  · rename_i h
    exact ⟨Nat.le_refl _, .inl rfl, fun h1 h2 => Classical.byContradiction fun q => h ⟨h1, h2, by omega⟩⟩
end Go.Proofs.Ytmbhgjekjpkigaa.AM

namespace Go.Proofs.Ytmbhgjekjpkigaa.AM
open Go
set_option linter.unusedVariables false
set_option linter.unusedSimpArgs false
variable {P : Program}

structure AgaR (P : Program) : Prop extends PgsR P where

end Go.Proofs.Ytmbhgjekjpkigaa.AM

namespace Go.Proofs.Ytmbhgjekjpkigaa.AM
open Go
set_option linter.unusedVariables false
set_option linter.unusedSimpArgs false

/-! ### the run of undoing, with more that stands at each step -/
theorem run_with {l : List RecT} (hl : rowOk l = true) (J : US → (Nat → OpenT) → Prop)
    (hf : ∀ s b c t, UInv l s b c → Fst (openT (l ++ s.out)) b t → (b t).next = 0 → s.next ≠ 0 → J s b → J ⟨succU s.next, ((openT (l ++ s.out)).filter fun u => decide (u ≠ t)).map b, s.out ++ [endRec s (b t)]⟩ b)
    (hu : ∀ s b c t r, UInv l s b c → Fst (openT (l ++ s.out)) b t → (b t).next ≠ 0 → recAt l (b t).next = some r → r.txn = t → chgR r = true → r.kind ≠ 2 → s.next ≠ 0 → J s b → J ⟨succU s.next, (openT (l ++ s.out)).map (updB b t ⟨t, s.next, r.back⟩), s.out ++ [undRec s (b t) r]⟩ (updB b t ⟨t, s.next, r.back⟩))
    (hk : ∀ s b c t r, UInv l s b c → Fst (openT (l ++ s.out)) b t → (b t).next ≠ 0 → recAt l (b t).next = some r → r.txn = t → r.kind = 2 → J s b → J ⟨s.next, (openT (l ++ s.out)).map (updB b t ⟨t, (b t).last, r.next⟩), s.out⟩ (updB b t ⟨t, (b t).last, r.next⟩))
    {made : List RecT} {s : US} (he : Ends l s made) : ∀ (b : Nat → OpenT) (c : Nat), UInv l s b c → ZMid l s b → J s b → ∃ s' b' c', s'.out = made ∧ s'.left = [] ∧ UInv l s' b' c' ∧ J s' b' := by
  induction he with
  | @done s h =>
    intro b c hi hz hj
    exact ⟨s, b, c, rfl, h, hi, hj⟩
  | @step s s' made h h1 h2 ih =>
    intro b c hi hz hj
    have hlk := rowOk_Lok hl
    have hts : openT (l ++ s.out) ≠ [] := fun q => h (by rw [hi.left, q]; rfl)
    have hgood := (Ends.step h h1 h2).good
    rw [hi.left] at hgood
    have hgb : ∀ u ∈ openT (l ++ s.out), (b u).next = 0 ∨ ∃ r, recAt l (b u).next = some r ∧ r.txn = (b u).txn ∧ chgR r = true := fun u hu => hgood (b u) (List.mem_map_of_mem hu)
    obtain ⟨t, hft⟩ := fst_exists (good_dist hi.txn hgb) hts
    have hst := undoS_at (l := l) (nx := s.next) (o := s.out) hi.txn (openT_nodup _) hft
    have hs : (⟨s.next, (openT (l ++ s.out)).map b, s.out⟩ : US) = s := by rw [← hi.left]
    rw [hs, h1] at hst
    by_cases h0 : (b t).next = 0
    · rw [if_pos h0] at hst
      obtain ⟨e1, e2, rfl⟩ := emitU_ok hst.symm
      obtain ⟨i1, i2⟩ := hi.fin hlk hft h0 hz e2 e1
      exact ih _ _ i1 (.inl i2) (hf s b c t hi hft h0 e2 hj)
    · rw [if_neg h0] at hst
      obtain hg | ⟨r, hr, hrt, hrc⟩ := hgb t hft.1
      · exact absurd hg h0
      rw [hi.txn t hft.1] at hrt
      rw [hr] at hst
      simp only at hst
      rw [if_neg (by rw [hrt, hrc]; simp)] at hst
      by_cases hk2 : r.kind = 2
      · rw [if_pos hk2] at hst
        simp only [Sum.inl.injEq] at hst
        subst hst
        obtain ⟨i1, i2⟩ := hi.skip hlk hft h0 hr hrt hk2
        exact ih _ _ i1 i2 (hk s b c t r hi hft h0 hr hrt hk2 hj)
      · rw [if_neg hk2] at hst
        obtain ⟨e1, e2, rfl⟩ := emitU_ok hst.symm
        obtain ⟨i1, i2⟩ := hi.und hlk hft h0 hr hrt hrc e2 e1
        exact ih _ _ i1 (.inl i2) (hu s b c t r hi hft h0 hr hrt hrc hk2 e2 hj)

/-! ### what a slot has -/
def hits (n k : Int) (r : RecT) : Bool := chgR r && decide (r.page = n) && decide (r.slot = k)
def slotC (n k : Int) (L : List RecT) : List UInt8 := L.foldl (fun a r => if hits n k r then r.new else a) []
theorem slotC_add (n k : Int) (L : List RecT) (m : RecT) : slotC n k (L ++ [m]) = if hits n k m then m.new else slotC n k L := by
  unfold slotC; rw [List.foldl_append]; rfl
theorem slotC_none {n k : Int} : ∀ (o : List RecT) (a : List UInt8), (∀ m ∈ o, hits n k m = false) → o.foldl (fun a r => if hits n k r then r.new else a) a = a
  | [], a, _ => rfl
  | m :: o, a, h => by
    rw [List.foldl_cons, h m (.head _)]
    exact slotC_none o a (fun q hq => h q (.tail _ hq))
theorem slotC_app {n k : Int} {L o : List RecT} (h : ∀ m ∈ o, hits n k m = false) : slotC n k (L ++ o) = slotC n k L := by
  unfold slotC; rw [List.foldl_append]; exact slotC_none o _ h
theorem setP_slot (p : PageT) (r : RecT) (k : Nat) (hk : k < 4) (hs : 0 ≤ r.slot ∧ r.slot < 4) : (setP p r).slot k = if r.slot = (k : Int) then r.new else p.slot k := by
  obtain ⟨h1, h2⟩ := hs
  unfold setP
  rcases (by omega : r.slot = 0 ∨ r.slot = 1 ∨ r.slot = 2 ∨ r.slot = 3) with e | e | e | e <;> rcases (by omega : k = 0 ∨ k = 1 ∨ k = 2 ∨ k = 3) with rfl | rfl | rfl | rfl <;> simp [e, PageT.slot, PageT.put]
/-- On a page that is older than all of them, rising records set what the last one of each slot says. -/
theorem again1_slot (k : Nat) (hk : k < 4) : ∀ (L : List RecT) (p : PageT), L.Pairwise (fun a b => a.lsn < b.lsn) → (∀ r ∈ L, p.lsn < r.lsn) → (∀ r ∈ L, chgR r = true → 0 ≤ r.slot ∧ r.slot < 4) →
    (again1 p L).slot k = L.foldl (fun a r => if hits p.num k r then r.new else a) (p.slot k)
  | [], p, _, _, _ => rfl
  | r :: L, p, hp, hl, hs => by
    show (again1 (step1 p r) L).slot k = _
    rw [List.pairwise_cons] at hp
    rw [List.foldl_cons]
    have h1 : ∀ q ∈ L, (step1 p r).lsn < q.lsn := by
      intro q hq
      have a := hl q (.tail _ hq)
      have b := hp.1 q hq
      rcases (step1_lsn p r).2.1 with e | e <;> omega
    rw [again1_slot k hk L (step1 p r) hp.2 h1 (fun q hq => hs q (.tail _ hq)), step1_num]
    congr 1
    unfold step1 hits
    have hlr := hl r (.head _)
    by_cases hc : chgR r = true
    · by_cases hn : p.num = r.page
      · rw [if_pos ⟨hc, hn, hlr⟩, setP_slot p r k hk (hs r (.head _) hc)]
        by_cases he : r.slot = (k : Int)
        · simp [hc, hn, he]
        · simp [hc, hn, he]
      · have hn' : ¬ r.page = p.num := fun e => hn e.symm
        rw [if_neg (fun q => hn q.2.1)]; simp [hn']
    · rw [if_neg (fun q => hc q.1)]; simp [hc]
theorem rowOk_pw {L : List RecT} (h : rowOk L = true) : L.Pairwise (fun a b => a.lsn < b.lsn) :=
  List.pairwise_iff_getElem.2 fun i j hi hj hij => by rw [rowOk_lsn h i hi, rowOk_lsn h j hj]; omega
end Go.Proofs.Ytmbhgjekjpkigaa.AM

namespace Go.Proofs.Ytmbhgjekjpkigaa.AM
open Go
set_option linter.unusedVariables false
set_option linter.unusedSimpArgs false

theorem uinv0 {l : List RecT} (hrow : rowOk l = true) (hw : lastLsn l < 2 ^ 64) : UInv l ⟨succU (lastLsn l), openL l, []⟩ (openOf l) (lastLsn l + 1) ∧ ZMid l ⟨succU (lastLsn l), openL l, []⟩ (openOf l) := by
  have hlk := rowOk_Lok hrow
  refine ⟨⟨by rw [List.append_nil]; rfl, fun u _ => openOf_txn l u, fun u hu => ?_, fun u _ => by rw [List.append_nil]; exact .refl _, by rw [List.append_nil]; exact hrow, by rw [List.append_nil], (fun m hm => by cases hm), by rw [List.append_nil]; exact Nat.le_refl _, by rw [List.append_nil]; exact hw, by simp, (fun m hm => by cases hm), (fun m hm => by cases hm)⟩, .inl fun u hu _ => by rw [List.append_nil]⟩
  rw [List.append_nil] at hu
  have h1 := openOf_le hlk u
  rw [openOf_last] at h1
  obtain ⟨r, hr1, hr2, hr3⟩ := lastOf_in (mem_openT.1 hu).1
  have := rowOk_last hrow hr1
  omega
theorem allP_ends {ps : List PageT} {l : List RecT} {next : Nat} {q : List PageT} {made : List RecT} (h : allP ps l next = (q, made, 0)) : checkR ps l = 0 ∧ Ends l ⟨next, openL l, []⟩ made ∧ q = againP ps (l ++ made) := by
  unfold allP at h
  split at h
  · rename_i hc; simp only [Prod.mk.injEq] at h; exact absurd h.2.2 hc
  rename_i hc
  have hc : checkR ps l = 0 := Classical.byContradiction hc
  obtain ⟨hr, htog⟩ := checkR_zero hc
  obtain ⟨hlen, hrow⟩ := rowErr_zero.1 hr
  refine ⟨hc, ?_⟩
  split at h
  · rename_i ho
    simp only [Prod.mk.injEq] at h
    obtain ⟨rfl, rfl, _⟩ := h
    exact ⟨.done ho, by rw [List.append_nil]⟩
  rename_i ho
  split at h
  · rename_i he; simp only [Prod.mk.injEq] at h; exact absurd h.2.2 he
  rename_i he
  have he : (undoP l (openL l) next).2 = 0 := Classical.byContradiction he
  simp only [Prod.mk.injEq] at h
  obtain ⟨hq, hmade, _⟩ := h
  have hun : undoP l (openL l) next = (made, 0) := by rw [← hmade, ← he]
  rw [hmade, ← againP_app] at hq
  refine ⟨?_, hq.symm⟩
  unfold undoP at hun
  rw [if_neg (by simpa using hr)] at hun
  split at hun
  · simp only [Prod.mk.injEq] at hun; exact absurd hun.2 (by decide)
  split at hun
  · simp only [Prod.mk.injEq] at hun; exact absurd hun.2 (by decide)
  exact ends_of (rowOk_Lok hrow) _ _ (Nat.le_refl _) hun

/-- What the law's own look at a log asks. -/
structure Plain (l : List RecT) : Prop where
  row : rowOk l = true
  one : ∀ i (hi : i < l.length), l[i].lsn = i + 1
  kind : ∀ r ∈ l, r.kind = 1 ∨ r.kind = 3
  back : ∀ i (hi : i < l.length), l[i].back = lastOf (l.take i) l[i].txn
  old : ∀ i (hi : i < l.length), l[i].kind = 1 → l[i].old = slotC l[i].page l[i].slot (l.take i)
theorem Plain.gap {l : List RecT} (h : Plain l) {t : Nat} : ∀ {i : Nat}, i ≤ l.length → ∀ j (hj : j < i) (hjl : j < l.length), l[j].txn = t → j + 1 ≤ lastOf (l.take i) t
  | 0, _, j, hj, _, _ => by omega
  | i + 1, hi, j, hj, hjl, ht => by
    rw [lastOf_snoc (by omega)]
    split
    · rw [h.one i (by omega)]; omega
    · rename_i hne
      have : j ≠ i := fun e => by subst e; exact hne ht
      exact h.gap (by omega) j (by omega) hjl ht
theorem Plain.hitgap {l : List RecT} (h : Plain l) {n k : Int} {t : Nat} (hone : ∀ r ∈ l, hits n k r = true → r.txn = t) {i : Nat} (hi : i ≤ l.length) : slotC n k (l.take i) = slotC n k (l.take (lastOf (l.take i) t)) := by
  have key : ∀ d a, a + d ≤ l.length → (∀ j (hjl : j < l.length), a ≤ j → j < a + d → hits n k l[j] = false) → slotC n k (l.take (a + d)) = slotC n k (l.take a) := by
    intro d
    induction d with
    | zero => intro a _ _; rfl
    | succ d ih =>
      intro a ha hh
      rw [← Nat.add_assoc, take_snoc (by omega), slotC_add, hh (a + d) (by omega) (by omega) (by omega)]
      exact ih a (by omega) (fun j hjl h1 h2 => hh j hjl h1 (by omega))
  have hle : lastOf (l.take i) t ≤ i := by
    by_cases he : ∃ r ∈ l.take i, r.txn = t
    · obtain ⟨r, hr, _, hrl⟩ := lastOf_in he
      rw [← hrl]
      obtain ⟨j, hj, rfl⟩ := List.getElem_of_mem hr
      simp only [List.length_take] at hj
      rw [List.getElem_take, h.one j (by omega)]
      omega
    · have : lastOf (l.take i) t = 0 := (lastOf_mem _ 0).2 (fun r hr q => he ⟨r, hr, q⟩)
      omega
  have := key (i - lastOf (l.take i) t) (lastOf (l.take i) t) (by omega) (fun j hjl h1 h2 => by
    cases hq : hits n k l[j]
    · rfl
    · have := h.gap hi j (by omega) hjl (hone _ (List.getElem_mem hjl) hq)
      omega)
  rw [show lastOf (l.take i) t + (i - lastOf (l.take i) t) = i by omega] at this
  exact this
theorem Plain.next {l : List RecT} (h : Plain l) (t : Nat) : (openOf l t).next = lastOf l t := by
  rw [← openOf_last]
  refine openOf_inv t (fun x => x.next = x.last) l ⟨t, 0, 0⟩ rfl (fun r hr _ => ?_)
  show nextOf r = r.lsn
  unfold nextOf
  rw [if_neg (by rcases h.kind r hr with e | e <;> omega)]
theorem Plain.over {l : List RecT} (h : Plain l) (t : Nat) : overT l t = comT l t := by
  unfold overT comT
  have key : ∀ L : List RecT, (∀ r ∈ L, r.kind = 1 ∨ r.kind = 3) → (L.any fun r => decide (r.txn = t) && !chgR r) = L.any fun r => decide (r.txn = t) && decide (r.kind = 3) := by
    intro L hL
    induction L with
    | nil => rfl
    | cons a L ih2 =>
      rw [List.any_cons, List.any_cons, ih2 (fun q hq => hL q (.tail _ hq))]
      congr 2
      rcases hL a (.head _) with e | e <;> simp [chgR, e]
  exact key l (fun r hr => h.kind r hr)
theorem hits_und {n k : Int} {s : US} {x : OpenT} {r : RecT} (hc : chgR r = true) : hits n k (undRec s x r) = hits n k r := by
  unfold hits
  rw [hc]
  simp [undRec, chgR] <;> rfl
theorem hits_end {n k : Int} {s : US} {x : OpenT} : hits n k (endRec s x) = false := by simp [hits, endRec, chgR]
theorem slot_last {l : List RecT} (h : Plain l) (hw : lastLsn l < 2 ^ 64) {n k : Int} {t : Nat} (hone : ∀ r ∈ l, hits n k r = true → r.txn = t) (hex : ∃ r ∈ l, r.txn = t) {made : List RecT} (he : Ends l ⟨succU (lastLsn l), openL l, []⟩ made) :
    rowOk (l ++ made) = true ∧ slotC n k (l ++ made) = if comT l t then slotC n k l else [] := by
  obtain ⟨u1, u2⟩ := uinv0 h.row hw
  have hno2 : ∀ {x : Nat} {r : RecT}, recAt l x = some r → r.kind ≠ 2 := fun hr => by rcases h.kind _ (recAt_mem hr).1 with e | e <;> omega
  by_cases hc : comT l t = true
  · -- committed: nobody undoes it
    rw [if_pos hc]
    obtain ⟨s', b', c', e1, e2, i', j'⟩ := run_with h.row (fun s _ => ∀ m ∈ s.out, hits n k m = false)
      (fun s b c t' _ _ _ _ hj m hm => by
        rcases List.mem_append.1 hm with h1 | h1
        · exact hj m h1
        · obtain rfl := List.mem_singleton.1 h1; exact hits_end)
      (fun s b c t' r hi hf _ hr hrt hrc _ _ hj m hm => by
        rcases List.mem_append.1 hm with h1 | h1
        · exact hj m h1
        · obtain rfl := List.mem_singleton.1 h1
          rw [hits_und hrc]
          cases hq : hits n k r
          · rfl
          · have ht := hone r (recAt_mem hr).1 hq
            have : t' = t := by rw [← hrt, ht]
            subst this
            have h2 := (mem_openT.1 hf.1).2
            rw [← h.over] at hc
            unfold overT at h2 hc
            rw [List.any_append, hc] at h2
            cases h2)
      (fun s b c t' r _ _ _ hr _ hk2 _ => absurd hk2 (hno2 hr)) he _ _ u1 u2 (fun m hm => by cases hm)
    have hrow := i'.row
    rw [e1] at hrow
    exact ⟨hrow, slotC_app (fun m hm => j' m (by rw [e1]; exact hm))⟩
  · rw [if_neg hc]
    have hop : t ∈ openT l := mem_openT.2 ⟨hex, by rw [h.over]; simpa using hc⟩
    obtain ⟨s', b', c', e1, e2, i', j'⟩ := run_with h.row (fun s b => (t ∈ openT (l ++ s.out) → slotC n k (l ++ s.out) = slotC n k (l.take (b t).next)) ∧ (t ∉ openT (l ++ s.out) → slotC n k (l ++ s.out) = []))
      (fun s b c t' hi hf h0 hnz hj => by
        have hmt : (endRec s (b t')).txn = t' := hi.txn t' hf.1
        have hT : openT (l ++ (s.out ++ [endRec s (b t')])) = (openT (l ++ s.out)).filter fun u => decide (u ≠ t') := by
          rw [← List.append_assoc, openT_end (by rw [hmt]; exact hf.1) (by simp [endRec, chgR]), hmt]
        have hS : slotC n k (l ++ (s.out ++ [endRec s (b t')])) = slotC n k (l ++ s.out) := by
          rw [← List.append_assoc, slotC_add, hits_end]; rfl
        refine ⟨fun hm => ?_, fun hm => ?_⟩
        · show slotC n k (l ++ (s.out ++ [endRec s (b t')])) = _
          rw [hS]
          rw [hT] at hm
          exact hj.1 (List.mem_filter.1 hm).1
        · show slotC n k (l ++ (s.out ++ [endRec s (b t')])) = _
          rw [hS]
          by_cases hin : t ∈ openT (l ++ s.out)
          · have : t = t' := Classical.byContradiction fun q => hm (by rw [hT]; exact List.mem_filter.2 ⟨hin, by simpa using q⟩)
            subst this
            rw [hj.1 hin, h0]; rfl
          · exact hj.2 hin)
      (fun s b c t' r hi hf h0 hr hrt hrc hk2 hnz hj => by
        have hmt : (undRec s (b t') r).txn = t' := hi.txn t' hf.1
        have hmc : chgR (undRec s (b t') r) = true := by simp [undRec, chgR]
        have hT : openT (l ++ (s.out ++ [undRec s (b t') r])) = openT (l ++ s.out) := by
          rw [← List.append_assoc, openT_chg (by rw [hmt]; exact hf.1) hmc]
        have hS : slotC n k (l ++ (s.out ++ [undRec s (b t') r])) = if hits n k r then r.old else slotC n k (l ++ s.out) := by
          rw [← List.append_assoc, slotC_add, hits_und hrc]; rfl
        obtain ⟨hrl, hrn⟩ := recAt_mem hr
        refine ⟨fun hm => ?_, fun hm => ?_⟩
        · show slotC n k (l ++ (s.out ++ [undRec s (b t') r])) = _
          rw [hT] at hm
          have hb := hj.1 hm
          rw [hS]
          by_cases e : t = t'
          · subst e
            rw [updB_self]
            show _ = slotC n k (l.take r.back)
            obtain ⟨i, hi', rfl⟩ := List.getElem_of_mem hrl
            have hx : (b t).next = i + 1 := by rw [← hrn, h.one i hi']
            rw [h.back i hi', hrt, ← h.hitgap hone (by omega)]
            rw [hb, hx, take_snoc hi', slotC_add]
            by_cases hh : hits n k l[i] = true
            · rw [if_pos hh]
              have hk1 : l[i].kind = 1 := by
                rcases h.kind _ hrl with q | q
                · exact q
                · simp [chgR, q] at hrc
              rw [h.old i hi' hk1]
              unfold hits at hh
              simp only [Bool.and_eq_true, decide_eq_true_eq] at hh
              rw [hh.1.2, hh.2]
            · rw [if_neg hh, if_neg hh]
          · rw [updB_ne e]
            have : hits n k r = false := by
              cases hq : hits n k r
              · rfl
              · exact absurd ((hone r hrl hq).symm.trans hrt) e
            rw [this]
            exact hb
        · show slotC n k (l ++ (s.out ++ [undRec s (b t') r])) = _
          rw [hT] at hm
          rw [hS]
          have : hits n k r = false := by
            cases hq : hits n k r
            · rfl
            · have := (hone r hrl hq).symm.trans hrt
              subst this
              exact absurd hf.1 hm
          rw [this]
          exact hj.2 hm)
      (fun s b c t' r _ _ _ hr _ hk2 _ => absurd hk2 (hno2 hr)) he _ _ u1 u2 ⟨fun _ => by
        show slotC n k (l ++ []) = slotC n k (l.take (openOf l t).next)
        rw [List.append_nil, h.next]
        have := h.hitgap hone (Nat.le_refl l.length)
        rwa [List.take_length] at this, fun q => absurd hop (by rwa [List.append_nil] at q)⟩
    have hT := i'.left
    rw [e2] at hT
    have hT : openT (l ++ s'.out) = [] := by simpa using hT.symm
    have hrow := i'.row
    rw [e1] at hrow hT j'
    exact ⟨hrow, j'.2 (by rw [hT]; simp)⟩
end Go.Proofs.Ytmbhgjekjpkigaa.AM

namespace Go.Proofs.Ytmbhgjekjpkigaa.AM
open Go
set_option linter.unusedVariables false
set_option linter.unusedSimpArgs false
variable {P : Program}

structure LasR (P : Program) : Prop extends PgsR P where
  las : R_gazetteerlaw12_RedoLasts P

def sv : Option (List UInt8) → V
  | none => .sl .nil 0 [] []
  | some b => vB b
theorem sv_le (a : Option (List UInt8)) : LeV (sv a) (vB (a.getD [])) := by
  cases a with
  | none => exact .nil _ _
  | some b => exact .refl _
theorem p_sv (a : Option (List UInt8)) : (sv a).pure = true := by cases a <;> simp [sv, V.pure, pureLL]
theorem bEqualS (h : BytR P) (a b : Option (List UInt8)) : PCalls P n_bytes_Equal [sv a, sv b] (fun r => r = .bool (decide (a.getD [] = b.getD []))) :=
  PCalls.le (LeVs.cons (sv_le a) (LeVs.cons (sv_le b) (LeVs.refl _))) (bEqual h (a.getD []) (b.getD []))
def cellR (r : RecT) : Nat := (r.page * 4 + r.slot).toNat
def slotO (c : Nat) (L : List RecT) : Option (List UInt8) := L.foldl (fun a r => if r.kind = 1 ∧ cellR r = c then some r.new else a) none
theorem slotO_snoc {l : List RecT} {i : Nat} (h : i < l.length) (c : Nat) : slotO c (l.take (i + 1)) = if l[i].kind = 1 ∧ cellR l[i] = c then some l[i].new else slotO c (l.take i) := by
  unfold slotO
  rw [take_snoc h, List.foldl_append]; rfl
def SLr (L : List RecT) : List V := (List.range 128).map fun c => sv (slotO c L)
theorem SLr_len (L : List RecT) : (SLr L).length = 128 := by simp [SLr]
theorem SLr_get (L : List RecT) {c : Nat} (h : c < 128) : (SLr L)[c]? = some (sv (slotO c L)) := by
  simp [SLr, h]
theorem SLr_set {l : List RecT} {i : Nat} (h : i < l.length) (hk : l[i].kind = 1) (hc : cellR l[i] < 128) : (SLr (l.take i)).set (cellR l[i]) (vB l[i].new) = SLr (l.take (i + 1)) := by
  apply List.ext_getElem?
  intro c
  by_cases hlt : c < 128
  · rw [SLr_get _ hlt, slotO_snoc h]
    by_cases e : cellR l[i] = c
    · subst e
      rw [List.getElem?_set_self (by rw [SLr_len]; exact hc), if_pos ⟨hk, rfl⟩]; rfl
    · rw [List.getElem?_set_ne e, SLr_get _ hlt, if_neg (fun q => e q.2)]
  · rw [List.getElem?_eq_none (by rw [List.length_set, SLr_len]; omega), List.getElem?_eq_none (by rw [SLr_len]; omega)]
theorem SLr_cut {l : List RecT} {i : Nat} (h : i < l.length) (hk : l[i].kind = 1) (hc : cellR l[i] < 128) : (SLr (l.take i)).take (cellR l[i]) ++ V.sl .unk 1 (l[i].new.map c8) [] :: (SLr (l.take i)).drop (cellR l[i] + 1) = SLr (l.take (i + 1)) := by
  rw [← SLr_set h hk hc, List.set_eq_take_append_cons_drop, if_pos (by rw [SLr_len]; exact hc)]
theorem SLr_stay {l : List RecT} {i : Nat} (h : i < l.length) (hk : l[i].kind ≠ 1) : SLr (l.take i) = SLr (l.take (i + 1)) := by
  unfold SLr
  refine List.map_congr_left fun c _ => ?_
  rw [slotO_snoc h, if_neg (fun q => hk q.1)]
theorem slotO_C {n k : Nat} (hk : k < 4) : ∀ (L : List RecT) (a : Option (List UInt8)), (∀ r ∈ L, (r.kind = 1 ∨ r.kind = 3) ∧ 0 ≤ r.page ∧ 0 ≤ r.slot ∧ r.slot < 4) →
    (L.foldl (fun a r => if r.kind = 1 ∧ cellR r = 4 * n + k then some r.new else a) a).getD [] = L.foldl (fun a r => if hits (n : Int) (k : Int) r then r.new else a) (a.getD [])
  | [], a, _ => rfl
  | r :: L, a, h => by
    rw [List.foldl_cons, List.foldl_cons, slotO_C hk L _ (fun q hq => h q (.tail _ hq))]
    congr 1
    obtain ⟨h1, h2, h3, h4⟩ := h r (.head _)
    have hc : cellR r = 4 * n + k ↔ r.page = (n : Int) ∧ r.slot = (k : Int) := by unfold cellR; omega
    rcases h1 with e | e
    · by_cases hq : cellR r = 4 * n + k
      · rw [if_pos ⟨e, hq⟩, if_pos (by simp [hits, chgR, e, hc.1 hq])]; rfl
      · rw [if_neg (fun q => hq q.2), if_neg]
        intro q
        simp only [hits, Bool.and_eq_true, decide_eq_true_eq] at q
        exact hq (hc.2 ⟨q.1.2, q.2⟩)
    · rw [if_neg (by omega), if_neg (by simp [hits, chgR, e])]
/-- The rows of pages that are empty. -/
def zRow (n : Nat) : List V := [.int .i64 (n : Int), .int .u64 0, .sl .nil 0 [] [], .sl .nil 0 [] [], .sl .nil 0 [] [], .sl .nil 0 [] []]
def zPg (n : Nat) : PageT := ⟨n, 0, [], [], [], []⟩
theorem zRows_le (n : Nat) : LeV (.sl .unk 6 ((List.range n).map zRow) []) (.sl .unk 6 (((List.range n).map zPg).map cPage) []) := by
  refine nRows_le (by simp) (fun i hi => ?_) (fun i j hi => ?_)
  · simp only [List.length_map, List.length_range] at hi
    simp [hi, zRow]
  · simp only [List.length_map, List.length_range] at hi
    have e1 : ((List.range n).map zRow).getD i [] = zRow i := by simp [List.getD, hi]
    have e2 : (((List.range n).map zPg).map cPage).getD i [] = cPage (zPg i) := by simp [List.getD, hi]
    rw [e1, e2]
    match j with
    | 0 => exact .refl _
    | 1 => exact .refl _
    | 2 => exact .nil _ _
    | 3 => exact .nil _ _
    | 4 => exact .nil _ _
    | 5 => exact .nil _ _
    | j + 6 => exact .refl _
def LtI (k : Nat) (v4 v46 : V) (st : St) : Prop :=
  ∃ i va nv, k = 32 - i ∧ i ≤ 32 ∧ v4 = .msl 0 va 0 i ∧ v46 = .int .i64 ((i : Nat) : Int) ∧ st = ⟨[some (va, .mem 6 ((List.range i).map zRow))], nv⟩
def laG (l : List RecT) (t : Nat) : V := .int .u64 ((lastOf l t : Nat) : Int)
theorem updG_la {l : List RecT} {i : Nat} (h : i < l.length) : updG (laG (l.take i)) l[i].txn (.int .u64 ((l[i].lsn : Nat) : Int)) = laG (l.take (i + 1)) := by
  funext n
  simp only [updG, laG, lastOf_snoc h]
  by_cases e : n = l[i].txn
  · subst e; simp
  · rw [if_neg e, if_neg (fun q => e q.symm)]
/-- What stands of the first i records. -/
def PlTo (l : List RecT) (i : Nat) : Prop := ∀ j (hj : j < l.length), j < i → (l[j].kind = 1 ∨ l[j].kind = 3) ∧ l[j].back = lastOf (l.take j) l[j].txn ∧ (l[j].kind = 1 → l[j].old = (slotO (cellR l[j]) (l.take j)).getD [])
def LtJ (l : List RecT) (va vs vm : Nat) (k : Nat) (v : V) (st : St) : Prop :=
  ∃ (i nv ep : Nat) (ks : List Nat), k = l.length - i ∧ i ≤ l.length ∧ v = .int .i64 ((i : Nat) : Int) ∧ ks.Nodup ∧ ks.length ≤ i ∧ (∀ n, n ∈ ks ↔ ∃ r ∈ l.take i, r.txn = n) ∧ PlTo l i ∧
    st = ⟨[some (va, .mem 6 ((List.range 32).map zRow)), some (vs, .mem 128 [SLr (l.take i)]), oMap vm ep ks (laG (l.take i))], nv⟩
theorem PlTo.plain {l : List RecT} (hrow : rowOk l = true) (hone : ∀ i (hi : i < l.length), l[i].lsn = i + 1) (h : PlTo l l.length) : Plain l := by
  refine ⟨hrow, hone, fun r hr => ?_, fun i hi => (h i hi hi).2.1, fun i hi hk => ?_⟩
  · obtain ⟨i, hi, rfl⟩ := List.getElem_of_mem hr
    exact (h i hi hi).1
  · rw [(h i hi hi).2.2 hk]
    have hb : ∀ r ∈ l, (r.kind = 1 ∨ r.kind = 3) ∧ 0 ≤ r.page ∧ 0 ≤ r.slot ∧ r.slot < 4 := by
      intro r hr
      have h1 := rowOk_Lok hrow r hr
      simp only [recOk, decide_eq_true_eq] at h1
      obtain ⟨j, hj, rfl⟩ := List.getElem_of_mem hr
      exact ⟨(h j hj hj).1, by omega, by omega, by omega⟩
    obtain ⟨_, h2, h3, h4⟩ := hb l[i] (List.getElem_mem hi)
    have hc : cellR l[i] = 4 * l[i].page.toNat + l[i].slot.toNat := by unfold cellR; omega
    have := slotO_C (n := l[i].page.toNat) (k := l[i].slot.toNat) (by omega) (l.take i) none (fun r hr => hb r (List.mem_of_mem_take hr))
    unfold slotO slotC
    rw [hc, this]
    rw [show ((l[i].page.toNat : Nat) : Int) = l[i].page by omega, show ((l[i].slot.toNat : Nat) : Int) = l[i].slot by omega]
    rfl
theorem undoF_err {l : List RecT} : ∀ (k : Nat) (s : US), (undoF l k s).2 ≠ 0 → (undoF l k s).2 = 3 ∨ (undoF l k s).2 = 220
  | 0, s, h => by
    unfold undoF at h
    split at h <;> exact absurd rfl h
  | k + 1, s, h => by
    unfold undoF at h ⊢
    split at h
    · exact absurd rfl h
    · rename_i hs
      rw [if_neg hs]
      split at h
      · rename_i e he
        show e = 3 ∨ e = 220
        have emit : ∀ {L m}, emitU s L m = .inr e → e = 3 ∨ e = 220 := by
          intro L m h
          unfold emitU at h
          split at h
          · simp only [Sum.inr.injEq] at h; exact .inl h.symm
          · cases h
        unfold undoS at he
        dsimp only at he
        split at he
        · exact emit he
        · split at he
          · simp only [Sum.inr.injEq] at he; exact .inr he.symm
          · split at he
            · simp only [Sum.inr.injEq] at he; exact .inr he.symm
            · split at he
              · cases he
              · exact emit he
      · rename_i s' he
        exact undoF_err k s' h
theorem undoP_err {l : List RecT} {op : List OpenT} {next : Nat} (hr : rowErr l = 0) (hn : lastLsn l < next) (h : (undoP l op next).2 ≠ 0) : (undoP l op next).2 = 3 ∨ (undoP l op next).2 = 220 := by
  unfold undoP at h ⊢
  rw [if_neg (by simpa using hr), if_neg (by omega)] at h ⊢
  split at h
  · rename_i hq; rw [if_pos hq]; exact .inr rfl
  · rename_i hq; rw [if_neg hq]; exact undoF_err _ _ h
/-- An owned row that began as nil: the second of three. -/
theorem GhostV.nil2 {a c : V} {st : St} {K : List V → St → Prop} (sz : Nat) (h0 : 0 < sz) (hk : K [a, .msl st.objs.length st.nv 0 0, c] ⟨st.objs ++ [some (st.nv, .mem sz [])], st.nv + 1⟩) : GhostV [a, .sl .nil 0 [] [], c] st K :=
  GhostV.nils (vs' := [a, .msl st.objs.length st.nv 0 0, c]) (st' := st.push (.mem sz [])) h0 rfl rfl (fun i => by
    match i with
    | 0 => exact .refl _
    | 1 => exact .nil _
    | 2 => exact .refl _
    | i + 3 => exact .refl _) hk
/-! ### what the law looks at, slot by slot -/
def cnd1 (n k : Nat) (r : RecT) : Bool := decide (r.kind = 1) && decide (r.page = (n : Int)) && decide (r.slot = (k : Int))
def wantO (n k : Nat) (L : List RecT) : Option (List UInt8) := L.foldl (fun a r => if cnd1 n k r then some r.new else a) none
def txnsH (n k : Nat) (L : List RecT) : List Nat := (L.filter (cnd1 n k)).map (·.txn)
theorem wantO_snoc {n k : Nat} {l : List RecT} {i : Nat} (h : i < l.length) : wantO n k (l.take (i + 1)) = if cnd1 n k l[i] then some l[i].new else wantO n k (l.take i) := by
  unfold wantO
  rw [take_snoc h, List.foldl_append]; rfl
theorem txnsH_snoc {n k : Nat} {l : List RecT} {i : Nat} (h : i < l.length) : txnsH n k (l.take (i + 1)) = if cnd1 n k l[i] then txnsH n k (l.take i) ++ [l[i].txn] else txnsH n k (l.take i) := by
  unfold txnsH
  rw [take_snoc h, List.filter_append]
  cases hc : cnd1 n k l[i] <;> simp [hc]
theorem Plain.hits {l : List RecT} (h : Plain l) {n k : Nat} {r : RecT} (hr : r ∈ l) : hits (n : Int) (k : Int) r = cnd1 n k r := by
  unfold AM.hits cnd1
  rcases h.kind r hr with e | e <;> simp [chgR, e]
theorem Plain.want {l : List RecT} (h : Plain l) (n k : Nat) : (wantO n k l).getD [] = slotC (n : Int) (k : Int) l := by
  have key : ∀ (L : List RecT) (a : Option (List UInt8)), (∀ r ∈ L, AM.hits (n : Int) (k : Int) r = cnd1 n k r) → (L.foldl (fun a r => if cnd1 n k r then some r.new else a) a).getD [] = L.foldl (fun a r => if AM.hits (n : Int) (k : Int) r then r.new else a) (a.getD []) := by
    intro L
    induction L with
    | nil => intro a _; rfl
    | cons r L ih =>
      intro a hL
      rw [List.foldl_cons, List.foldl_cons, ih _ (fun q hq => hL q (.tail _ hq)), hL r (.head _)]
      congr 1
      split <;> rfl
  exact key l none (fun r hr => h.hits hr)
theorem zPg_slot (n k : Nat) : (zPg n).slot k = [] := by
  unfold zPg PageT.slot
  split <;> rfl
theorem lasts_slot {l : List RecT} (h : Plain l) (hw : lastLsn l < 2 ^ 64) {made : List RecT} (he : Ends l ⟨succU (lastLsn l), openL l, []⟩ made) {n k : Nat} (hk : k < 4) {t : Nat} (hne : txnsH n k l ≠ []) (hall : ∀ u ∈ txnsH n k l, u = t) :
    (again1 (zPg n) (l ++ made)).slot k = if t ∈ doneL l then (wantO n k l).getD [] else [] := by
  have hmem : ∀ r ∈ l, AM.hits (n : Int) (k : Int) r = true → r.txn ∈ txnsH n k l := fun r hr hh => List.mem_map.2 ⟨r, List.mem_filter.2 ⟨hr, by rw [← h.hits hr]; exact hh⟩, rfl⟩
  have hex : ∃ r ∈ l, r.txn = t := by
    obtain ⟨u, hu⟩ := List.exists_mem_of_ne_nil _ hne
    have := hall u hu
    subst this
    obtain ⟨r, hr, rfl⟩ := List.mem_map.1 hu
    exact ⟨r, (List.mem_filter.1 hr).1, rfl⟩
  obtain ⟨hrow, hs⟩ := slot_last h hw (n := (n : Int)) (k := (k : Int)) (t := t) (fun r hr hh => hall _ (hmem r hr hh)) hex he
  have hlk := rowOk_Lok hrow
  rw [again1_slot k hk (l ++ made) (zPg n) (rowOk_pw hrow) (fun r hr => by
    have := hlk r hr
    simp only [recOk, decide_eq_true_eq] at this
    show 0 < r.lsn
    omega) (fun r hr _ => by
    have := hlk r hr
    simp only [recOk, decide_eq_true_eq] at this
    omega), zPg_slot]
  show slotC ((n : Nat) : Int) (k : Int) (l ++ made) = _
  rw [hs, h.want]
  by_cases hc : comT l t = true
  · rw [if_pos hc, if_pos (mem_doneL.2 hc)]
  · rw [if_neg hc, if_neg (fun q => hc (mem_doneL.1 q))]
def oneB (ts : List Nat) (i : Nat) : Bool := (ts.take i).all fun t => decide (t = ts.headD 0)
theorem oneB_snoc {ts : List Nat} {i : Nat} (h : i < ts.length) : oneB ts (i + 1) = (oneB ts i && decide (ts[i] = ts.headD 0)) := by
  unfold oneB
  rw [take_snoc h, List.all_append]; simp
def comB (ds : List Nat) (t i : Nat) : Bool := (ds.take i).any fun d => decide (d = t)
theorem comB_snoc {ds : List Nat} {t i : Nat} (h : i < ds.length) : comB ds t (i + 1) = (comB ds t i || decide (ds[i] = t)) := by
  unfold comB
  rw [take_snoc h, List.any_append]; simp
def LnI (k : Nat) (v : V) (st : St) : Prop := ∃ n nv, k = 32 - n ∧ n ≤ 32 ∧ v = .int .i64 ((n : Nat) : Int) ∧ st = ⟨[], nv⟩
def LkI (k : Nat) (v : V) (st : St) : Prop := ∃ n nv, k = 4 - n ∧ n ≤ 4 ∧ v = .int .i64 ((n : Nat) : Int) ∧ st = ⟨[], nv⟩
def LwI (l : List RecT) (n k : Nat) (q : Nat) (v17 v18 v151 : V) (st : St) : Prop :=
  ∃ i nv va, q = l.length - i ∧ i ≤ l.length ∧ v17 = sv (wantO n k (l.take i)) ∧ v18 = .msl 0 va 0 (txnsH n k (l.take i)).length ∧ v151 = .int .i64 ((i : Nat) : Int) ∧ st = ⟨[some (va, .mem 1 ((txnsH n k (l.take i)).map cN))], nv⟩
def LoB (ts : List Nat) (va : Nat) (q : Nat) (v21 v180 : V) (st : St) : Prop :=
  ∃ i nv, q = ts.length - i ∧ i ≤ ts.length ∧ v21 = .bool (oneB ts i) ∧ v180 = .int .i64 ((i : Nat) : Int) ∧ st = ⟨[some (va, .mem 1 (ts.map cN))], nv⟩
def LcB (ts ds : List Nat) (t va : Nat) (q : Nat) (v24 v202 : V) (st : St) : Prop :=
  ∃ i nv, q = ds.length - i ∧ i ≤ ds.length ∧ v24 = .bool (comB ds t i) ∧ v202 = .int .i64 ((i : Nat) : Int) ∧ st = ⟨[some (va, .mem 1 (ts.map cN))], nv⟩
end Go.Proofs.Ytmbhgjekjpkigaa.AM

namespace Go.Proofs.Ytmbhgjekjpkigaa.AM
open Go
set_option linter.unusedVariables false
set_option linter.unusedSimpArgs false
variable {P : Program}

set_option maxHeartbeats 8000000 in
theorem lLasts (h : LasR P) (rs : List RecT) (hn : ∀ r ∈ rs, recN r) : PCalls P n_gazetteerlaw12_RedoLasts [.sl .unk 9 (rs.map cRec) []] (fun r => r = .bool true) := by
  refine A_gazetteerlaw12_RedoLasts h.las ?_
  unfold F_gazetteerlaw12_RedoLasts
  simp [st0]
  refine inv_p (Wakes_R h.toRLawR) rfl rfl ?_
  rintro _ rfl
  simp
  have pr : ∀ l : List RecT, pureL [V.sl .unk 9 (l.map cRec) []] = true := fun l => by simp [pureL, V.pure, pureLL]
  refine inv_p (Records_R h.toRLawR rs) rfl (pr _) ?_
  rintro _ rfl
  obtain ⟨l, hl⟩ : ∃ l, l = recordsL rs := ⟨_, rfl⟩
  have hw : rowW l := by rw [hl]; exact recordsW hn
  have h65 : l.length ≤ 65 := by rw [hl]; exact recordsL_len rs
  rw [← hl]
  clear hl
  simp
  refine inv_p (CheckRow_R h.toRowR l (by omega) hw) rfl (pr _) ?_
  rintro _ rfl
  by_cases hr : rowErr l = 0
  case neg =>
    simp [hr]
    exact GhostV.refl ⟨rfl, rfl⟩
  by_cases h0 : l = []
  · subst h0
    simp [hr]
    exact GhostV.refl ⟨rfl, rfl⟩
  have hp0 : 0 < l.length := List.length_pos_iff.2 h0
  by_cases hl1 : l[0].lsn = 1
  case neg =>
    have hl1' : ¬ ((l[0].lsn : Nat) : Int) = 1 := by omega
    simp [hr, h0, hp0, hl1']
    exact GhostV.refl ⟨rfl, rfl⟩
  simp [hr, h0, hp0, hl1]
  refine ⟨LtI, ⟨32, GhostV.nilr 6 (by decide) ⟨0, 0, 1, by simp, by simp, by simp, by simp, by simp⟩⟩, ?_⟩
  rintro k1 v4 v46 st ⟨i, va, nv, rfl, hi, rfl, rfl, rfl⟩
  by_cases hlt : i < 32
  · have hlt' : (i : Int) < 32 := by omega
    simp [hlt']
    have e : (List.range i).map zRow ++ [zRow i] = (List.range (i + 1)).map zRow := by rw [List.range_succ, List.map_append]; rfl
    exact ⟨by omega, 32 - (i + 1), by omega, GhostV.keep (L := [_]) ⟨i + 1, _, _, rfl, by omega, rfl, by rw [wadd1 (by omega)], by rw [← e]; rfl⟩⟩
  obtain rfl : i = 32 := by omega
  simp
  obtain ⟨hlen, hrow⟩ := rowErr_zero.1 hr
  have hrec := rowOk_Lok hrow
  have hone : ∀ i (hi : i < l.length), l[i].lsn = i + 1 := fun i hi => by rw [rowOk_lsn hrow i hi, hl1]; omega
  refine ⟨LtJ l va nv (nv + 1), ⟨l.length, GhostV.refl ⟨0, nv + 1 + 2, nv + 1 + 1, [], by simp, by simp, by simp, by simp, by simp, by simp, fun j _ hj => by omega, rfl⟩⟩, ?_⟩
  rintro k2 v58 st ⟨i, nv2, ep, ks, rfl, hi, rfl, hnd, hkl, hks, hpl, rfl⟩
  by_cases hlt : i < l.length
  · have hok := hrec l[i] (List.getElem_mem hlt)
    simp only [recOk, decide_eq_true_eq] at hok
    have hm : mfind (.one .int) (.int .u64 ((l[i].txn : Nat) : Int)) (ks.map (entF (laG (l.take i)))) 0 = _ := mfind_G (κ := .u64) uE_inj (f := laG (l.take i)) l[i].txn ks
    have hal := addG_len (ks := ks) (x := l[i].txn)
    have hks' : ∀ n, n ∈ addG ks l[i].txn ↔ ∃ r ∈ l.take (i + 1), r.txn = n := by
      intro n
      rw [mem_addG, hks, take_snoc hlt]
      simp only [List.mem_append, List.mem_singleton]
      constructor
      · rintro (⟨r, h1, h2⟩ | rfl)
        · exact ⟨r, .inl h1, h2⟩
        · exact ⟨_, .inr rfl, rfl⟩
      · rintro ⟨r, h1 | rfl, h2⟩
        · exact .inl ⟨r, h1, h2⟩
        · exact .inr h2.symm
    by_cases hk2 : l[i].kind = 2
    · simp [hlt, oMap, eq_true hk2]
      exact GhostV.refl ⟨rfl, rfl⟩
    by_cases hk4 : l[i].kind = 4
    · simp [hlt, oMap, hk2, eq_true hk4]
      exact GhostV.refl ⟨rfl, rfl⟩
    have hk13 : l[i].kind = 1 ∨ l[i].kind = 3 := by omega
    have hlk : ∀ {K : V → St → Prop} {st : St}, K (.int .u64 ((lastOf (l.take i) l[i].txn : Nat) : Int)) st → K (if l[i].txn ∈ ks then laG (l.take i) l[i].txn else .int .u64 0) st := by
      intro K st hK
      by_cases hin : l[i].txn ∈ ks
      · rw [if_pos hin]; exact hK
      · rw [if_neg hin]
        have : lastOf (l.take i) l[i].txn = 0 := (lastOf_mem _ 0).2 (fun r hr q => hin ((hks _).2 ⟨r, hr, q⟩))
        rw [this] at hK; exact hK
    by_cases hb : l[i].back = lastOf (l.take i) l[i].txn
    case neg =>
      by_cases hin : l[i].txn ∈ ks
      · simp [hlt, oMap, hk2, hk4, hm, hin, laG, hb]
        exact GhostV.refl ⟨rfl, rfl⟩
      · have e0 : lastOf (l.take i) l[i].txn = 0 := (lastOf_mem _ 0).2 (fun r hr q => hin ((hks _).2 ⟨r, hr, q⟩))
        have hb0 : ¬ l[i].back = 0 := by omega
        simp [hlt, oMap, hk2, hk4, hm, hin, hb0]
        exact GhostV.refl ⟨rfl, rfl⟩
    have hpl1 : (l[i].kind = 1 → l[i].old = (slotO (cellR l[i]) (l.take i)).getD []) → PlTo l (i + 1) := by
      intro ho j hj hji
      by_cases e : j = i
      · subst e; exact ⟨hk13, hb, ho⟩
      · exact hpl j hj (by omega)
    have hcell : cellR l[i] = l[i].page.toNat * 4 + l[i].slot.toNat := by unfold cellR; omega
    have hc128 : cellR l[i] < 128 := by omega
    by_cases hin : l[i].txn ∈ ks
    · have e := set_G (κ := .u64) (e := uE) (f := laG (l.take i)) hin hnd (.int .u64 ((l[i].lsn : Nat) : Int))
      rw [updG_la hlt, entG_F] at e
      simp only [uE] at e
      simp [hlt, oMap, hk2, hk4, hm, hin, laG, eq_true hb]
      by_cases hk1 : l[i].kind = 1
      · simp [eq_true hk1]
        refine ⟨⟨by omega, by omega⟩, ?_⟩
        simp [offV]
        refine ⟨⟨by omega, by omega⟩, ?_⟩
        rw [← hcell, SLr_get _ hc128]
        simp
        refine inv_p (bEqualS h.toBytR (slotO (cellR l[i]) (l.take i)) (some l[i].old)) rfl (by simp [pureL, p_sv, V.pure]) ?_
        rintro _ rfl
        by_cases ho : (slotO (cellR l[i]) (l.take i)).getD [] = l[i].old
        case neg =>
          simp [ho]
          exact GhostV.refl ⟨rfl, rfl⟩
        have hpl' := hpl1 (fun _ => ho.symm)
        simp [eq_true ho]
        refine ⟨⟨by omega, by omega⟩, ?_⟩
        simp [offV]
        refine ⟨⟨by omega, by omega⟩, ?_⟩
        rw [← hcell, SLr_cut hlt hk1 hc128, SLr_len, e]
        exact ⟨by omega, l.length - (i + 1), by omega, GhostV.keep (L := [_, _, _]) (M := [_]) ⟨i + 1, _, _, addG ks l[i].txn, rfl, by omega, by rw [wadd1 (by omega)], addG_nodup hnd, by omega, hks', hpl', rfl⟩⟩
      · have hpl' := hpl1 (fun q => absurd q hk1)
        simp [hk1]
        rw [e]
        exact ⟨l.length - (i + 1), by omega, GhostV.keep (L := [_, _, _]) (M := [_]) ⟨i + 1, _, _, addG ks l[i].txn, rfl, by omega, by rw [wadd1 (by omega)], addG_nodup hnd, by omega, hks', hpl', by rw [← SLr_stay hlt hk1]; rfl⟩⟩
    · have e0 : lastOf (l.take i) l[i].txn = 0 := (lastOf_mem _ 0).2 (fun r hr q => hin ((hks _).2 ⟨r, hr, q⟩))
      have hb0 : l[i].back = 0 := by omega
      have e := app_G (κ := .u64) (e := uE) (f := laG (l.take i)) hin (.int .u64 ((l[i].lsn : Nat) : Int))
      rw [updG_la hlt, entG_F] at e
      simp only [uE] at e
      simp [hlt, oMap, hk2, hk4, hm, hin, laG, eq_true hb0]
      by_cases hk1 : l[i].kind = 1
      · simp [eq_true hk1]
        refine ⟨⟨by omega, by omega⟩, ?_⟩
        simp [offV]
        refine ⟨⟨by omega, by omega⟩, ?_⟩
        rw [← hcell, SLr_get _ hc128]
        simp
        refine inv_p (bEqualS h.toBytR (slotO (cellR l[i]) (l.take i)) (some l[i].old)) rfl (by simp [pureL, p_sv, V.pure]) ?_
        rintro _ rfl
        by_cases ho : (slotO (cellR l[i]) (l.take i)).getD [] = l[i].old
        case neg =>
          simp [ho]
          exact GhostV.refl ⟨rfl, rfl⟩
        have hpl' := hpl1 (fun _ => ho.symm)
        simp [eq_true ho]
        refine ⟨⟨by omega, by omega⟩, ?_⟩
        simp [offV]
        refine ⟨⟨by omega, by omega⟩, ?_⟩
        rw [← hcell, SLr_cut hlt hk1 hc128, SLr_len, e]
        exact ⟨by omega, l.length - (i + 1), by omega, GhostV.keep (L := [_, _, _]) (M := [_]) ⟨i + 1, _, _, addG ks l[i].txn, rfl, by omega, by rw [wadd1 (by omega)], addG_nodup hnd, by omega, hks', hpl', rfl⟩⟩
      · have hpl' := hpl1 (fun q => absurd q hk1)
        simp [hk1]
        rw [e]
        exact ⟨l.length - (i + 1), by omega, GhostV.keep (L := [_, _, _]) (M := [_]) ⟨i + 1, _, _, addG ks l[i].txn, rfl, by omega, by rw [wadd1 (by omega)], addG_nodup hnd, by omega, hks', hpl', by rw [← SLr_stay hlt hk1]; rfl⟩⟩
  obtain rfl : i = l.length := by omega
  have hplain := hpl.plain hrow hone
  have hws := wsub1 (x := l.length) (by omega) hp0
  have hlw : lastLsn l < 2 ^ 64 := by rw [lastLsn_get hp0]; exact (hw _ (List.getElem_mem _)).1
  have hsl := succU_lt hlw
  have hlast : lastLsn l = l.length := by rw [lastLsn_get hp0, hone]; omega
  simp [hp0, hws, show l.length - 1 < l.length by omega]
  rw [← lastLsn_get hp0, add1_succU hlw]
  obtain ⟨ps, hps⟩ : ∃ ps, ps = (List.range 32).map zPg := ⟨_, rfl⟩
  have hpsl : ps.length = 32 := by rw [hps]; simp
  have hzle := zRows_le 32
  rw [← hps] at hzle
  refine inv_f0 (ACalls.gv (All_R h.toAllR [] [] 0 (by simp) (by simp) (fun r hr => by cases hr) (by omega)).1 (GhostV.trans (K := fun vs st => vs = [.sl .unk 6 ((List.range 32).map zRow) [], .sl .unk 9 (l.map cRec) [], .int .u64 ((succU (lastLsn l) : Nat) : Int)] ∧ st = ⟨[none, some (nv, .mem 128 [SLr l]), oMap (nv + 1) ep ks (laG l)], nv2⟩)
    (GhostV.rowx (id := 0) (sz := 6) (es := (List.range 32).map zRow) (by simp) (by simp) ⟨by rw [List.drop_zero, List.take_of_length_le (by simp)], rfl⟩) ?_))
  rintro _ _ ⟨rfl, rfl⟩
  refine GhostV.le (LeVs.cons hzle (LeVs.refl _)) ?_
  refine (All_R h.toAllR ps l (succU (lastLsn l)) (by omega) (by omega) hw hsl).at (by simp [pureL, V.pure, pureLL]) ?_
  rintro _ rfl
  obtain ⟨⟨q, made, e⟩, hall⟩ : ∃ x, x = allP ps l (succU (lastLsn l)) := ⟨_, rfl⟩
  unfold redoAllR
  rw [← hall]
  simp
  refine inv_p (Done_R h.toOpnR l (by omega) hw) rfl (pr _) ?_
  rintro _ rfl
  simp [doneR, hr]
  by_cases he : e = 0
  case neg =>
    have he2 : e = 3 ∨ e = 220 := by
      unfold allP at hall
      split at hall
      · simp only [Prod.mk.injEq] at hall
        rename_i hc
        obtain ⟨_, _, rfl⟩ := hall
        unfold checkR at hc ⊢
        rw [if_pos hr] at hc ⊢
        split at hc
        · exact absurd rfl hc
        · rename_i hq; rw [if_neg hq]; exact .inr rfl
      · split at hall
        · simp only [Prod.mk.injEq] at hall; exact absurd hall.2.2 he
        · split at hall
          · simp only [Prod.mk.injEq] at hall
            obtain ⟨_, _, rfl⟩ := hall
            exact undoP_err hr (by rw [hlast]; have := succU_ne (n := l.length); unfold succU; rw [if_neg (by omega)]; omega) he
          · simp only [Prod.mk.injEq] at hall; exact absurd hall.2.2 he
    rcases he2 with rfl | rfl
    · simp
      exact GhostV.refl ⟨rfl, rfl⟩
    · simp
      exact GhostV.refl ⟨rfl, rfl⟩
  subst he
  simp
  obtain ⟨hc, hends, hq⟩ := allP_ends hall.symm
  have hqn : q.length = 32 := by rw [hq, againP_map]; simpa using hpsl
  refine ⟨LnI, ⟨32, GhostV.keep (L := []) ⟨0, _, by simp, by simp, by simp, rfl⟩⟩, ?_⟩
  rintro k3 v143 st ⟨n, nv3, rfl, hn32, rfl, rfl⟩
  by_cases hnl : n < 32
  case neg =>
    have hnl' : ¬ (n : Int) < 32 := by omega
    simp [hnl']
    exact GhostV.refl ⟨rfl, rfl⟩
  have hnl' : (n : Int) < 32 := by omega
  simp [hnl']
  refine ⟨LkI, ⟨4, GhostV.refl ⟨0, _, by simp, by simp, by simp, rfl⟩⟩, ?_⟩
  rintro k4 v146 st ⟨k, nv4, rfl, hk4, rfl, rfl⟩
  by_cases hkl : k < 4
  case neg =>
    have hkl' : ¬ (k : Int) < 4 := by omega
    simp [hkl']
    exact ⟨32 - (n + 1), by omega, GhostV.refl ⟨n + 1, _, rfl, by omega, by rw [wadd1 (by omega)], rfl⟩⟩
  have hkl' : (k : Int) < 4 := by omega
  simp [hkl']
  refine ⟨LwI l n k, ⟨l.length, GhostV.nil2 1 (by decide) ⟨0, _, _, by simp, by simp, by simp [wantO, sv], by simp [txnsH], by simp, rfl⟩⟩, ?_⟩
  rintro k5 v17 v18 v151 st ⟨i, nv5, va5, rfl, hi5, rfl, rfl, rfl, rfl⟩
  by_cases hlt5 : i < l.length
  · have hwn := wantO_snoc (n := n) (k := k) hlt5
    have htx := txnsH_snoc (n := n) (k := k) hlt5
    have htl : (txnsH n k (l.take i)).length ≤ i := by
      unfold txnsH; rw [List.length_map]
      exact Nat.le_trans (List.length_filter_le _ _) (by simp; omega)
    by_cases hk1 : l[i].kind = 1
    case neg =>
      have hc : cnd1 n k l[i] = false := by simp [cnd1, hk1]
      rw [hc] at hwn htx
      simp [hlt5, hk1]
      exact ⟨l.length - (i + 1), by omega, GhostV.keep (L := [_]) ⟨i + 1, _, _, rfl, by omega, by rw [hwn]; rfl, by rw [htx]; rfl, by rw [wadd1 (by omega)], by rw [htx]; rfl⟩⟩
    by_cases hpg : l[i].page = (n : Int)
    case neg =>
      have hc : cnd1 n k l[i] = false := by simp [cnd1, hpg]
      rw [hc] at hwn htx
      simp [hlt5, eq_true hk1, hpg]
      exact ⟨l.length - (i + 1), by omega, GhostV.keep (L := [_]) ⟨i + 1, _, _, rfl, by omega, by rw [hwn]; rfl, by rw [htx]; rfl, by rw [wadd1 (by omega)], by rw [htx]; rfl⟩⟩
    by_cases hsl2 : l[i].slot = (k : Int)
    case neg =>
      have hc : cnd1 n k l[i] = false := by simp [cnd1, hsl2]
      rw [hc] at hwn htx
      simp [hlt5, eq_true hk1, eq_true hpg, hsl2]
      exact ⟨l.length - (i + 1), by omega, GhostV.keep (L := [_]) ⟨i + 1, _, _, rfl, by omega, by rw [hwn]; rfl, by rw [htx]; rfl, by rw [wadd1 (by omega)], by rw [htx]; rfl⟩⟩
    have hc : cnd1 n k l[i] = true := by simp [cnd1, hk1, hpg, hsl2]
    rw [hc] at hwn htx
    simp [hlt5, eq_true hk1, eq_true hpg, eq_true hsl2]
    refine ⟨by omega, l.length - (i + 1), by omega, GhostV.keep (L := [_]) ⟨i + 1, nv5 + 1 + 1 + 1, nv5 + 1 + 1, rfl, by omega, by rw [hwn]; rfl, by rw [htx]; simp, by rw [wadd1 (by omega)], ?_⟩⟩
    rw [htx, if_pos rfl, List.map_append]; rfl
  obtain rfl : i = l.length := by omega
  rw [List.take_length]
  simp
  obtain ⟨ts, hts⟩ : ∃ ts, ts = txnsH n k l := ⟨_, rfl⟩
  rw [← hts]
  have htl : ts.length ≤ 64 := by
    rw [hts]; unfold txnsH; rw [List.length_map]
    exact Nat.le_trans (List.length_filter_le _ _) hlen
  refine ⟨LoB ts va5, ⟨ts.length, GhostV.refl ⟨0, _, by simp, by simp, by simp [oneB], by simp, rfl⟩⟩, ?_⟩
  rintro k6 v21 v180 st ⟨i, nv6, rfl, hi6, rfl, rfl, rfl⟩
  by_cases hlt6 : i < ts.length
  · have hon := oneB_snoc hlt6
    have hhd : ts.headD 0 = ts[0] := by
      cases ts with
      | nil => simp at hlt6
      | cons a ts => rfl
    rw [hhd] at hon
    have h0t : 0 < ts.length := by omega
    cases ho : oneB ts i
    · rw [ho] at hon
      simp [hlt6]
      exact ⟨ts.length - (i + 1), by omega, GhostV.refl ⟨i + 1, _, rfl, by omega, by rw [hon]; rfl, by rw [wadd1 (by omega)], rfl⟩⟩
    · rw [ho] at hon
      simp [hlt6, h0t]
      exact ⟨ts.length - (i + 1), by omega, GhostV.refl ⟨i + 1, _, rfl, by omega, by rw [hon]; simp, by rw [wadd1 (by omega)], rfl⟩⟩
  obtain rfl : i = ts.length := by omega
  have nxt : ∀ {M : List (Option (Nat × Obj))} {nv : Nat}, ∃ j, j < 4 - k ∧ GhostV [.int .i64 (IntKind.i64.wrap ((k : Int) + 1))] ⟨M, nv⟩ (app (n := 1) (LkI j)) := fun {M nv} =>
    ⟨4 - (k + 1), by omega, GhostV.keep (L := []) ⟨k + 1, _, rfl, by omega, by rw [wadd1 (by omega)], rfl⟩⟩
  by_cases ht0 : ts = []
  · subst ht0
    simp
    exact nxt
  have h0t : 0 < ts.length := List.length_pos_iff.2 ht0
  simp [ht0]
  cases ho : oneB ts ts.length
  · simp
    exact nxt
  have hall2 : ∀ u ∈ ts, u = ts[0] := by
    intro u hu
    unfold oneB at ho
    rw [List.take_length, List.all_eq_true] at ho
    have := ho u hu
    have hhd : ts.headD 0 = ts[0] := by
      cases ts with
      | nil => simp at h0t
      | cons a ts => rfl
    rw [hhd] at this
    simpa using this
  simp
  have hds : (doneL l).length < 2 ^ 40 := by
    unfold doneL
    have h1 := List.length_filter_le (comT l) (txnsL l)
    have h2 := txnsL_len l
    omega
  obtain ⟨ds, hdse⟩ : ∃ ds, ds = doneL l := ⟨_, rfl⟩
  rw [← hdse] at hds ⊢
  refine ⟨LcB ts ds ts[0] va5, ⟨ds.length, GhostV.refl ⟨0, _, by simp, by simp, by simp [comB], by simp, rfl⟩⟩, ?_⟩
  rintro k7 v24 v202 st ⟨i, nv7, rfl, hi7, rfl, rfl, rfl⟩
  by_cases hlt7 : i < ds.length
  · have hcn := comB_snoc (t := ts[0]) hlt7
    cases hcb : comB ds ts[0] i
    · rw [hcb] at hcn
      simp [hlt7, h0t]
      exact ⟨ds.length - (i + 1), by omega, GhostV.refl ⟨i + 1, _, rfl, by omega, by rw [hcn]; simp, by rw [wadd1 (by omega)], rfl⟩⟩
    · rw [hcb] at hcn
      simp [hlt7]
      exact ⟨ds.length - (i + 1), by omega, GhostV.refl ⟨i + 1, _, rfl, by omega, by rw [hcn]; rfl, by rw [wadd1 (by omega)], rfl⟩⟩
  obtain rfl : i = ds.length := by omega
  have hgq : ∀ h : n < q.length, q[n] = again1 (zPg n) (l ++ made) := by
    intro h
    have : q[n]? = some (again1 (zPg n) (l ++ made)) := by rw [hq, againP_map, hps]; simp [hnl]
    rw [List.getElem?_eq_getElem h, Option.some.injEq] at this
    exact this
  have hls := lasts_slot hplain hlw hends (n := n) (k := k) (t := ts[0]) hkl (by rw [← hts]; exact ht0) (by rw [← hts]; exact hall2)
  rw [← hgq (by omega), ← hdse] at hls
  have hcm : comB ds ts[0] ds.length = decide (ts[0] ∈ ds) := by
    unfold comB
    rw [List.take_length, Bool.eq_iff_iff]
    simp
  cases hcb : comB ds ts[0] ds.length
  · have hnm : ts[0] ∉ ds := by rw [hcm] at hcb; simpa using hcb
    rw [if_neg hnm] at hls
    simp [hqn, hnl]
    refine ⟨hnl', hkl', ?_⟩
    simp [offV]
    have hcell : ∀ p : PageT, ([V.int .i64 p.num, V.int .u64 ((p.lsn : Nat) : Int), vB p.s0, vB p.s1, vB p.s2, vB p.s3])[2 + k]? = some (vB (p.slot k)) := by
      intro p
      rcases (by omega : k = 0 ∨ k = 1 ∨ k = 2 ∨ k = 3) with rfl | rfl | rfl | rfl <;> rfl
    rw [hcell]
    simp
    refine inv_p (bEqualS h.toBytR (some (q[n].slot k)) none) rfl (by simp [pureL, p_sv, V.pure]) ?_
    rintro _ rfl
    have hls' : (some (q[n].slot k)).getD [] = (none : Option (List UInt8)).getD [] := hls
    rw [hls', decide_eq_true rfl]
    simp
    exact nxt
  · have hnm : ts[0] ∈ ds := by rw [hcm] at hcb; simpa using hcb
    rw [if_pos hnm] at hls
    simp [hqn, hnl]
    refine ⟨hnl', hkl', ?_⟩
    simp [offV]
    have hcell : ∀ p : PageT, ([V.int .i64 p.num, V.int .u64 ((p.lsn : Nat) : Int), vB p.s0, vB p.s1, vB p.s2, vB p.s3])[2 + k]? = some (vB (p.slot k)) := by
      intro p
      rcases (by omega : k = 0 ∨ k = 1 ∨ k = 2 ∨ k = 3) with rfl | rfl | rfl | rfl <;> rfl
    rw [hcell]
    simp
    refine inv_p (bEqualS h.toBytR (some (q[n].slot k)) (wantO n k l)) rfl (by simp [pureL, p_sv, V.pure]) ?_
    rintro _ rfl
    have hls' : (some (q[n].slot k)).getD [] = ((wantO n k l) : Option (List UInt8)).getD [] := hls
    rw [hls', decide_eq_true rfl]
    simp
    exact nxt
end Go.Proofs.Ytmbhgjekjpkigaa.AM
