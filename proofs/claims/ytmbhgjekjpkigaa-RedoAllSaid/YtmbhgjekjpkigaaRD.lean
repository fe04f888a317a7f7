/- Redo: the plain law, and the statement, walked. -/
import Derived.Test.YtmbhgjekjpkigaaRC
namespace Go.Proofs.Ytmbhgjekjpkigaa.AM
open Go
set_option linter.unusedVariables false
set_option linter.unusedSimpArgs false
variable {P : Program}

structure PgsR (P : Program) : Prop extends RLawR P where
  copy6 : R_gazetteerref06_Copy P
  pages : R_gazetteerlaw12_pages P

/-! ### pages -/
@[simp] abbrev vT (l : List UInt8) (t : SK × List (List V)) : V := .sl t.1 1 (l.map c8) t.2
@[simp] abbrev tPage (p : PageT) (t0 t1 t2 t3 : SK × List (List V)) : List V := [.int .i64 p.num, .int .u64 p.lsn, vT p.s0 t0, vT p.s1 t1, vT p.s2 t2, vT p.s3 t3]
@[simp] def cpAt (p : PageT) (t0 t1 t2 t3 : SK × List (List V)) (i : Nat) : List V :=
  [.int .i64 p.num, .int .u64 p.lsn, vT p.s0 (if 0 < i then (.unk, []) else t0), vT p.s1 (if 1 < i then (.unk, []) else t1), vT p.s2 (if 2 < i then (.unk, []) else t2), vT p.s3 (if 3 < i then (.unk, []) else t3)]
def CpI (p : PageT) (t0 t1 t2 t3 : SK × List (List V)) (k : Nat) (v : V) (st : St) : Prop :=
  ∃ i nv, k = 4 - i ∧ i ≤ 4 ∧ v = .int .i64 ((i : Nat) : Int) ∧ st = ⟨[some (0, .mem 6 [cpAt p t0 t1 t2 t3 i]), some (1, .mem 6 [zCells])], nv⟩
set_option maxHeartbeats 2000000 in
theorem Copy_P (h : PgsR P) (p : PageT) (hp : pShort p) (t0 t1 t2 t3 : SK × List (List V)) (h0 : pureLL t0.2 = true) (h1 : pureLL t1.2 = true) (h2 : pureLL t2.2 = true) (h3 : pureLL t3.2 = true) :
    PCalls P n_gazetteerref06_Copy [.agg (tPage p t0 t1 t2 t3)] (fun r => r = .agg (cPage p)) := by
  obtain ⟨p0, p1, p2, p3⟩ := hp
  refine A_gazetteerref06_Copy h.copy6 ?_
  unfold F_gazetteerref06_Copy
  simp [st0]
  refine ⟨CpI p t0 t1 t2 t3, ⟨4, GhostV.refl ⟨0, _, by simp, by simp, by simp, rfl⟩⟩, ?_⟩
  rintro k1 v st ⟨j, nv, rfl, hj, rfl, rfl⟩
  have tk : ∀ b : List UInt8, List.take b.length (List.map c8 b) = List.map c8 b := fun b => List.take_of_length_le (by simp)
  have dk : ∀ b : List UInt8, List.drop b.length (List.map c8 b) = [] := fun b => List.drop_eq_nil_of_le (by simp)
  rcases (by omega : j = 0 ∨ j = 1 ∨ j = 2 ∨ j = 3 ∨ j = 4) with rfl | rfl | rfl | rfl | rfl
  · simp
    simp [offV]
    refine ⟨by omega, 3, by omega, GhostV.frzO (b := 0) (id := 2) (i := 0) (j := 2) (by decide) rfl rfl rfl rfl (by simp) ?_⟩
    simp [tk, dk]
    exact GhostV.keep (L := [_, _]) (M := [none]) ⟨1, _, rfl, by omega, by rw [wrap_i64 (by omega)]; rfl, by simp; rfl⟩
  · simp
    simp [offV]
    refine ⟨by omega, 2, by omega, GhostV.frzO (b := 0) (id := 2) (i := 0) (j := 3) (by decide) rfl rfl rfl rfl (by simp) ?_⟩
    simp [tk, dk]
    exact GhostV.keep (L := [_, _]) (M := [none]) ⟨2, _, rfl, by omega, by rw [wrap_i64 (by omega)]; rfl, by simp; rfl⟩
  · simp
    simp [offV]
    refine ⟨by omega, 1, by omega, GhostV.frzO (b := 0) (id := 2) (i := 0) (j := 4) (by decide) rfl rfl rfl rfl (by simp) ?_⟩
    simp [tk, dk]
    exact GhostV.keep (L := [_, _]) (M := [none]) ⟨3, _, rfl, by omega, by rw [wrap_i64 (by omega)]; rfl, by simp; rfl⟩
  · simp
    simp [offV]
    refine ⟨by omega, GhostV.frzO (b := 0) (id := 2) (i := 0) (j := 5) (by decide) rfl rfl rfl rfl (by simp) ?_⟩
    simp [tk, dk]
    exact GhostV.keep (L := [_, _]) (M := [none]) ⟨4, _, rfl, by omega, by rw [wrap_i64 (by omega)]; rfl, by simp; rfl⟩
  · simp
    exact GhostV.refl ⟨by simp [V.pure, pureL, pureLL], rfl⟩

def cutP (p : PageT) : PageT := { p with s0 := p.s0.take 53, s1 := p.s1.take 53, s2 := p.s2.take 53, s3 := p.s3.take 53 }
def pagesL (l : List PageT) : List PageT := (l.take 33).map cutP
theorem cutP_short (p : PageT) : pShort (cutP p) := by
  unfold cutP pShort
  simp only [List.length_take]
  exact ⟨by omega, by omega, by omega, by omega⟩
@[simp] def c53 (b : Bool) (l : List UInt8) : V := if b then .sl (if l = [] then .unk else .nn) 1 ((l.take 53).map c8) ((l.map c8).drop (min l.length 53)) else vB l
@[simp] def ctAt (p : PageT) (i : Nat) : List V := [.int .i64 p.num, .int .u64 p.lsn, c53 (decide (0 < i)) p.s0, c53 (decide (1 < i)) p.s1, c53 (decide (2 < i)) p.s2, c53 (decide (3 < i)) p.s3]
def PgI (l : List PageT) (k : Nat) (v3 v10 : V) (st : St) : Prop :=
  ∃ (i va nv : Nat) (out : List PageT), k = l.length - i ∧ i ≤ l.length ∧ i ≤ 33 ∧ out = (l.take i).map cutP ∧ v3 = .msl 0 va 0 out.length ∧ v10 = .int .i64 ((i : Nat) : Int) ∧ st = ⟨[some (va, .mem 6 (out.map cPage))], nv⟩
def PgJ (p : PageT) (out : List PageT) (va vb : Nat) (k : Nat) (v : V) (st : St) : Prop :=
  ∃ (i nv : Nat), k = 4 - i ∧ i ≤ 4 ∧ v = .int .i64 ((i : Nat) : Int) ∧ st = ⟨[some (va, .mem 6 (out.map cPage)), some (vb, .mem 6 [ctAt p i])], nv⟩
set_option maxHeartbeats 4000000 in
theorem Pages_G (h : PgsR P) (l : List PageT) {K : V → St → Prop} (hk : ∀ va nv M, GhostV [.msl 0 va 0 (pagesL l).length] ⟨[some (va, .mem 6 ((pagesL l).map cPage))] ++ M, nv⟩ fun vs st => K (mkres vs) st) :
    ACalls P n_gazetteerlaw12_pages [.sl .unk 6 (l.map cPage) []] st0 K := by
  refine A_gazetteerlaw12_pages h.pages ?_
  unfold F_gazetteerlaw12_pages
  simp [st0]
  have fin : ∀ {out : List PageT} {va nv : Nat} {M : List (Option (Nat × Obj))}, out = pagesL l → GhostV [.msl 0 va 0 out.length] ⟨[some (va, .mem 6 (out.map cPage))] ++ M, nv⟩ fun vs st => K (mkres vs) st := by
    rintro out va nv M rfl
    exact hk va nv M
  refine ⟨PgI l, ⟨l.length, GhostV.nilr 6 (by decide) ⟨0, 0, 1, [], by simp, by simp, by simp, by simp, by simp, by simp, by simp⟩⟩, ?_⟩
  rintro k1 v3 v10 st ⟨i, va, nv, out, rfl, hi, hi33, hout, rfl, rfl, rfl⟩
  by_cases hlt : i < l.length
  · by_cases h33 : (i : Int) = 33
    · simp [hlt, eq_true h33]
      exact fin (M := [_]) (by rw [hout, show i = 33 by omega]; rfl)
    · simp [hlt, h33]
      have hol : out.length = i := by rw [hout]; simp; omega
      refine ⟨PgJ l[i] out va nv, ⟨4, GhostV.refl ⟨0, _, by simp, by simp, by simp, by simp; rfl⟩⟩, ?_⟩
      rintro k2 v19 st ⟨j, nv2, rfl, hj, rfl, rfl⟩
      rcases (by omega : j = 0 ∨ j = 1 ∨ j = 2 ∨ j = 3 ∨ j = 4) with rfl | rfl | rfl | rfl | rfl
      · simp
        rw [min53, Int.toNat_natCast, take53]
        refine ⟨by omega, ?_⟩
        simp [offV]
        exact ⟨3, by omega, GhostV.refl ⟨1, _, rfl, by omega, by rw [wrap_i64 (by omega)]; rfl, by simp; rfl⟩⟩
      · simp
        rw [min53, Int.toNat_natCast, take53]
        refine ⟨by omega, ?_⟩
        simp [offV]
        exact ⟨2, by omega, GhostV.refl ⟨2, _, rfl, by omega, by rw [wrap_i64 (by omega)]; rfl, by simp; rfl⟩⟩
      · simp
        rw [min53, Int.toNat_natCast, take53]
        refine ⟨by omega, ?_⟩
        simp [offV]
        exact ⟨1, by omega, GhostV.refl ⟨3, _, rfl, by omega, by rw [wrap_i64 (by omega)]; rfl, by simp; rfl⟩⟩
      · simp
        rw [min53, Int.toNat_natCast, take53]
        refine ⟨by omega, ?_⟩
        simp [offV]
        exact GhostV.refl ⟨4, _, rfl, by omega, by rw [wrap_i64 (by omega)]; rfl, by simp; rfl⟩
      · simp
        refine inv_p (Copy_P h (cutP l[i]) (cutP_short _) (if l[i].s0 = [] then .unk else .nn, (l[i].s0.map c8).drop (min l[i].s0.length 53)) (if l[i].s1 = [] then .unk else .nn, (l[i].s1.map c8).drop (min l[i].s1.length 53))
          (if l[i].s2 = [] then .unk else .nn, (l[i].s2.map c8).drop (min l[i].s2.length 53)) (if l[i].s3 = [] then .unk else .nn, (l[i].s3.map c8).drop (min l[i].s3.length 53)) (p_drop8 _ _) (p_drop8 _ _) (p_drop8 _ _) (p_drop8 _ _)) (by simp [cutP, List.map_take]) (by simp [pureL, V.pure, p_drop8]) ?_
        rintro _ rfl
        simp
        have e : out.map cPage ++ [[V.int IntKind.i64 (cutP l[i]).num, V.int IntKind.u64 ((cutP l[i]).lsn : Nat), vB (cutP l[i]).s0, vB (cutP l[i]).s1, vB (cutP l[i]).s2, vB (cutP l[i]).s3]] = (out ++ [cutP l[i]]).map cPage := by
          rw [List.map_append]; rfl
        rw [e]
        exact ⟨by omega, l.length - (i + 1), by omega, GhostV.keep (L := [_]) ⟨i + 1, _, _, out ++ [cutP l[i]], rfl, by omega, by omega, by rw [take_snoc hlt, List.map_append, ← hout]; rfl, by simp, by rw [wadd1 (by omega)], rfl⟩⟩
  · simp [hlt]
    exact fin (M := []) (by rw [hout]; unfold pagesL; rw [List.take_of_length_le (by omega), List.take_of_length_le (by omega)])
theorem pagesL_len {l : List PageT} : (pagesL l).length ≤ 33 := by
  unfold pagesL; simp; omega
theorem Pages_R (h : PgsR P) (l : List PageT) : PCalls P n_gazetteerlaw12_pages [.sl .unk 6 (l.map cPage) []] (fun v => v = .sl .unk 6 ((pagesL l).map cPage) []) := by
  refine Pages_G h l fun va nv M => ?_
  refine GhostV.rowk (L := []) (M := [some (va, .mem 6 ((pagesL l).map cPage))] ++ M) (id := 0) (ver := va) (off := 0) (len := (pagesL l).length) (sz := 6) (es := (pagesL l).map cPage) (by simp) (by simp) (by simp) ?_
  rw [List.drop_zero, take_map_len]
  exact ⟨by simp [V.pure, pureL, pureLL], by simp⟩
end Go.Proofs.Ytmbhgjekjpkigaa.AM

namespace Go.Proofs.Ytmbhgjekjpkigaa.AM
open Go
set_option linter.unusedVariables false
set_option linter.unusedSimpArgs false

def succU (n : Nat) : Nat := if n + 1 = 2 ^ 64 then 0 else n + 1

/-! ### which one comes first -/
theorem befO_zn {x y : OpenT} (hx : x.next = 0) (hy : y.next ≠ 0) : befO x y < 0 ∧ ¬ befO y x < 0 := by
  have h : min y.next 1 = 1 := by omega
  unfold befO
  rw [if_pos (.inl hx), if_pos (.inr hx), hx, h]
  simp [orI, cmpN]
theorem befO_zz {x y : OpenT} (hx : x.next = 0) (hy : y.next = 0) (h : x.txn < y.txn) : befO x y < 0 ∧ ¬ befO y x < 0 := by
  unfold befO
  rw [if_pos (.inl hx), if_pos (.inr hx), hx, hy]
  have : ¬ y.txn < x.txn := by omega
  simp [orI, cmpN, h, this]
theorem befO_nn {x y : OpenT} (hx : x.next ≠ 0) (hy : y.next ≠ 0) (h : y.next < x.next) : befO x y < 0 ∧ ¬ befO y x < 0 := by
  unfold befO
  have : ¬ x.next < y.next := by omega
  rw [if_neg (by omega), if_neg (by omega)]
  simp [cmpN, h, this]
/-- The first of some transactions. -/
def Fst (ts : List Nat) (b : Nat → OpenT) (t : Nat) : Prop :=
  t ∈ ts ∧ (((b t).next = 0 ∧ ∀ u ∈ ts, (b u).next = 0 → t ≤ u) ∨ ((b t).next ≠ 0 ∧ ∀ u ∈ ts, (b u).next ≠ 0 ∧ (u ≠ t → (b u).next < (b t).next)))
/-! ### steps -/
/-! ### that they end -/
def Lok (l : List RecT) : Prop := ∀ r ∈ l, recOk r = true
theorem Lok.lt {l : List RecT} (h : Lok l) {r : RecT} (hr : r ∈ l) : r.back < r.lsn ∧ r.next ≤ r.back := by
  have := h r hr
  simp only [recOk, decide_eq_true_eq] at this
  omega
theorem undoS_inl {l : List RecT} {s s' : US} (h : undoS l s = .inl s') :
    ((minO s.left).next = 0 ∧ s'.left = s.left.eraseIdx (s.left.idxOf (minO s.left)) ∧ s.next ≠ 0) ∨
    ((minO s.left).next ≠ 0 ∧ ∃ r y, recAt l (minO s.left).next = some r ∧ r.txn = (minO s.left).txn ∧ chgR r = true ∧ s'.left = s.left.set (s.left.idxOf (minO s.left)) y ∧ (y.next = r.next ∨ y.next = r.back) ∧ (s'.next = s.next ∨ s.next ≠ 0)) := by
  have emit : ∀ {L m}, emitU s L m = .inl s' → s'.left = L ∧ s.next ≠ 0 := by
    intro L m h
    unfold emitU at h
    split at h
    · cases h
    · rename_i hq
      simp only [Sum.inl.injEq] at h
      subst h
      exact ⟨rfl, fun q => hq (.inr q)⟩
  unfold undoS at h
  dsimp only at h
  split at h
  · rename_i h0
    exact .inl ⟨h0, emit h⟩
  · rename_i h0
    refine .inr ⟨h0, ?_⟩
    split at h
    · cases h
    · rename_i r hr
      split at h
      · cases h
      · rename_i hq
        have h1 : r.txn = (minO s.left).txn := Classical.byContradiction fun q => hq (.inl q)
        have h2 : chgR r = true := by
          cases e : chgR r
          · exact absurd (.inr e) hq
          · rfl
        split at h
        · simp only [Sum.inl.injEq] at h
          subst h
          exact ⟨r, _, hr, h1, h2, rfl, .inl rfl, .inl rfl⟩
        · exact ⟨r, _, hr, h1, h2, (emit h).1, .inr rfl, .inr (emit h).2⟩
theorem minO_in {L : List OpenT} (h : L ≠ []) : minO L ∈ L := by
  have key : ∀ (l : List OpenT) (m : OpenT), l.foldl (fun m y => if befO y m < 0 then y else m) m = m ∨ l.foldl (fun m y => if befO y m < 0 then y else m) m ∈ l := by
    intro l
    induction l with
    | nil => intro m; exact .inl rfl
    | cons y l ih =>
      intro m
      rw [List.foldl_cons]
      rcases ih (if befO y m < 0 then y else m) with h | h
      · rw [h]
        split
        · exact .inr (.head _)
        · exact .inl rfl
      · exact .inr (.tail _ h)
  cases L with
  | nil => exact absurd rfl h
  | cons a L =>
    rcases key L a with h | h
    · show (L.foldl _ a) ∈ _
      rw [h]; exact .head _
    · exact .tail _ h
theorem idx_min {L : List OpenT} (h : L ≠ []) : ∃ hi : L.idxOf (minO L) < L.length, L[L.idxOf (minO L)] = minO L :=
  ⟨List.idxOf_lt_length_iff.2 (minO_in h), List.getElem_idxOf _⟩
inductive Ends (l : List RecT) : US → List RecT → Prop
  | done {s : US} (h : s.left = []) : Ends l s s.out
  | step {s s' : US} {o : List RecT} (h : s.left ≠ []) (h1 : undoS l s = .inl s') (h2 : Ends l s' o) : Ends l s o
def GoodL (l : List RecT) (L : List OpenT) : Prop := ∀ x ∈ L, x.next = 0 ∨ ∃ r, recAt l x.next = some r ∧ r.txn = x.txn ∧ chgR r = true
theorem Ends.good {l : List RecT} {s : US} {o : List RecT} (h : Ends l s o) : GoodL l s.left := by
  induction h with
  | done h => rw [h]; intro x hx; cases hx
  | @step s s' o h h1 h2 ih =>
    intro z hz
    obtain ⟨hi, he⟩ := idx_min h
    by_cases e : z = minO s.left
    · subst e
      rcases undoS_inl h1 with ⟨h0, _⟩ | ⟨h0, r, y, hr, ht, hc, _⟩
      · exact .inl h0
      · exact .inr ⟨r, hr, ht, hc⟩
    · refine ih z ?_
      obtain ⟨j, hj, rfl⟩ := List.getElem_of_mem hz
      have hji : j ≠ s.left.idxOf (minO s.left) := fun q => e (by subst q; exact he)
      rcases undoS_inl h1 with ⟨_, h3, _⟩ | ⟨_, r, y, _, _, _, h3, _⟩
      · rw [h3, List.mem_eraseIdx_iff_getElem?]
        exact ⟨j, hji, List.getElem?_eq_getElem hj⟩
      · rw [h3]
        refine List.mem_iff_getElem?.2 ⟨j, ?_⟩
        rw [List.getElem?_set_ne hji.symm, List.getElem?_eq_getElem hj]
theorem Ends.next {l : List RecT} {s : US} {o : List RecT} (h : Ends l s o) (hne : s.left ≠ []) : s.next ≠ 0 := by
  induction h with
  | done h => exact absurd h hne
  | @step s s' o h h1 h2 ih =>
    rcases undoS_inl h1 with ⟨_, _, h3⟩ | ⟨_, r, y, _, _, _, h3, _, h4⟩
    · exact h3
    · rcases h4 with h4 | h4
      · rw [← h4]
        refine ih ?_
        rw [h3]
        simpa using h
      · exact h4
end Go.Proofs.Ytmbhgjekjpkigaa.AM

namespace Go.Proofs.Ytmbhgjekjpkigaa.AM
open Go
set_option linter.unusedVariables false
set_option linter.unusedSimpArgs false

/-- One skip of a record that undid. -/
def Skip (l : List RecT) (x y : OpenT) : Prop := x.next ≠ 0 ∧ ∃ r, recAt l x.next = some r ∧ r.txn = x.txn ∧ r.kind = 2 ∧ y = ⟨x.txn, x.last, r.next⟩
inductive Skips (l : List RecT) (c : Nat) : OpenT → OpenT → Prop
  | refl (x : OpenT) : Skips l c x x
  | step {x y z : OpenT} (h : Skip l x y) (hc : c ≤ x.next) (h2 : Skips l c y z) : Skips l c x z
theorem Skips.snoc {l : List RecT} {c : Nat} {x y z : OpenT} (h : Skips l c x y) (h1 : Skip l y z) (hc : c ≤ y.next) : Skips l c x z := by
  induction h with
  | refl x => exact .step h1 hc (.refl _)
  | step h hc' _ ih => exact .step h hc' (ih h1 hc)
theorem Skips.mono {l : List RecT} {c c' : Nat} {x y : OpenT} (h : Skips l c x y) (hc : c' ≤ c) : Skips l c' x y := by
  induction h with
  | refl x => exact .refl _
  | step h hc' _ ih => exact .step h (by omega) ih
theorem Skip.lt {l : List RecT} (hl : Lok l) {x y : OpenT} (h : Skip l x y) : y.next < x.next ∧ y.txn = x.txn ∧ y.last = x.last := by
  obtain ⟨h0, r, hr, ht, hk, rfl⟩ := h
  obtain ⟨q1, q2⟩ := recAt_mem hr
  have := hl.lt q1
  exact ⟨by show r.next < x.next; omega, rfl, rfl⟩
theorem Skips.le {l : List RecT} (hl : Lok l) {c : Nat} {x y : OpenT} (h : Skips l c x y) : y.next ≤ x.next ∧ y.txn = x.txn ∧ y.last = x.last := by
  induction h with
  | refl x => exact ⟨Nat.le_refl _, rfl, rfl⟩
  | step h hc' _ ih =>
    have := h.lt hl
    exact ⟨by omega, ih.2.1.trans this.2.1, ih.2.2.trans this.2.2⟩
theorem Skips.zero {l : List RecT} {c : Nat} {x y : OpenT} (h : Skips l c x y) (h0 : x.next = 0) : y = x := by
  cases h with
  | refl x => rfl
  | step h _ _ => exact absurd h0 h.1
theorem Skip.good {l : List RecT} {x y : OpenT} (h : Skip l x y) : ∃ r, recAt l x.next = some r ∧ r.txn = x.txn ∧ chgR r = true := by
  obtain ⟨h0, r, hr, ht, hk, rfl⟩ := h
  exact ⟨r, hr, ht, by simp [chgR, hk]⟩
theorem emitU_mk {s : US} {L : List OpenT} {m : RecT} (h1 : s.out.length ≠ 64) (h2 : s.next ≠ 0) : emitU s L m = .inl ⟨succU s.next, L, s.out ++ [m]⟩ := by
  unfold emitU
  rw [if_neg (by omega)]; rfl

end Go.Proofs.Ytmbhgjekjpkigaa.AM

namespace Go.Proofs.Ytmbhgjekjpkigaa.AM
open Go
set_option linter.unusedVariables false
set_option linter.unusedSimpArgs false

def openT (L : List RecT) : List Nat := (txnsL L).filter fun t => !overT L t
theorem openL_eq (L : List RecT) : openL L = (openT L).map (openOf L) := rfl
theorem openT_rise (L : List RecT) : (openT L).Pairwise (· < ·) := (txnsL_rise L).filter _
theorem openOf_add (L : List RecT) (m : RecT) (t : Nat) : openOf (L ++ [m]) t = if m.txn = t then ⟨t, m.lsn, nextOf m⟩ else openOf L t := by
  unfold openOf; rw [List.foldl_append]; rfl
theorem overT_add (L : List RecT) (m : RecT) (t : Nat) : overT (L ++ [m]) t = (overT L t || decide (m.txn = t) && !chgR m) := by
  unfold overT; rw [List.any_append]; simp
theorem lastLsn_add (L : List RecT) (m : RecT) : lastLsn (L ++ [m]) = m.lsn := by simp [lastLsn]
theorem openOf_inv (t : Nat) (Q : OpenT → Prop) : ∀ (L : List RecT) (a : OpenT), Q a → (∀ r ∈ L, r.txn = t → Q ⟨t, r.lsn, nextOf r⟩) → Q (L.foldl (fun a r => if r.txn = t then ⟨t, r.lsn, nextOf r⟩ else a) a)
  | [], a, h, _ => h
  | r :: L, a, h, hq => by
    rw [List.foldl_cons]
    refine openOf_inv t Q L _ ?_ (fun q hq' => hq q (.tail _ hq'))
    split
    · rename_i e; exact hq r (.head _) e
    · exact h
theorem openOf_le {L : List RecT} (hl : Lok L) (t : Nat) : (openOf L t).next ≤ (openOf L t).last := by
  refine openOf_inv t (fun x => x.next ≤ x.last) L ⟨t, 0, 0⟩ (Nat.le_refl _) (fun r hr _ => ?_)
  have := hl.lt hr
  show nextOf r ≤ r.lsn
  unfold nextOf
  split <;> omega
theorem openOf_last (L : List RecT) (t : Nat) : (openOf L t).last = lastOf L t := by
  unfold openOf lastOf
  have key : ∀ (L : List RecT) (a : OpenT) (n : Nat), a.last = n → (L.foldl (fun a r => if r.txn = t then (⟨t, r.lsn, nextOf r⟩ : OpenT) else a) a).last = L.foldl (fun a r => if r.txn = t then r.lsn else a) n := by
    intro L
    induction L with
    | nil => intro a n h; exact h
    | cons r L ih =>
      intro a n h
      rw [List.foldl_cons, List.foldl_cons]
      refine ih _ _ ?_
      split
      · rfl
      · exact h
  exact key L _ _ rfl
theorem mem_openT {L : List RecT} {t : Nat} : t ∈ openT L ↔ (∃ r ∈ L, r.txn = t) ∧ overT L t = false := by
  unfold openT
  rw [List.mem_filter, mem_txnsL]
  simp
theorem txnsL_add {L : List RecT} {m : RecT} (h : ∃ r ∈ L, r.txn = m.txn) : txnsL (L ++ [m]) = txnsL L := by
  refine rise_ext (txnsL_rise _) (txnsL_rise _) (fun x => ?_)
  rw [mem_txnsL, mem_txnsL]
  constructor
  · rintro ⟨r, hr, rfl⟩
    rcases List.mem_append.1 hr with h1 | h1
    · exact ⟨r, h1, rfl⟩
    · obtain rfl := List.mem_singleton.1 h1
      exact h
  · rintro ⟨r, hr, rfl⟩
    exact ⟨r, List.mem_append.2 (.inl hr), rfl⟩
theorem openT_end {L : List RecT} {m : RecT} (h : m.txn ∈ openT L) (hc : chgR m = false) : openT (L ++ [m]) = (openT L).filter fun u => decide (u ≠ m.txn) := by
  unfold openT
  rw [txnsL_add (mem_openT.1 h).1, List.filter_filter]
  congr 1
  funext t
  rw [overT_add, hc]
  by_cases e : m.txn = t
  · subst e; simp
  · have : ¬ t = m.txn := fun q => e q.symm
    simp [e, this]

/-! ### rows in order -/
theorem rowOk_Lok {L : List RecT} (h : rowOk L = true) : Lok L := by
  intro r hr
  obtain ⟨i, hi, rfl⟩ := List.getElem_of_mem hr
  have := rowOk_iff.1 h i hi
  rw [okAt_eq hi] at this
  simp only [okB, Bool.and_eq_true] at this
  exact this.1.1
theorem rowOk_lsn {L : List RecT} (h : rowOk L = true) : ∀ (i : Nat) (hi : i < L.length), L[i].lsn = L[0].lsn + i
  | 0, hi => rfl
  | i + 1, hi => by
    have h1 := rowOk_iff.1 h (i + 1) hi
    rw [okAt_eq hi] at h1
    simp only [okB, Bool.and_eq_true] at h1
    have h2 := h1.1.2
    simp [List.getElem?_eq_getElem (show i < L.length by omega)] at h2
    rw [h2, rowOk_lsn h i (by omega)]; omega
theorem rowOk_last {L : List RecT} (h : rowOk L = true) {r : RecT} (hr : r ∈ L) : r.lsn ≤ lastLsn L := by
  obtain ⟨i, hi, rfl⟩ := List.getElem_of_mem hr
  rw [lastLsn_get (by omega), rowOk_lsn h i hi, rowOk_lsn h (L.length - 1) (by omega)]
  omega
theorem rowOk_uniq {L : List RecT} (h : rowOk L = true) {q r : RecT} (hq : q ∈ L) (hr : r ∈ L) (e : q.lsn = r.lsn) : q = r := by
  obtain ⟨i, hi, rfl⟩ := List.getElem_of_mem hq
  obtain ⟨j, hj, rfl⟩ := List.getElem_of_mem hr
  rw [rowOk_lsn h i hi, rowOk_lsn h j hj] at e
  have : i = j := by omega
  subst this; rfl
theorem recAt_of {n : Nat} {r : RecT} (hn : r.lsn = n) : ∀ (L : List RecT) (a : Option RecT), (∀ q ∈ L, q.lsn = n → q = r) → (r ∈ L ∨ a = some r) → L.foldl (fun a r => if r.lsn = n then some r else a) a = some r
  | [], a, _, h => by
    rcases h with h | h
    · cases h
    · exact h
  | q :: L, a, hu, h => by
    rw [List.foldl_cons]
    refine recAt_of hn L _ (fun p hp => hu p (.tail _ hp)) ?_
    by_cases e : q.lsn = n
    · rw [if_pos e]; exact .inr (by rw [hu q (.head _) e])
    · rw [if_neg e]
      rcases h with h | h
      · rcases List.mem_cons.1 h with h | h
        · exact absurd (h ▸ hn) e
        · exact .inl h
      · exact .inr h
theorem rowOk_recAt {L : List RecT} (h : rowOk L = true) {r : RecT} (hr : r ∈ L) : recAt L r.lsn = some r :=
  recAt_of rfl L none (fun q hq e => rowOk_uniq h hq hr e) (.inl hr)
theorem lastOf_mem {t : Nat} : ∀ (L : List RecT) (n : Nat), ((∃ r ∈ L, r.txn = t) → ∃ r ∈ L, r.txn = t ∧ r.lsn = L.foldl (fun a r => if r.txn = t then r.lsn else a) n) ∧ ((∀ r ∈ L, r.txn ≠ t) → L.foldl (fun a r => if r.txn = t then r.lsn else a) n = n)
  | [], n => ⟨(fun ⟨r, hr, _⟩ => by cases hr), fun _ => rfl⟩
  | q :: L, n => by
    rw [List.foldl_cons]
    obtain ⟨i1, i2⟩ := lastOf_mem (t := t) L (if q.txn = t then q.lsn else n)
    refine ⟨fun ⟨r, hr, ht⟩ => ?_, fun h => ?_⟩
    · by_cases hL : ∃ r ∈ L, r.txn = t
      · obtain ⟨r', a1, a2, a3⟩ := i1 hL
        exact ⟨r', .tail _ a1, a2, a3⟩
      · have hL' : ∀ r ∈ L, r.txn ≠ t := fun r hr e => hL ⟨r, hr, e⟩
        rw [i2 hL']
        rcases List.mem_cons.1 hr with h | h
        · subst h
          exact ⟨r, .head _, ht, by rw [if_pos ht]⟩
        · exact absurd ht (hL' r h)
    · rw [i2 (fun r hr => h r (.tail _ hr)), if_neg (h q (.head _))]
theorem lastOf_in {L : List RecT} {t : Nat} (h : ∃ r ∈ L, r.txn = t) : ∃ r ∈ L, r.txn = t ∧ r.lsn = lastOf L t := (lastOf_mem L 0).1 h
/-- Those that are open, as the log tells, are right. -/
theorem rightO_open {L : List RecT} (h : rowOk L = true) : rightO L (openL L) = true := by
  unfold rightO rightTo
  rw [List.all_eq_true]
  intro i hi
  rw [List.mem_range] at hi
  unfold rightI
  rw [List.getElem?_eq_getElem hi]
  rw [openL_eq, List.length_map] at hi
  simp only [openL_eq, List.getElem_map]
  have hm : (openT L)[i] ∈ openT L := List.getElem_mem _
  obtain ⟨r, hr, ht, hl⟩ := lastOf_in (mem_openT.1 hm).1
  unfold rightAt
  rw [openOf_last, ← hl, rowOk_recAt h hr]
  have h1 := openOf_le (rowOk_Lok h) (openT L)[i]
  rw [openOf_last, ← hl] at h1
  simp only [openOf_txn, ht, Bool.and_eq_true, decide_eq_true_eq]
  refine ⟨⟨trivial, h1⟩, ?_⟩
  by_cases h0 : i = 0
  · simp [h0]
  · have hlt := List.pairwise_iff_getElem.1 (openT_rise L) (i - 1) i (by omega) hi (by omega)
    simp [h0, List.getElem?_eq_getElem (show i - 1 < (openT L).length by omega), openOf_txn, hlt]
theorem rowOk_snoc {L : List RecT} {m : RecT} (h : rowOk L = true) (hne : L ≠ []) (hm : recOk m = true) (h1 : m.lsn = lastLsn L + 1) (h2 : lastOf L m.txn = m.back) : rowOk (L ++ [m]) = true := by
  rw [rowOk_iff]
  intro i hi
  have hp : 0 < L.length := List.length_pos_iff.2 hne
  have hh : headLsn (L ++ [m]) = headLsn L := by
    cases L with
    | nil => exact absurd rfl hne
    | cons a L => rfl
  rw [okAt_eq hi]
  by_cases e : i < L.length
  · have := rowOk_iff.1 h i e
    rw [okAt_eq e] at this
    unfold okB at this ⊢
    rw [List.getElem_append_left e, hh, List.take_append_of_le_length (by omega)]
    by_cases h0 : i = 0
    · subst h0; exact this
    · rw [List.getElem?_append_left (by omega)]; exact this
  · have hi' : i = L.length := by simp at hi; omega
    subst hi'
    unfold okB
    rw [List.getElem_append_right (Nat.le_refl _)]
    simp only [Nat.sub_self, List.getElem_cons_zero, hm, Bool.true_and]
    rw [List.take_append_of_le_length (Nat.le_refl _), List.take_length, h2, List.getElem?_append_left (by omega), List.getElem?_eq_getElem (by omega)]
    rw [lastLsn_get hp] at h1
    simp [h1]
end Go.Proofs.Ytmbhgjekjpkigaa.AM

namespace Go.Proofs.Ytmbhgjekjpkigaa.AM
open Go
set_option linter.unusedVariables false
set_option linter.unusedSimpArgs false

structure UInv (l : List RecT) (s : US) (b : Nat → OpenT) (c : Nat) : Prop where
  left : s.left = (openT (l ++ s.out)).map b
  txn : ∀ u ∈ openT (l ++ s.out), (b u).txn = u
  lt : ∀ u ∈ openT (l ++ s.out), (b u).next < c
  sk : ∀ u ∈ openT (l ++ s.out), Skips l c (openOf (l ++ s.out) u) (b u)
  row : rowOk (l ++ s.out) = true
  nx : s.next = succU (lastLsn (l ++ s.out))
  lsn : ∀ m ∈ s.out, lastLsn l < m.lsn
  up : lastLsn l ≤ lastLsn (l ++ s.out)
  w : lastLsn (l ++ s.out) < 2 ^ 64
  len : s.out.length ≤ 64
  pg : ∀ m ∈ s.out, chgR m = true → m.page ∈ chgPages l
  tx : ∀ m ∈ s.out, ∃ r ∈ l, r.txn = m.txn
def ZCut (l : List RecT) (s : US) (b : Nat → OpenT) : Prop := ∀ u ∈ openT (l ++ s.out), (b u).next = 0 → openOf (l ++ s.out) u = b u
def ZMid (l : List RecT) (s : US) (b : Nat → OpenT) : Prop := ZCut l s b ∨ ∃ i ∈ openT (l ++ s.out), (b i).next = 0 ∧ ∀ u ∈ openT (l ++ s.out), u ≠ i → (b u).next ≠ 0
theorem UInv.tx' {l : List RecT} {s : US} {b : Nat → OpenT} {c t : Nat} (h : UInv l s b c) (ht : t ∈ openT (l ++ s.out)) : ∃ r ∈ l, r.txn = t := by
  obtain ⟨⟨r, hr, rfl⟩, _⟩ := mem_openT.1 ht
  rcases List.mem_append.1 hr with h1 | h1
  · exact ⟨r, h1, rfl⟩
  · exact h.tx r h1
theorem succU_ne {n : Nat} (h : succU n ≠ 0) : succU n = n + 1 := by
  unfold succU at h ⊢
  split
  · rename_i e; rw [if_pos e] at h; exact absurd rfl h
  · rfl
theorem succU_lt {n : Nat} (h : n < 2 ^ 64) : succU n < 2 ^ 64 := by
  unfold succU
  split <;> omega
/-- What an emission needs. -/
theorem UInv.base {l : List RecT} {s : US} {b : Nat → OpenT} {c t : Nat} (h : UInv l s b c) (hl : Lok l) (ht : t ∈ openT (l ++ s.out)) (h0 : s.next ≠ 0) :
    l ++ s.out ≠ [] ∧ s.next = lastLsn (l ++ s.out) + 1 ∧ 0 < t ∧ (b t).last = lastOf (l ++ s.out) t ∧ (b t).last ≤ lastLsn (l ++ s.out) ∧ (b t).next ≤ (b t).last := by
  obtain ⟨⟨r, hr, hrt⟩, _⟩ := mem_openT.1 ht
  have hsk := (h.sk t ht).le hl
  have hok := rowOk_Lok h.row
  have hop := openOf_le hok t
  rw [openOf_last] at hsk hop
  obtain ⟨q, hq, hqt, hql⟩ := lastOf_in ⟨r, hr, hrt⟩
  have h1 := rowOk_last h.row hq
  have h2 := hok r hr
  simp only [recOk, decide_eq_true_eq] at h2
  refine ⟨(fun e => by rw [e] at hr; cases hr), ?_, by omega, hsk.2.2, by omega, by omega⟩
  have := h.nx
  rw [this] at h0
  rw [this, succU_ne h0]
theorem UInv.fin {l : List RecT} {s : US} {b : Nat → OpenT} {c t : Nat} (h : UInv l s b c) (hl : Lok l) (hf : Fst (openT (l ++ s.out)) b t) (hb0 : (b t).next = 0) (hz : ZMid l s b) (h0 : s.next ≠ 0) (h64 : s.out.length ≠ 64) :
    UInv l ⟨succU s.next, ((openT (l ++ s.out)).filter fun u => decide (u ≠ t)).map b, s.out ++ [endRec s (b t)]⟩ b c ∧ ZCut l ⟨succU s.next, ((openT (l ++ s.out)).filter fun u => decide (u ≠ t)).map b, s.out ++ [endRec s (b t)]⟩ b := by
  obtain ⟨e1, e2, e3, e4, e5, e6⟩ := h.base hl hf.1 h0
  have hbt := h.txn t hf.1
  have hmt : (endRec s (b t)).txn = t := hbt
  have hrow : rowOk (l ++ (s.out ++ [endRec s (b t)])) = true := by
    rw [← List.append_assoc]
    refine rowOk_snoc h.row e1 ?_ e2 ?_
    · simp only [recOk, decide_eq_true_eq, endRec, hbt]
      simp
      omega
    · rw [hmt, ← e4]; rfl
  have hT : openT (l ++ (s.out ++ [endRec s (b t)])) = (openT (l ++ s.out)).filter fun u => decide (u ≠ t) := by
    rw [← List.append_assoc, openT_end (by rw [hmt]; exact hf.1) (by simp [endRec, chgR]), hmt]
  have hO : ∀ u ∈ openT (l ++ (s.out ++ [endRec s (b t)])), u ∈ openT (l ++ s.out) ∧ u ≠ t ∧ openOf (l ++ (s.out ++ [endRec s (b t)])) u = openOf (l ++ s.out) u := by
    intro u hu
    rw [hT] at hu
    obtain ⟨h1, h2⟩ := List.mem_filter.1 hu
    have h2 : u ≠ t := by simpa using h2
    exact ⟨h1, h2, by rw [← List.append_assoc, openOf_add, if_neg (by rw [hmt]; exact fun q => h2 q.symm)]⟩
  have hlast : lastLsn (l ++ (s.out ++ [endRec s (b t)])) = s.next := by rw [← List.append_assoc, lastLsn_add]; rfl
  refine ⟨⟨by rw [hT], fun u hu => h.txn u (hO u hu).1, fun u hu => h.lt u (hO u hu).1, fun u hu => by rw [(hO u hu).2.2]; exact h.sk u (hO u hu).1, hrow, by rw [hlast], ?_, ?_, by rw [hlast, h.nx]; exact succU_lt h.w, ?_, ?_, ?_⟩, ?_⟩
  · intro m hm
    rcases List.mem_append.1 hm with h1 | h1
    · exact h.lsn m h1
    · obtain rfl := List.mem_singleton.1 h1
      have := h.up
      show lastLsn l < s.next
      omega
  · have := h.up
    rw [hlast]; omega
  · have := h.len
    simp only [List.length_append, List.length_singleton]; omega
  · intro m hm hc
    rcases List.mem_append.1 hm with h1 | h1
    · exact h.pg m h1 hc
    · obtain rfl := List.mem_singleton.1 h1
      simp [endRec, chgR] at hc
  · intro m hm
    rcases List.mem_append.1 hm with h1 | h1
    · exact h.tx m h1
    · obtain rfl := List.mem_singleton.1 h1
      rw [hmt]; exact h.tx' hf.1
  · intro u hu hq
    obtain ⟨a1, a2, a3⟩ := hO u hu
    rw [a3]
    rcases hz with hz | ⟨i, hi, hi0, hio⟩
    · exact hz u a1 hq
    · have : i = t := Classical.byContradiction fun q => hio t hf.1 (fun w => q w.symm) hb0
      subst this
      exact absurd hq (hio u a1 a2)
end Go.Proofs.Ytmbhgjekjpkigaa.AM

namespace Go.Proofs.Ytmbhgjekjpkigaa.AM
open Go
set_option linter.unusedVariables false
set_option linter.unusedSimpArgs false

theorem rowErr_zero {l : List RecT} : rowErr l = 0 ↔ l.length ≤ 64 ∧ rowOk l = true := by
  unfold rowErr
  split
  · constructor
    · intro h; cases h
    · intro h; omega
  · split
    · rename_i h1 h2; simp [h2]; omega
    · rename_i h1 h2; simp [h2]
theorem Ends.nil {l : List RecT} {nx : Nat} {o res : List RecT} (h : Ends l ⟨nx, [], o⟩ res) : res = o := by
  cases h with
  | done h => rfl
  | step h _ _ => exact absurd rfl h
end Go.Proofs.Ytmbhgjekjpkigaa.AM

namespace Go.Proofs.Ytmbhgjekjpkigaa.AM
open Go
set_option linter.unusedVariables false
set_option linter.unusedSimpArgs false
variable {P : Program}

structure CutR (P : Program) : Prop extends PgsR P where

theorem add1_succU {n : Nat} (h : n < 2 ^ 64) : IntKind.u64.wrap ((n : Int) + 1) = ((succU n : Nat) : Int) := by
  rw [u64add1 h]
  unfold succU
  split <;> simp
end Go.Proofs.Ytmbhgjekjpkigaa.AM

namespace Go.Proofs.Ytmbhgjekjpkigaa.AM
open Go
set_option linter.unusedVariables false
set_option linter.unusedSimpArgs false
variable {P : Program}

end Go.Proofs.Ytmbhgjekjpkigaa.AM

namespace Go.Proofs.Ytmbhgjekjpkigaa.AM
open Go
set_option linter.unusedVariables false
set_option linter.unusedSimpArgs false
variable {P : Program}

/-! ### plain -/
def step1 (p : PageT) (r : RecT) : PageT := if chgR r = true ∧ p.num = r.page ∧ p.lsn < r.lsn then setP p r else p
def again1 (p : PageT) (l : List RecT) : PageT := l.foldl step1 p
theorem redo1_map (ps : List PageT) (r : RecT) : redo1 ps r = ps.map fun p => step1 p r := by
  unfold redo1 step1
  cases chgR r
  · simp
  · simp
theorem againP_map (ps : List PageT) (l : List RecT) : againP ps l = ps.map fun p => again1 p l := by
  unfold againP again1
  induction l generalizing ps with
  | nil => simp
  | cons r l ih => rw [List.foldl_cons, ih, redo1_map, List.map_map]; rfl
end Go.Proofs.Ytmbhgjekjpkigaa.AM

namespace Go.Proofs.Ytmbhgjekjpkigaa.AM
open Go
set_option linter.unusedVariables false
set_option linter.unusedSimpArgs false
variable {P : Program}

structure AgaR (P : Program) : Prop extends PgsR P where

end Go.Proofs.Ytmbhgjekjpkigaa.AM

namespace Go.Proofs.Ytmbhgjekjpkigaa.AM
open Go
set_option linter.unusedVariables false
set_option linter.unusedSimpArgs false
variable {P : Program}

theorem SClone_D (h : PagR P) (b : List UInt8) (hl : b.length < 2 ^ 40) {L : List (Option (Nat × Obj))} {nv : Nat} {K : V → St → Prop} (hk : ∀ ver nv', K (.msl L.length ver 0 b.length) ⟨L ++ [some (ver, .mem 1 (b.map c8))], nv'⟩) :
    ACalls P n_slices_Clone_byte_byte [vB b] ⟨L, nv⟩ K := by
  refine A_slices_Clone_byte_byte h.sclone ?_
  unfold F_slices_Clone_byte_byte
  cases b with
  | nil =>
    simp [vB]
    exact ⟨GhostV.refl (by simpa using hk (nv + 1) (nv + 2)), GhostV.nilr 1 (by decide) (by simpa using hk nv (nv + 1))⟩
  | cons x b =>
    simp [vB]
    refine ⟨by simp at hl; omega, ?_⟩
    exact GhostV.refl (by simpa using hk (nv + 1) (nv + 2))
theorem BClone_O (h : PagR P) (b : List UInt8) (hl : b.length < 2 ^ 40) {L : List (Option (Nat × Obj))} {id ver0 nv : Nat} (ho : L[id]? = some (some (ver0, .mem 1 (b.map c8)))) {K : V → St → Prop} (hk : ∀ ver nv', K (.msl L.length ver 0 b.length) ⟨L ++ [some (ver, .mem 1 (b.map c8))], nv'⟩) :
    ACalls P n_bytes_Clone [.msl id ver0 0 b.length] ⟨L, nv⟩ K := by
  refine A_bytes_Clone h.bclone ?_
  unfold F_bytes_Clone
  have hid : id < L.length := (List.getElem?_eq_some_iff.1 ho).1
  cases b with
  | nil =>
    simp [ho]
    exact ⟨GhostV.refl (by simpa using hk (nv + 1) (nv + 2)), GhostV.nilr 1 (by decide) (by simpa using hk nv (nv + 1))⟩
  | cons x b =>
    simp [ho]
    refine ⟨by simp at hl; omega, ?_⟩
    exact GhostV.refl (by simpa using hk (nv + 1) (nv + 2))
/-- What an owned row of bytes holds. -/
def SlotIs (L : List (Option (Nat × Obj))) (v : V) (b : List UInt8) : Prop := ∃ id ver, v = .msl id ver 0 b.length ∧ L[id]? = some (some (ver, .mem 1 (b.map c8)))
def Ext (L A : List (Option (Nat × Obj))) : Prop := L.length ≤ A.length ∧ ∀ id, id < L.length → A[id]? = L[id]?
theorem Ext.refl (L : List (Option (Nat × Obj))) : Ext L L := ⟨Nat.le_refl _, fun _ _ => rfl⟩
theorem Ext.trans {L A B : List (Option (Nat × Obj))} (h : Ext L A) (k : Ext A B) : Ext L B := ⟨Nat.le_trans h.1 k.1, fun id hid => (k.2 id (Nat.lt_of_lt_of_le hid h.1)).trans (h.2 id hid)⟩
theorem Ext.app (L M : List (Option (Nat × Obj))) : Ext L (L ++ M) := ⟨by simp, fun id hid => List.getElem?_append_left hid⟩
theorem Ext.set {L A : List (Option (Nat × Obj))} (h : Ext L A) {i : Nat} (hi : L.length ≤ i) (x : Option (Nat × Obj)) : Ext L (A.set i x) := ⟨by simpa using h.1, fun id hid => by rw [List.getElem?_set_ne (by omega)]; exact h.2 id hid⟩
theorem SlotIs.ext {L A : List (Option (Nat × Obj))} {v : V} {b : List UInt8} (h : SlotIs L v b) (e : Ext L A) : SlotIs A v b := by
  obtain ⟨id, ver, h1, h2⟩ := h
  exact ⟨id, ver, h1, (e.2 id (List.getElem?_eq_some_iff.1 h2).1).trans h2⟩
theorem SlotIs.set {A : List (Option (Nat × Obj))} {v : V} {b : List UInt8} (h : SlotIs A v b) {i vi : Nat} {es : List (List V)} (hi : A[i]? = some (some (vi, .mem 6 es))) (x : Option (Nat × Obj)) : SlotIs (A.set i x) v b := by
  obtain ⟨id, ver, h1, h2⟩ := h
  refine ⟨id, ver, h1, ?_⟩
  rw [List.getElem?_set_ne (fun e => by subst e; rw [hi] at h2; simp at h2)]
  exact h2
theorem SlotIs.bor {L : List (Option (Nat × Obj))} {v : V} {b : List UInt8} (h : SlotIs L v b) (nv : Nat) : Bor ⟨L, nv⟩ v (vB b) := by
  obtain ⟨id, ver, rfl, h2⟩ := h
  exact Bor.rowG (sz := 1) (l := b) (c := c8) (rows := b.map c8) (fun _ => rfl) (by simp [St.get, h2]) (List.take_of_length_le (by simp)) (by simp)
abbrev dPage (p : PageT) (m0 m1 m2 m3 : V) : List V := [.int .i64 p.num, .int .u64 p.lsn, m0, m1, m2, m3]
theorem dPage_bor {L : List (Option (Nat × Obj))} {p : PageT} {m0 m1 m2 m3 : V} (h0 : SlotIs L m0 p.s0) (h1 : SlotIs L m1 p.s1) (h2 : SlotIs L m2 p.s2) (h3 : SlotIs L m3 p.s3) (nv : Nat) : Bor ⟨L, nv⟩ (.agg (dPage p m0 m1 m2 m3)) (.agg (cPage p)) :=
  .agg _ _ rfl (fun i hi => by
    match i, hi with
    | 0, _ => exact .refl _
    | 1, _ => exact .refl _
    | 2, _ => exact h0.bor nv
    | 3, _ => exact h1.bor nv
    | 4, _ => exact h2.bor nv
    | 5, _ => exact h3.bor nv)
def atC (p : PageT) (m0 m1 m2 m3 w0 w1 w2 w3 : V) (j : Nat) : List V := dPage p (if 0 < j then w0 else m0) (if 1 < j then w1 else m1) (if 2 < j then w2 else m2) (if 3 < j then w3 else m3)
def AtD (L : List (Option (Nat × Obj))) (nb : Nat) (p : PageT) (m0 m1 m2 m3 : V) (k : Nat) (v : V) (st : St) : Prop :=
  ∃ (j nv : Nat) (w0 w1 w2 w3 : V) (A : List (Option (Nat × Obj))), k = 4 - j ∧ j ≤ 4 ∧ v = .int .i64 ((j : Nat) : Int) ∧ Ext L A ∧ L.length + 1 < A.length ∧ A[L.length]? = some (some (nb, .mem 6 [atC p m0 m1 m2 m3 w0 w1 w2 w3 j])) ∧ A[L.length + 1]? = some (some (nb + 1, .mem 6 [zCells])) ∧
    (0 < j → SlotIs A w0 p.s0) ∧ (1 < j → SlotIs A w1 p.s1) ∧ (2 < j → SlotIs A w2 p.s2) ∧ (3 < j → SlotIs A w3 p.s3) ∧ st = ⟨A, nv⟩
theorem box_up {L A : List (Option (Nat × Obj))} {n nv : Nat} {es : List (List V)} (hn : L.length ≤ n) (hA : Ext L A) (hAl : n < A.length) (hb : A[n]? = some (some (nv, Obj.mem 6 es))) (X : List (List V)) (ver' : Nat) (b : List UInt8) :
    Ext L (A.set n (some (nv, Obj.mem 6 X)) ++ [some (ver', Obj.mem 1 (b.map c8))]) ∧ n < (A.set n (some (nv, Obj.mem 6 X)) ++ [some (ver', Obj.mem 1 (b.map c8))]).length ∧ (A.set n (some (nv, Obj.mem 6 X)) ++ [some (ver', Obj.mem 1 (b.map c8))])[n]? = some (some (nv, Obj.mem 6 X)) ∧
    SlotIs (A.set n (some (nv, Obj.mem 6 X)) ++ [some (ver', Obj.mem 1 (b.map c8))]) (.msl A.length ver' 0 b.length) b ∧ (∀ v c, SlotIs A v c → SlotIs (A.set n (some (nv, Obj.mem 6 X)) ++ [some (ver', Obj.mem 1 (b.map c8))]) v c) ∧
    ∀ i, i ≠ n → i < A.length → (A.set n (some (nv, Obj.mem 6 X)) ++ [some (ver', Obj.mem 1 (b.map c8))])[i]? = A[i]? := by
  have hl : (A.set n (some (nv, Obj.mem 6 X))).length = A.length := by simp
  refine ⟨(hA.set hn _).trans (Ext.app _ _), by simp; omega, ?_, ⟨A.length, ver', rfl, ?_⟩, fun v c h => (h.set hb _).ext (Ext.app _ _), fun i hi hil => ?_⟩
  · rw [List.getElem?_append_left (by omega), List.getElem?_set_self hAl]
  · rw [List.getElem?_append_right (by omega), hl, Nat.sub_self]; rfl
  · rw [List.getElem?_append_left (by omega), List.getElem?_set_ne (fun e => hi e.symm)]
set_option maxHeartbeats 4000000 in
theorem At_D (h : PagR P) (p : PageT) (hok : pageOk p = true) (i : Int) (hi : 0 ≤ i ∧ i < 4) {L : List (Option (Nat × Obj))} {m0 m1 m2 m3 : V} (h0 : SlotIs L m0 p.s0) (h1 : SlotIs L m1 p.s1) (h2 : SlotIs L m2 p.s2) (h3 : SlotIs L m3 p.s3) {nv : Nat} {K : V → St → Prop}
    (hk : ∀ w0 w1 w2 w3 A nv', Ext L A → SlotIs A w0 p.s0 → SlotIs A w1 p.s1 → SlotIs A w2 p.s2 → SlotIs A w3 p.s3 → K (.tup [.agg (dPage p w0 w1 w2 w3), .int .i64 0]) ⟨A, nv'⟩) :
    ACalls P n_page_at [.agg (dPage p m0 m1 m2 m3), .int .i64 i] ⟨L, nv⟩ K := by
  refine A_page_at h.pat ?_
  unfold F_page_at
  simp
  have hps := pageOk.short hok
  obtain ⟨hi0, hi4⟩ := hi
  have hx : ∀ M : List (Option (Nat × Obj)), Ext L (L ++ M) := Ext.app L
  refine inv_look (PCheck h p) (Bors.cons (dPage_bor (h0.ext (hx _)) (h1.ext (hx _)) (h2.ext (hx _)) (h3.ext (hx _)) _) Bors.nil) (by simp [pureL, V.pure, pureLL]) ?_
  rintro _ rfl
  refine ⟨rfl, ?_⟩
  have hni : ¬ i < 0 := by omega
  have hni4 : ¬ 4 ≤ i := by omega
  simp [hok, hni, hni4]
  refine ⟨AtD L nv p m0 m1 m2 m3, ⟨4, GhostV.refl ⟨0, _, .junk, .junk, .junk, .junk, _, by simp, by simp, by simp, hx _, by simp, by simp [atC], by simp, by simp, by simp, by simp, by simp, rfl⟩⟩, ?_⟩
  rintro k1 v st ⟨j, nv2, w0, w1, w2, w3, A, rfl, hj, rfl, hA, hAl, hb, hz, s0, s1, s2, s3, rfl⟩
  have hlA : ∀ x, (A ++ [x])[L.length]? = A[L.length]? := fun x => List.getElem?_append_left (by omega)
  have hlz : ∀ x, (A ++ [x])[L.length + 1]? = A[L.length + 1]? := fun x => List.getElem?_append_left (by omega)
  have up := fun X ver' b => box_up (L := L) (n := L.length) (nv := nv) (Nat.le_refl _) hA (by omega) hb X ver' b
  rcases (by omega : j = 0 ∨ j = 1 ∨ j = 2 ∨ j = 3 ∨ j = 4) with rfl | rfl | rfl | rfl | rfl
  · obtain ⟨id, ver, rfl, hid⟩ := h0
    have hidA : A[id]? = some (some (ver, .mem 1 (p.s0.map c8))) := (hA.2 id (List.getElem?_eq_some_iff.1 hid).1).trans hid
    simp [atC]
    refine inv_f0 (BClone_O h p.s0 hps.1 hidA (fun ver' nv' => ?_))
    simp [offV, hlA, hb, atC]
    obtain ⟨u1, u2, u3, u4, u5, u6⟩ := up [atC p (V.msl id ver 0 p.s0.length) m1 m2 m3 (V.msl A.length ver' 0 p.s0.length) V.junk V.junk V.junk 1] ver' p.s0
    exact ⟨3, by omega, GhostV.refl ⟨1, nv', (V.msl A.length ver' 0 p.s0.length), V.junk, V.junk, V.junk, _, rfl, by omega, by rw [wrap_i64 (by omega)]; rfl, u1, by simp; omega, u3, by rw [u6 _ (by omega) (by omega)]; exact hz, fun _ => u4, fun hq => absurd hq (by omega), fun hq => absurd hq (by omega), fun hq => absurd hq (by omega), rfl⟩⟩
  · obtain ⟨id, ver, rfl, hid⟩ := h1
    have hidA : A[id]? = some (some (ver, .mem 1 (p.s1.map c8))) := (hA.2 id (List.getElem?_eq_some_iff.1 hid).1).trans hid
    simp [atC]
    refine inv_f0 (BClone_O h p.s1 hps.2.1 hidA (fun ver' nv' => ?_))
    simp [offV, hlA, hb, atC]
    obtain ⟨u1, u2, u3, u4, u5, u6⟩ := up [atC p m0 (V.msl id ver 0 p.s1.length) m2 m3 w0 (V.msl A.length ver' 0 p.s1.length) V.junk V.junk 2] ver' p.s1
    exact ⟨2, by omega, GhostV.refl ⟨2, nv', w0, (V.msl A.length ver' 0 p.s1.length), V.junk, V.junk, _, rfl, by omega, by rw [wrap_i64 (by omega)]; rfl, u1, by simp; omega, u3, by rw [u6 _ (by omega) (by omega)]; exact hz, fun _ => u5 _ _ (s0 (by omega)), fun _ => u4, fun hq => absurd hq (by omega), fun hq => absurd hq (by omega), rfl⟩⟩
  · obtain ⟨id, ver, rfl, hid⟩ := h2
    have hidA : A[id]? = some (some (ver, .mem 1 (p.s2.map c8))) := (hA.2 id (List.getElem?_eq_some_iff.1 hid).1).trans hid
    simp [atC]
    refine inv_f0 (BClone_O h p.s2 hps.2.2.1 hidA (fun ver' nv' => ?_))
    simp [offV, hlA, hb, atC]
    obtain ⟨u1, u2, u3, u4, u5, u6⟩ := up [atC p m0 m1 (V.msl id ver 0 p.s2.length) m3 w0 w1 (V.msl A.length ver' 0 p.s2.length) V.junk 3] ver' p.s2
    exact ⟨1, by omega, GhostV.refl ⟨3, nv', w0, w1, (V.msl A.length ver' 0 p.s2.length), V.junk, _, rfl, by omega, by rw [wrap_i64 (by omega)]; rfl, u1, by simp; omega, u3, by rw [u6 _ (by omega) (by omega)]; exact hz, fun _ => u5 _ _ (s0 (by omega)), fun _ => u5 _ _ (s1 (by omega)), fun _ => u4, fun hq => absurd hq (by omega), rfl⟩⟩
  · obtain ⟨id, ver, rfl, hid⟩ := h3
    have hidA : A[id]? = some (some (ver, .mem 1 (p.s3.map c8))) := (hA.2 id (List.getElem?_eq_some_iff.1 hid).1).trans hid
    simp [atC]
    refine inv_f0 (BClone_O h p.s3 hps.2.2.2 hidA (fun ver' nv' => ?_))
    simp [offV, hlA, hb, atC]
    obtain ⟨u1, u2, u3, u4, u5, u6⟩ := up [atC p m0 m1 m2 (V.msl id ver 0 p.s3.length) w0 w1 w2 (V.msl A.length ver' 0 p.s3.length) 4] ver' p.s3
    exact GhostV.refl ⟨4, nv', w0, w1, w2, (V.msl A.length ver' 0 p.s3.length), _, rfl, by omega, by rw [wrap_i64 (by omega)]; rfl, u1, by simp; omega, u3, by rw [u6 _ (by omega) (by omega)]; exact hz, fun _ => u5 _ _ (s0 (by omega)), fun _ => u5 _ _ (s1 (by omega)), fun _ => u5 _ _ (s2 (by omega)), fun _ => u4, rfl⟩
  · have hgs : ∀ x, (A.set (L.length + 1) x)[L.length + 1]? = some x := fun x => List.getElem?_set_self hAl
    simp [hb, hz, atC, hgs]
    refine GhostV.refl ?_
    exact (hk w0 w1 w2 w3 (A.set (L.length + 1) (some (nv + 1, .mem 6 [dPage p w0 w1 w2 w3]))) nv2 (hA.set (by omega) _) ((s0 (by omega)).set hz _) ((s1 (by omega)).set hz _) ((s2 (by omega)).set hz _) ((s3 (by omega)).set hz _))
end Go.Proofs.Ytmbhgjekjpkigaa.AM

namespace Go.Proofs.Ytmbhgjekjpkigaa.AM
open Go
set_option linter.unusedVariables false
set_option linter.unusedSimpArgs false
variable {P : Program}

def DeepAt (A : List (Option (Nat × Obj))) (row : List V) (p : PageT) : Prop := ∃ m0 m1 m2 m3, row = dPage p m0 m1 m2 m3 ∧ SlotIs A m0 p.s0 ∧ SlotIs A m1 p.s1 ∧ SlotIs A m2 p.s2 ∧ SlotIs A m3 p.s3
theorem DeepAt.up {A B : List (Option (Nat × Obj))} {row : List V} {p : PageT} (h : DeepAt A row p) (hu : ∀ v b, SlotIs A v b → SlotIs B v b) : DeepAt B row p := by
  obtain ⟨m0, m1, m2, m3, rfl, h0, h1, h2, h3⟩ := h
  exact ⟨m0, m1, m2, m3, rfl, hu _ _ h0, hu _ _ h1, hu _ _ h2, hu _ _ h3⟩
/-- Rows of pages, the first i of which have slots of their own. -/
def MixI (A : List (Option (Nat × Obj))) (rows : List (List V)) (ps : List PageT) (i : Nat) : Prop :=
  rows.length = ps.length ∧ (∀ j (h : j < ps.length), j < i → ∃ row, rows[j]? = some row ∧ DeepAt A row ps[j]) ∧ ∀ j (h : j < ps.length), i ≤ j → rows[j]? = some (cPage ps[j])
def DeepIs (A : List (Option (Nat × Obj))) (rows : List (List V)) (ps : List PageT) : Prop := rows.length = ps.length ∧ ∀ j (h : j < ps.length), ∃ row, rows[j]? = some row ∧ DeepAt A row ps[j]
theorem DeepIs.bor {A : List (Option (Nat × Obj))} {rows : List (List V)} {ps : List PageT} (h : DeepIs A rows ps) {va nv : Nat} {id : Nat} (h0 : A[id]? = some (some (va, .mem 6 rows))) : Bor ⟨A, nv⟩ (.msl id va 0 ps.length) (.sl .unk 6 (ps.map cPage) []) := by
  refine .msl id va 0 ps.length 6 rows (ps.map cPage) (by simp [St.get, h0]) (by rw [h.1]; omega) (by simp) (fun i hi => by simp [List.getD, hi]) (fun i j hi hj => ?_)
  obtain ⟨row, hr, m0, m1, m2, m3, rfl, s0, s1, s2, s3⟩ := h.2 i hi
  have e1 : rows.getD (0 + i) [] = dPage ps[i] m0 m1 m2 m3 := by rw [Nat.zero_add, List.getD, hr]; rfl
  have e2 : (ps.map cPage).getD i [] = cPage ps[i] := by simp [List.getD, hi]
  rw [e1, e2]
  match j, hj with
  | 0, _ => exact .refl _
  | 1, _ => exact .refl _
  | 2, _ => exact s0.bor nv
  | 3, _ => exact s1.bor nv
  | 4, _ => exact s2.bor nv
  | 5, _ => exact s3.bor nv
end Go.Proofs.Ytmbhgjekjpkigaa.AM

namespace Go.Proofs.Ytmbhgjekjpkigaa.AM
open Go
set_option linter.unusedVariables false
set_option linter.unusedSimpArgs false
variable {P : Program}

/-! ### spoil -/
def ShUp (A B : List (Option (Nat × Obj))) : Prop := B[0]? = A[0]? ∧ ∀ m b, SlotIs A m b → ∃ b' : List UInt8, SlotIs B m b' ∧ b'.length = b.length
theorem ShUp.refl (A : List (Option (Nat × Obj))) : ShUp A A := ⟨rfl, fun m b h => ⟨b, h, rfl⟩⟩
theorem ShUp.trans {A B C : List (Option (Nat × Obj))} (h : ShUp A B) (k : ShUp B C) : ShUp A C := ⟨k.1.trans h.1, fun m b hm => by
  obtain ⟨b1, h1, l1⟩ := h.2 m b hm
  obtain ⟨b2, h2, l2⟩ := k.2 m b1 h1
  exact ⟨b2, h2, l2.trans l1⟩⟩
theorem ShUp.app (A M : List (Option (Nat × Obj))) (h : 0 < A.length) : ShUp A (A ++ M) := ⟨List.getElem?_append_left h, fun m b hm => ⟨b, hm.ext (Ext.app _ _), rfl⟩⟩
theorem ShUp.put {A : List (Option (Nat × Obj))} {va : Nat} {rows : List (List V)} (h0 : A[0]? = some (some (va, .mem 6 rows))) {id ver : Nat} {b b' : List UInt8} (ho : A[id]? = some (some (ver, .mem 1 (b.map c8)))) (hl : b'.length = b.length) : ShUp A (A.set id (some (ver, .mem 1 (b'.map c8)))) := by
  have hid : id ≠ 0 := fun e => by subst e; rw [h0] at ho; simp at ho
  refine ⟨List.getElem?_set_ne hid, fun m c hm => ?_⟩
  obtain ⟨id2, ver2, rfl, h2⟩ := hm
  by_cases e : id = id2
  · subst e
    rw [ho] at h2
    simp only [Option.some.injEq, Prod.mk.injEq, Obj.mem.injEq, true_and] at h2
    have hbc : b.length = c.length := by have := congrArg List.length h2.2; simpa using this
    refine ⟨b', ⟨id, ver, by rw [h2.1, ← hbc, hl], List.getElem?_set_self (List.getElem?_eq_some_iff.1 ho).1⟩, by omega⟩
  · exact ⟨c, ⟨id2, ver2, rfl, by rw [List.getElem?_set_ne e]; exact h2⟩, rfl⟩
def RowsSh (A : List (Option (Nat × Obj))) (rows : List (List V)) (n : Nat) : Prop :=
  rows.length = n ∧ ∀ j, j < n → ∃ (a b : Int) (m0 m1 m2 m3 : V) (b0 b1 b2 b3 : List UInt8), rows[j]? = some [.int .i64 a, .int .u64 b, m0, m1, m2, m3] ∧ SlotIs A m0 b0 ∧ SlotIs A m1 b1 ∧ SlotIs A m2 b2 ∧ SlotIs A m3 b3 ∧ b0.length ≤ 52 ∧ b1.length ≤ 52 ∧ b2.length ≤ 52 ∧ b3.length ≤ 52
theorem RowsSh.up {A B : List (Option (Nat × Obj))} {rows : List (List V)} {n : Nat} (h : RowsSh A rows n) (k : ShUp A B) : RowsSh B rows n := by
  refine ⟨h.1, fun j hj => ?_⟩
  obtain ⟨a, b, m0, m1, m2, m3, b0, b1, b2, b3, hr, s0, s1, s2, s3, l0, l1, l2, l3⟩ := h.2 j hj
  obtain ⟨c0, t0, e0⟩ := k.2 _ _ s0
  obtain ⟨c1, t1, e1⟩ := k.2 _ _ s1
  obtain ⟨c2, t2, e2⟩ := k.2 _ _ s2
  obtain ⟨c3, t3, e3⟩ := k.2 _ _ s3
  exact ⟨a, b, m0, m1, m2, m3, c0, c1, c2, c3, hr, t0, t1, t2, t3, by omega, by omega, by omega, by omega⟩
theorem DeepIs.sh {A : List (Option (Nat × Obj))} {rows : List (List V)} {ps : List PageT} (h : DeepIs A rows ps) (hok : ∀ p ∈ ps, pageOk p = true) : RowsSh A rows ps.length := by
  refine ⟨h.1, fun j hj => ?_⟩
  obtain ⟨row, hr, m0, m1, m2, m3, rfl, s0, s1, s2, s3⟩ := h.2 j hj
  have := hok ps[j] (List.getElem_mem hj)
  simp only [pageOk, decide_eq_true_eq] at this
  exact ⟨_, _, m0, m1, m2, m3, _, _, _, _, hr, s0, s1, s2, s3, by omega, by omega, by omega, by omega⟩
theorem xorB (x : UInt8) : ∃ y : UInt8, intBin .xor .u8 (x.toNat : Int) 238 = some (.int .u8 (y.toNat : Int)) := by
  obtain ⟨z, hz⟩ : ∃ z : Int, IntKind.u8.wrap ((BitVec.ofInt IntKind.u8.bits (x.toNat : Int) ^^^ BitVec.ofInt IntKind.u8.bits 238).toNat : Int) = z := ⟨_, rfl⟩
  have hr : 0 ≤ z ∧ z < 256 := by
    rw [← hz]
    simp only [IntKind.wrap, IntKind.bits, IntKind.signed]
    simp
    omega
  refine ⟨UInt8.ofNat z.toNat, ?_⟩
  have he : ((UInt8.ofNat z.toNat).toNat : Int) = z := by
    rw [UInt8.toNat_ofNat']
    omega
  rw [he, ← hz]
  rfl
structure SpoR (P : Program) : Prop where
  spoil : R_gazetteerlaw12_spoil P
end Go.Proofs.Ytmbhgjekjpkigaa.AM

namespace Go.Proofs.Ytmbhgjekjpkigaa.AM
open Go
set_option linter.unusedVariables false
set_option linter.unusedSimpArgs false
variable {P : Program}

structure DoeR (P : Program) : Prop extends PgsR P, SpoR P where
  rsame6 : R_gazetteerref06_Same P
  rsamep : R_gazetteerref12_SamePages P
  rredo12 : R_gazetteerref12_Redo P
  rtog : R_gazetteerref12_Together P

/-! ### pages that are the same -/
def S6I (p q : PageT) (k : Nat) (v : V) (st : St) : Prop :=
  ∃ i nv, k = 4 - i ∧ i ≤ 4 ∧ v = .int .i64 ((i : Nat) : Int) ∧ (0 < i → p.s0 = q.s0) ∧ (1 < i → p.s1 = q.s1) ∧ (2 < i → p.s2 = q.s2) ∧ (3 < i → p.s3 = q.s3) ∧ st = ⟨[some (0, .mem 6 [cPage p]), some (1, .mem 6 [cPage q])], nv⟩
set_option maxHeartbeats 2000000 in
theorem Same6_R (h : DoeR P) (p q : PageT) : PCalls P n_gazetteerref06_Same [.agg (cPage p), .agg (cPage q)] (fun r => r = .bool (decide (p = q))) := by
  refine A_gazetteerref06_Same h.rsame6 ?_
  unfold F_gazetteerref06_Same
  simp [st0]
  refine ⟨S6I p q, ⟨4, GhostV.refl ⟨0, _, by simp, by simp, by simp, by simp, by simp, by simp, by simp, rfl⟩⟩, ?_⟩
  rintro k1 v6 st ⟨i, nv, rfl, hi, rfl, e0, e1, e2, e3, rfl⟩
  rcases (by omega : i = 0 ∨ i = 1 ∨ i = 2 ∨ i = 3 ∨ i = 4) with rfl | rfl | rfl | rfl | rfl
  · simp [offV, bytesV_c8]
    by_cases hs : p.s0 = q.s0
    · simp [strBin, toList_mk, hs]
      exact ⟨3, by omega, GhostV.refl ⟨1, nv, rfl, by omega, by rw [wrap_i64 (by omega)]; rfl, fun _ => hs, fun hq => absurd hq (by omega), fun hq => absurd hq (by omega), fun hq => absurd hq (by omega), by simp [hs]⟩⟩
    · have hb : (p.s0 == q.s0) = false := beq_eq_false_iff_ne.2 hs
      simp [strBin, toList_mk, hb]
      exact GhostV.refl ⟨rfl, by have : ¬ p = q := fun e => hs (by rw [e]); simp [this]⟩
  · simp [offV, bytesV_c8]
    by_cases hs : p.s1 = q.s1
    · simp [strBin, toList_mk, hs]
      exact ⟨2, by omega, GhostV.refl ⟨2, nv, rfl, by omega, by rw [wrap_i64 (by omega)]; rfl, fun _ => e0 (by omega), fun _ => hs, fun hq => absurd hq (by omega), fun hq => absurd hq (by omega), by simp [hs]⟩⟩
    · have hb : (p.s1 == q.s1) = false := beq_eq_false_iff_ne.2 hs
      simp [strBin, toList_mk, hb]
      exact GhostV.refl ⟨rfl, by have : ¬ p = q := fun e => hs (by rw [e]); simp [this]⟩
  · simp [offV, bytesV_c8]
    by_cases hs : p.s2 = q.s2
    · simp [strBin, toList_mk, hs]
      exact ⟨1, by omega, GhostV.refl ⟨3, nv, rfl, by omega, by rw [wrap_i64 (by omega)]; rfl, fun _ => e0 (by omega), fun _ => e1 (by omega), fun _ => hs, fun hq => absurd hq (by omega), by simp [hs]⟩⟩
    · have hb : (p.s2 == q.s2) = false := beq_eq_false_iff_ne.2 hs
      simp [strBin, toList_mk, hb]
      exact GhostV.refl ⟨rfl, by have : ¬ p = q := fun e => hs (by rw [e]); simp [this]⟩
  · simp [offV, bytesV_c8]
    by_cases hs : p.s3 = q.s3
    · simp [strBin, toList_mk, hs]
      exact GhostV.refl ⟨4, nv, rfl, by omega, by rw [wrap_i64 (by omega)]; rfl, fun _ => e0 (by omega), fun _ => e1 (by omega), fun _ => e2 (by omega), fun _ => hs, by simp [hs]⟩
    · have hb : (p.s3 == q.s3) = false := beq_eq_false_iff_ne.2 hs
      simp [strBin, toList_mk, hb]
      exact GhostV.refl ⟨rfl, by have : ¬ p = q := fun e => hs (by rw [e]); simp [this]⟩
  · have f0 := e0 (by omega)
    have f1 := e1 (by omega)
    have f2 := e2 (by omega)
    have f3 := e3 (by omega)
    clear e0 e1 e2 e3
    by_cases hn : p.num = q.num
    case neg =>
      simp [hn]
      exact GhostV.refl ⟨rfl, by have : ¬ p = q := fun e => hn (by rw [e]); simp [this]⟩
    have hpq : p = q ↔ p.lsn = q.lsn := by
      obtain ⟨pn, pl, p0, p1, p2, p3⟩ := p
      obtain ⟨qn, ql, q0, q1, q2, q3⟩ := q
      simp only at f0 f1 f2 f3 hn
      subst f0 f1 f2 f3 hn
      simp
    by_cases hl : p.lsn = q.lsn
    · simp [eq_true hn, hl]
      exact GhostV.refl ⟨rfl, by rw [decide_eq_true (hpq.2 hl)]; rfl⟩
    · simp [eq_true hn, hl]
      exact GhostV.refl ⟨rfl, by rw [decide_eq_false (fun e => hl (hpq.1 e))]; rfl⟩
def SaP (a b : List PageT) (k : Nat) (v : V) (st : St) : Prop := ∃ i nv, k = b.length - i ∧ i ≤ b.length ∧ v = .int .i64 ((i : Nat) : Int) ∧ a.take i = b.take i ∧ st = ⟨[], nv⟩
theorem SamePages_R (h : DoeR P) (a b : List PageT) (ha : a.length < 2 ^ 40) : PCalls P n_gazetteerref12_SamePages [.sl .unk 6 (a.map cPage) [], .sl .unk 6 (b.map cPage) []] (fun r => r = .bool (decide (a = b))) := by
  refine A_gazetteerref12_SamePages h.rsamep ?_
  unfold F_gazetteerref12_SamePages
  simp [st0]
  by_cases hl : a.length = b.length
  case neg =>
    simp [hl]
    exact GhostV.refl ⟨rfl, by have : ¬ a = b := fun e => hl (by rw [e]); simp [this]⟩
  · simp [hl]
    refine ⟨SaP a b, ⟨b.length, GhostV.refl ⟨0, 0, by simp, by simp, by simp, by simp, by simp⟩⟩, ?_⟩
    rintro k1 v17 st ⟨i, nv, rfl, hi, rfl, hn, rfl⟩
    by_cases hlt : i < b.length
    · have hlt' : i < a.length := by omega
      simp [hlt, hlt']
      refine inv_p (Same6_R h a[i] b[i]) rfl (by simp [pureL, V.pure, pureLL]) ?_
      rintro _ rfl
      by_cases he : a[i] = b[i]
      · simp [eq_true he]
        refine ⟨b.length - (i + 1), by omega, GhostV.refl ⟨i + 1, nv, rfl, by omega, by rw [wadd1 (by omega)], ?_, rfl⟩⟩
        rw [take_snoc hlt, take_snoc hlt', hn, he]
      · simp [eq_false he]
        exact GhostV.refl ⟨rfl, by have : ¬ a = b := fun e => he (by simp [e]); simp [this]⟩
    · simp [hlt]
      rw [List.take_of_length_le (by omega), List.take_of_length_le (by omega)] at hn
      exact GhostV.refl ⟨rfl, by simp [hn]⟩
/-! ### may a page be -/
def R6I (p : PageT) (k : Nat) (v : V) (st : St) : Prop :=
  ∃ i nv, k = 4 - i ∧ i ≤ 4 ∧ v = .int .i64 ((i : Nat) : Int) ∧ (0 < i → p.s0.length ≤ 52) ∧ (1 < i → p.s1.length ≤ 52) ∧ (2 < i → p.s2.length ≤ 52) ∧ (3 < i → p.s3.length ≤ 52) ∧ st = ⟨[some (0, .mem 6 [cPage p])], nv⟩
set_option maxHeartbeats 2000000 in
theorem Right6_R (h : DoeR P) (p : PageT) : PCalls P n_gazetteerref06_Right [.agg (cPage p)] (fun r => r = .bool (pageOk p)) := by
  refine A_gazetteerref06_Right h.rright6 ?_
  unfold F_gazetteerref06_Right
  simp [st0]
  refine ⟨R6I p, ⟨4, GhostV.refl ⟨0, _, by simp, by simp, by simp, by simp, by simp, by simp, by simp, rfl⟩⟩, ?_⟩
  rintro k1 v6 st ⟨i, nv, rfl, hi, rfl, e0, e1, e2, e3, rfl⟩
  rcases (by omega : i = 0 ∨ i = 1 ∨ i = 2 ∨ i = 3 ∨ i = 4) with rfl | rfl | rfl | rfl | rfl
  · by_cases hs : (52 : Int) < (p.s0.length : Int)
    · simp [hs]
      exact GhostV.refl ⟨rfl, by
        have : pageOk p = false := by simp only [pageOk, decide_eq_false_iff_not]; omega
        rw [this]; rfl⟩
    · simp [hs]
      exact ⟨3, by omega, GhostV.refl ⟨1, nv, rfl, by omega, by rw [wrap_i64 (by omega)]; rfl, fun _ => by omega, fun hq => absurd hq (by omega), fun hq => absurd hq (by omega), fun hq => absurd hq (by omega), rfl⟩⟩
  · by_cases hs : (52 : Int) < (p.s1.length : Int)
    · simp [hs]
      exact GhostV.refl ⟨rfl, by
        have : pageOk p = false := by simp only [pageOk, decide_eq_false_iff_not]; omega
        rw [this]; rfl⟩
    · simp [hs]
      exact ⟨2, by omega, GhostV.refl ⟨2, nv, rfl, by omega, by rw [wrap_i64 (by omega)]; rfl, fun _ => e0 (by omega), fun _ => by omega, fun hq => absurd hq (by omega), fun hq => absurd hq (by omega), rfl⟩⟩
  · by_cases hs : (52 : Int) < (p.s2.length : Int)
    · simp [hs]
      exact GhostV.refl ⟨rfl, by
        have : pageOk p = false := by simp only [pageOk, decide_eq_false_iff_not]; omega
        rw [this]; rfl⟩
    · simp [hs]
      exact ⟨1, by omega, GhostV.refl ⟨3, nv, rfl, by omega, by rw [wrap_i64 (by omega)]; rfl, fun _ => e0 (by omega), fun _ => e1 (by omega), fun _ => by omega, fun hq => absurd hq (by omega), rfl⟩⟩
  · by_cases hs : (52 : Int) < (p.s3.length : Int)
    · simp [hs]
      exact GhostV.refl ⟨rfl, by
        have : pageOk p = false := by simp only [pageOk, decide_eq_false_iff_not]; omega
        rw [this]; rfl⟩
    · simp [hs]
      exact GhostV.refl ⟨4, nv, rfl, by omega, by rw [wrap_i64 (by omega)]; rfl, fun _ => e0 (by omega), fun _ => e1 (by omega), fun _ => e2 (by omega), fun _ => by omega, rfl⟩
  · have e0 := e0 (by omega)
    have e1 := e1 (by omega)
    have e2 := e2 (by omega)
    have e3 := e3 (by omega)
    by_cases h0 : 0 ≤ p.num
    · by_cases h1 : p.num < 32
      · simp [h0, h1]
        exact GhostV.refl ⟨rfl, by
          have : pageOk p = true := by simp only [pageOk, decide_eq_true_eq]; omega
          rw [this]; rfl⟩
      · simp [h0, h1]
        exact GhostV.refl ⟨rfl, by
          have : pageOk p = false := by simp only [pageOk, decide_eq_false_iff_not]; omega
          rw [this]; rfl⟩
    · simp [h0]
      exact GhostV.refl ⟨rfl, by
        have : pageOk p = false := by simp only [pageOk, decide_eq_false_iff_not]; omega
        rw [this]; rfl⟩
end Go.Proofs.Ytmbhgjekjpkigaa.AM

namespace Go.Proofs.Ytmbhgjekjpkigaa.AM
open Go
set_option linter.unusedVariables false
set_option linter.unusedSimpArgs false
variable {P : Program}

def ofP (l : List RecT) (n : Int) (i : Nat) : Bool := (l.take i).any fun r => chgR r && decide (r.page = n)
theorem ofP_snoc {l : List RecT} {n : Int} {i : Nat} (h : i < l.length) : ofP l n (i + 1) = (ofP l n i || (chgR l[i] && decide (l[i].page = n))) := by
  unfold ofP
  rw [take_snoc h, List.any_append]; simp
theorem ofP_all (l : List RecT) (n : Int) : ofP l n l.length = decide (n ∈ chgPages l) := by
  unfold ofP chgPages
  rw [List.take_length, Bool.eq_iff_iff]
  simp only [List.any_eq_true, Bool.and_eq_true, decide_eq_true_eq, List.mem_map, List.mem_filter]
  constructor
  · rintro ⟨r, h1, h2, h3⟩; exact ⟨r, ⟨h1, h2⟩, h3⟩
  · rintro ⟨r, ⟨h1, h2⟩, h3⟩; exact ⟨r, h1, h2, h3⟩
def thereB (ps : List PageT) (b : Bool) (n : Int) (i : Nat) : Bool := b || (ps.take i).any fun p => decide (p.num = n)
theorem thereB_snoc {ps : List PageT} {b : Bool} {n : Int} {i : Nat} (h : i < ps.length) : thereB ps b n (i + 1) = (thereB ps b n i || decide (ps[i].num = n)) := by
  unfold thereB
  rw [take_snoc h, List.any_append, ← Bool.or_assoc]; simp
def ToI (ps : List PageT) (l : List RecT) (k : Nat) (v : V) (st : St) : Prop := ∃ i nv, k = ps.length - i ∧ i ≤ ps.length ∧ v = .int .i64 ((i : Nat) : Int) ∧ pagesOk ps l i = true ∧ st = ⟨[], nv⟩
def ToJ (l : List RecT) (p : PageT) (nb : Nat) (k : Nat) (v7 v45 : V) (st : St) : Prop := ∃ i nv, k = l.length - i ∧ i ≤ l.length ∧ v7 = .bool (ofP l p.num i) ∧ v45 = .int .i64 ((i : Nat) : Int) ∧ st = ⟨[some (nb, .mem 6 [cPage p])], nv⟩
def ToK (ps : List PageT) (l : List RecT) (k : Nat) (v : V) (st : St) : Prop := ∃ i nv, k = l.length - i ∧ i ≤ l.length ∧ v = .int .i64 ((i : Nat) : Int) ∧ (∀ n ∈ chgPages (l.take i), n ∈ ps.map (·.num)) ∧ st = ⟨[], nv⟩
def ToL (ps : List PageT) (r : RecT) (nb : Nat) (k : Nat) (v12 v82 : V) (st : St) : Prop := ∃ i nv, k = ps.length - i ∧ i ≤ ps.length ∧ v12 = .bool (thereB ps (!chgR r) r.page i) ∧ v82 = .int .i64 ((i : Nat) : Int) ∧ st = ⟨[some (nb, .mem 9 [cRec r])], nv⟩
set_option maxHeartbeats 4000000 in
theorem Tog_R (h : DoeR P) (ps : List PageT) (l : List RecT) (hp : ps.length < 2 ^ 40) (hl : l.length < 2 ^ 40) : PCalls P n_gazetteerref12_Together [.sl .unk 6 (ps.map cPage) [], .sl .unk 9 (l.map cRec) []] (fun v => v = .bool (togP ps l)) := by
  refine A_gazetteerref12_Together h.rtog ?_
  unfold F_gazetteerref12_Together
  simp [st0]
  by_cases h32 : (32 : Int) < (ps.length : Int)
  · simp [h32]
    exact GhostV.refl ⟨rfl, by
      have : ¬ ps.length ≤ 32 := by omega
      simp [togP, this]⟩
  simp [h32]
  refine ⟨ToI ps l, ⟨ps.length, GhostV.refl ⟨0, 0, by simp, by simp, by simp, by simp [pagesOk], rfl⟩⟩, ?_⟩
  rintro k1 v20 st ⟨i, nv, rfl, hi, rfl, hpo, rfl⟩
  by_cases hlt : i < ps.length
  · have no : togI ps l i = false → togP ps l = false := by
      intro hq
      have : pagesOk ps l ps.length = false := by
        cases hw : pagesOk ps l ps.length
        · rfl
        · simp only [pagesOk, List.all_eq_true, List.mem_range] at hw
          rw [hw i hlt] at hq; cases hq
      simp [togP, this]
    have hti : togI ps l i = togAt ps l i ps[i] := by simp [togI, hlt]
    simp [hlt]
    refine inv_p (Right6_R h ps[i]) rfl (by simp [pureL, V.pure, pureLL]) ?_
    rintro _ rfl
    cases hok : pageOk ps[i]
    · simp
      exact GhostV.refl ⟨rfl, by rw [no (by rw [hti]; simp [togAt, hok])]; rfl⟩
    by_cases h0 : i = 0
    · subst h0
      simp
      refine ⟨ToJ l ps[0] nv, ⟨l.length, GhostV.refl ⟨0, _, by simp, by simp, by simp [ofP], by simp, rfl⟩⟩, ?_⟩
      rintro k2 v7 v45 st ⟨q, nv2, rfl, hq, rfl, rfl, rfl⟩
      by_cases hlq : q < l.length
      · have hof := ofP_snoc (n := ps[0].num) hlq
        have fin : ∀ {x : Bool} {M : List (Option (Nat × Obj))} {nv' : Nat}, ofP l ps[0].num (q + 1) = x → ∃ j, j < l.length - q ∧ GhostV [.bool x, .int .i64 (IntKind.i64.wrap ((q : Int) + 1))] ⟨[some (nv, .mem 6 [cPage ps[0]])] ++ M, nv'⟩ (app (n := 2) (ToJ l ps[0] nv j)) := fun {x M nv'} hx =>
          ⟨l.length - (q + 1), by omega, GhostV.keep ⟨q + 1, _, rfl, by omega, by rw [hx], by rw [wadd1 (by omega)], rfl⟩⟩
        cases ho : ofP l ps[0].num q
        · rw [ho] at hof
          simp [hlq]
          refine inv_p (rChg_R h.toTogR l[q]) rfl (by simp [pureL, V.pure, pureLL]) ?_
          rintro _ rfl
          cases hc : chgR l[q]
          · rw [hc] at hof
            simp
            exact fin (M := [_]) (by rw [hof]; rfl)
          · rw [hc] at hof
            simp
            exact fin (M := [_]) (by rw [hof]; simp)
        · rw [ho] at hof
          simp [hlq]
          exact fin (M := [_]) (by rw [hof]; rfl)
      obtain rfl : q = l.length := by omega
      have hall := ofP_all l ps[0].num
      have nxt : togI ps l 0 = true → ∀ {M : List (Option (Nat × Obj))} {nv' : Nat}, ∃ j, j < ps.length ∧ GhostV [.int .i64 (IntKind.i64.wrap 1)] ⟨M, nv'⟩ (app (n := 1) (ToI ps l j)) := fun hti' {M nv'} =>
        ⟨ps.length - (0 + 1), by omega, GhostV.keep (L := []) ⟨0 + 1, _, rfl, by omega, by rw [wrap_i64 (by omega)]; rfl, by rw [pagesOk_snoc, hpo, hti']; rfl, rfl⟩⟩
      cases ho : ofP l ps[0].num l.length
      · rw [ho] at hall
        have hnm : ps[0].num ∉ chgPages l := by simpa using hall.symm
        simp
        exact nxt (by rw [hti]; simp [togAt, hok, hnm])
      · rw [ho] at hall
        have hnm : ps[0].num ∈ chgPages l := by simpa using hall.symm
        simp
        refine inv_p (rLast_R h.toTogR l hl) rfl (by simp [pureL, V.pure, pureLL]) ?_
        rintro _ rfl
        by_cases hlv : lastLsn l < ps[0].lsn
        · simp [hlv]
          exact GhostV.refl ⟨rfl, by rw [no (by rw [hti]; simp [togAt, hnm, hlv])]; rfl⟩
        · simp [hlv]
          exact nxt (by rw [hti]; simp [togAt, hok, hlv])
    · have hi0 : 0 < i := by omega
      have hws := wsub1 (x := i) (by omega) hi0
      have hpr : i - 1 < ps.length := by omega
      by_cases hrise : ps[i].num ≤ ps[i - 1].num
      · simp [hi0, hws, hpr, hrise]
        exact GhostV.refl ⟨rfl, by
          rw [no (by rw [hti]; simp [togAt, h0, List.getElem?_eq_getElem hpr]; intro _ q; omega)]; rfl⟩
      have hrise' : ps[i - 1].num < ps[i].num := by omega
      simp [hi0, hws, hpr, hrise]
      refine ⟨ToJ l ps[i] nv, ⟨l.length, GhostV.refl ⟨0, _, by simp, by simp, by simp [ofP], by simp, rfl⟩⟩, ?_⟩
      rintro k2 v7 v45 st ⟨q, nv2, rfl, hq, rfl, rfl, rfl⟩
      by_cases hlq : q < l.length
      · have hof := ofP_snoc (n := ps[i].num) hlq
        have fin : ∀ {x : Bool} {M : List (Option (Nat × Obj))} {nv' : Nat}, ofP l ps[i].num (q + 1) = x → ∃ j, j < l.length - q ∧ GhostV [.bool x, .int .i64 (IntKind.i64.wrap ((q : Int) + 1))] ⟨[some (nv, .mem 6 [cPage ps[i]])] ++ M, nv'⟩ (app (n := 2) (ToJ l ps[i] nv j)) := fun {x M nv'} hx =>
          ⟨l.length - (q + 1), by omega, GhostV.keep ⟨q + 1, _, rfl, by omega, by rw [hx], by rw [wadd1 (by omega)], rfl⟩⟩
        cases ho : ofP l ps[i].num q
        · rw [ho] at hof
          simp [hlq]
          refine inv_p (rChg_R h.toTogR l[q]) rfl (by simp [pureL, V.pure, pureLL]) ?_
          rintro _ rfl
          cases hc : chgR l[q]
          · rw [hc] at hof
            simp
            exact fin (M := [_]) (by rw [hof]; rfl)
          · rw [hc] at hof
            simp
            exact fin (M := [_]) (by rw [hof]; simp)
        · rw [ho] at hof
          simp [hlq]
          exact fin (M := [_]) (by rw [hof]; rfl)
      obtain rfl : q = l.length := by omega
      have hall := ofP_all l ps[i].num
      have nxt : togI ps l i = true → ∀ {M : List (Option (Nat × Obj))} {nv' : Nat}, ∃ j, j < ps.length - i ∧ GhostV [.int .i64 (IntKind.i64.wrap ((i : Int) + 1))] ⟨M, nv'⟩ (app (n := 1) (ToI ps l j)) := fun hti' {M nv'} =>
        ⟨ps.length - (i + 1), by omega, GhostV.keep (L := []) ⟨i + 1, _, rfl, by omega, by rw [wadd1 (by omega)], by rw [pagesOk_snoc, hpo, hti']; rfl, rfl⟩⟩
      cases ho : ofP l ps[i].num l.length
      · rw [ho] at hall
        have hnm : ps[i].num ∉ chgPages l := by simpa using hall.symm
        simp
        exact nxt (by rw [hti]; simp [togAt, hok, hnm, h0, List.getElem?_eq_getElem hpr, hrise'])
      · rw [ho] at hall
        have hnm : ps[i].num ∈ chgPages l := by simpa using hall.symm
        simp
        refine inv_p (rLast_R h.toTogR l hl) rfl (by simp [pureL, V.pure, pureLL]) ?_
        rintro _ rfl
        by_cases hlv : lastLsn l < ps[i].lsn
        · simp [hlv]
          exact GhostV.refl ⟨rfl, by rw [no (by rw [hti]; simp [togAt, hnm, hlv])]; rfl⟩
        · simp [hlv]
          exact nxt (by rw [hti]; simp [togAt, hok, hlv, h0, List.getElem?_eq_getElem hpr, hrise'])
  · have hpo2 : pagesOk ps l ps.length = true := by rw [show ps.length = i by omega]; exact hpo
    simp [hlt]
    refine ⟨ToK ps l, ⟨l.length, GhostV.refl ⟨0, _, by simp, by simp, by simp, by simp [chgPages], rfl⟩⟩, ?_⟩
    rintro k3 v73 st ⟨q, nv2, rfl, hq, rfl, hin, rfl⟩
    by_cases hlq : q < l.length
    · have hcs := chgPages_snoc hlq
      simp [hlq]
      refine inv_p (rChg_R h.toTogR l[q]) rfl (by simp [pureL, V.pure, pureLL]) ?_
      rintro _ rfl
      simp
      refine ⟨ToL ps l[q] nv2, ⟨ps.length, GhostV.refl ⟨0, _, by simp, by simp, by simp [thereB], by simp, rfl⟩⟩, ?_⟩
      rintro k4 v12 v82 st ⟨j, nv3, rfl, hj, rfl, rfl, rfl⟩
      by_cases hlj : j < ps.length
      · have hth := thereB_snoc (b := !chgR l[q]) (n := l[q].page) hlj
        have fin : ∀ {x : Bool} {M : List (Option (Nat × Obj))} {nv' : Nat}, thereB ps (!chgR l[q]) l[q].page (j + 1) = x → ∃ r, r < ps.length - j ∧ GhostV [.bool x, .int .i64 (IntKind.i64.wrap ((j : Int) + 1))] ⟨[some (nv2, .mem 9 [cRec l[q]])] ++ M, nv'⟩ (app (n := 2) (ToL ps l[q] nv2 r)) := fun {x M nv'} hx =>
          ⟨ps.length - (j + 1), by omega, GhostV.keep ⟨j + 1, _, rfl, by omega, by rw [hx], by rw [wadd1 (by omega)], rfl⟩⟩
        cases ho : thereB ps (!chgR l[q]) l[q].page j
        · rw [ho] at hth
          simp [hlj]
          exact fin (M := [_]) (by rw [hth]; simp)
        · rw [ho] at hth
          simp [hlj]
          exact fin (M := [_]) (by rw [hth]; rfl)
      · obtain rfl : j = ps.length := by omega
        have hthere : thereB ps (!chgR l[q]) l[q].page ps.length = (!chgR l[q] || decide (l[q].page ∈ ps.map (·.num))) := by
          unfold thereB
          rw [List.take_length]
          congr 1
          rw [Bool.eq_iff_iff]
          simp
        cases ho : thereB ps (!chgR l[q]) l[q].page ps.length
        · simp
          rw [ho] at hthere
          exact GhostV.refl ⟨rfl, by
            have hc : chgR l[q] = true ∧ l[q].page ∉ ps.map (·.num) := by
              have := hthere.symm
              simpa using this
            have : togP ps l = false := by
              cases hw : togP ps l
              · rfl
              · simp only [togP, Bool.and_eq_true, List.all_eq_true, decide_eq_true_eq] at hw
                exact absurd (hw.2 l[q].page (List.mem_map.2 ⟨l[q], List.mem_filter.2 ⟨List.getElem_mem hlq, hc.1⟩, rfl⟩)) hc.2
            rw [this]; rfl⟩
        · simp
          rw [ho] at hthere
          refine ⟨l.length - (q + 1), by omega, GhostV.keep (L := []) ⟨q + 1, _, rfl, by omega, by rw [wadd1 (by omega)], ?_, rfl⟩⟩
          intro n hn
          rw [hcs] at hn
          split at hn
          · rename_i hc
            rcases List.mem_append.1 hn with h1 | h1
            · exact hin n h1
            · obtain rfl := List.mem_singleton.1 h1
              have := hthere.symm
              rw [hc] at this
              simpa using this
          · exact hin n hn
    · simp [hlq]
      rw [List.take_of_length_le (by omega)] at hin
      exact GhostV.refl ⟨rfl, by
        have : togP ps l = true := by
          simp only [togP, Bool.and_eq_true, List.all_eq_true, decide_eq_true_eq]
          exact ⟨⟨by omega, hpo2⟩, hin⟩
        rw [this]; rfl⟩
end Go.Proofs.Ytmbhgjekjpkigaa.AM

namespace Go.Proofs.Ytmbhgjekjpkigaa.AM
open Go
set_option linter.unusedVariables false
set_option linter.unusedSimpArgs false
variable {P : Program}

def RrO (ps : List PageT) (l : List RecT) (k : Nat) (v5 v12 : V) (st : St) : Prop :=
  ∃ (i va nv : Nat) (out : List PageT), k = ps.length - i ∧ i ≤ ps.length ∧ out = (ps.take i).map (fun p => again1 p l) ∧ v5 = .msl 0 va 0 out.length ∧ v12 = .int .i64 ((i : Nat) : Int) ∧ st = ⟨[some (va, .mem 6 (out.map cPage))], nv⟩
def RrP (l : List RecT) (p : PageT) (out : List PageT) (va nb : Nat) (k : Nat) (v : V) (st : St) : Prop :=
  ∃ (q nv : Nat), k = l.length - q ∧ q ≤ l.length ∧ v = .int .i64 ((q : Nat) : Int) ∧ st = ⟨[some (va, .mem 6 (out.map cPage)), some (nb, .mem 6 [cPage (again1 p (l.take q))])], nv⟩
theorem again1_snoc {p : PageT} {l : List RecT} {i : Nat} (h : i < l.length) : again1 p (l.take (i + 1)) = step1 (again1 p (l.take i)) l[i] := by
  unfold again1
  rw [take_snoc h, List.foldl_append]; rfl
set_option maxHeartbeats 8000000 in
theorem Redo12_R (h : DoeR P) (ps : List PageT) (l : List RecT) (hp : ps.length < 2 ^ 40) (hl : l.length < 2 ^ 40) (hps : ∀ p ∈ ps, pShort p) (hag : ∀ r ∈ l, agRec r) :
    PCalls P n_gazetteerref12_Redo [.sl .unk 6 (ps.map cPage) [], .sl .unk 9 (l.map cRec) []] (fun v => v = .sl .unk 6 ((againP ps l).map cPage) []) := by
  refine A_gazetteerref12_Redo h.rredo12 ?_
  unfold F_gazetteerref12_Redo
  simp [st0]
  refine ⟨RrO ps l, ⟨ps.length, GhostV.nilr 6 (by decide) ⟨0, 0, 1, [], by simp, by simp, by simp, by simp, by simp, by simp⟩⟩, ?_⟩
  rintro k1 v5 v12 st ⟨i, va, nv, out, rfl, hi, hout, rfl, rfl, rfl⟩
  by_cases hlt : i < ps.length
  · simp [hlt]
    refine inv_p (Copy_P h.toPgsR ps[i] (hps _ (List.getElem_mem hlt)) (.unk, []) (.unk, []) (.unk, []) (.unk, []) rfl rfl rfl rfl) rfl (by simp [pureL, V.pure, pureLL]) ?_
    rintro _ rfl
    simp
    refine ⟨RrP l ps[i] out va nv, ⟨l.length, GhostV.refl ⟨0, _, by simp, by simp, by simp, by simp [again1]; rfl⟩⟩, ?_⟩
    rintro k2 v20 st ⟨q, nv2, rfl, hq, rfl, rfl⟩
    obtain ⟨cur, hcur⟩ : ∃ cur, cur = again1 ps[i] (l.take q) := ⟨_, rfl⟩
    rw [← hcur]
    by_cases hlq : q < l.length
    · have hsn := again1_snoc (p := ps[i]) hlq
      rw [← hcur] at hsn
      have hri := hag l[q] (List.getElem_mem hlq)
      have nx : ∀ {M : List (Option (Nat × Obj))} {nv' : Nat} {p' : PageT}, step1 cur l[q] = p' → ∃ j, j < l.length - q ∧ GhostV [.int .i64 (IntKind.i64.wrap ((q : Int) + 1))] ⟨[some (va, .mem 6 (out.map cPage)), some (nv, .mem 6 [cPage p'])] ++ M, nv'⟩ (app (n := 1) (RrP l ps[i] out va nv j)) := fun {M nv' p'} he =>
        ⟨l.length - (q + 1), by omega, GhostV.keep ⟨q + 1, _, rfl, by omega, by rw [wadd1 (by omega)], by rw [hsn, he]⟩⟩
      simp [hlq]
      refine inv_p (rChg_R h.toTogR l[q]) rfl (by simp [pureL, V.pure, pureLL]) ?_
      rintro _ rfl
      cases hc : chgR l[q]
      · simp
        exact nx (M := [_]) (by simp [step1, hc])
      by_cases hpg : l[q].page = cur.num
      case neg =>
        simp [hpg]
        exact nx (M := [_]) (by unfold step1; rw [if_neg]; rintro ⟨_, e, _⟩; exact hpg e.symm)
      by_cases hls : cur.lsn < l[q].lsn
      case neg =>
        simp [eq_true hpg, hls]
        exact nx (M := [_]) (by unfold step1; rw [if_neg]; rintro ⟨_, _, e⟩; exact hls e)
      obtain ⟨hs0, hs4, hnl⟩ := hri hc
      have hst : step1 cur l[q] = setP cur l[q] := by unfold step1; rw [if_pos ⟨hc, hpg.symm, hls⟩]
      have tk : ∀ b : List UInt8, List.take b.length (List.map c8 b) = List.map c8 b := fun b => List.take_of_length_le (by simp)
      have dk : ∀ b : List UInt8, List.drop b.length (List.map c8 b) = [] := fun b => List.drop_eq_nil_of_le (by simp)
      simp [eq_true hpg, hls]
      refine ⟨by omega, ⟨hs0, hs4⟩, ?_⟩
      rcases (by omega : l[q].slot = 0 ∨ l[q].slot = 1 ∨ l[q].slot = 2 ∨ l[q].slot = 3) with e | e | e | e
      · have hsp : setP cur l[q] = { cur with s0 := l[q].new, lsn := l[q].lsn } := by simp [setP, PageT.put, e]
        simp [offV, e]
        refine ⟨l.length - (q + 1), by omega, GhostV.frzO (b := 1) (id := 3) (i := 0) (j := 2) (by decide) rfl rfl rfl rfl (by simp) ?_⟩
        simp [tk, dk]
        exact GhostV.keep (L := [_, _]) ⟨q + 1, _, rfl, by omega, by rw [wadd1 (by omega)], by rw [hsn, hst, hsp]; rfl⟩
      · have hsp : setP cur l[q] = { cur with s1 := l[q].new, lsn := l[q].lsn } := by simp [setP, PageT.put, e]
        simp [offV, e]
        refine ⟨l.length - (q + 1), by omega, GhostV.frzO (b := 1) (id := 3) (i := 0) (j := 3) (by decide) rfl rfl rfl rfl (by simp) ?_⟩
        simp [tk, dk]
        exact GhostV.keep (L := [_, _]) ⟨q + 1, _, rfl, by omega, by rw [wadd1 (by omega)], by rw [hsn, hst, hsp]; rfl⟩
      · have hsp : setP cur l[q] = { cur with s2 := l[q].new, lsn := l[q].lsn } := by simp [setP, PageT.put, e]
        simp [offV, e]
        refine ⟨l.length - (q + 1), by omega, GhostV.frzO (b := 1) (id := 3) (i := 0) (j := 4) (by decide) rfl rfl rfl rfl (by simp) ?_⟩
        simp [tk, dk]
        exact GhostV.keep (L := [_, _]) ⟨q + 1, _, rfl, by omega, by rw [wadd1 (by omega)], by rw [hsn, hst, hsp]; rfl⟩
      · have hsp : setP cur l[q] = { cur with s3 := l[q].new, lsn := l[q].lsn } := by simp [setP, PageT.put, e]
        simp [offV, e]
        refine ⟨l.length - (q + 1), by omega, GhostV.frzO (b := 1) (id := 3) (i := 0) (j := 5) (by decide) rfl rfl rfl rfl (by simp) ?_⟩
        simp [tk, dk]
        exact GhostV.keep (L := [_, _]) ⟨q + 1, _, rfl, by omega, by rw [wadd1 (by omega)], by rw [hsn, hst, hsp]; rfl⟩
    · simp [hlq]
      have hce : cur = again1 ps[i] l := by rw [hcur, List.take_of_length_le (by omega)]
      have hol : out.length = i := by rw [hout]; simp; omega
      have e : out.map cPage ++ [[V.int .i64 cur.num, V.int .u64 ((cur.lsn : Nat) : Int), vB cur.s0, vB cur.s1, vB cur.s2, vB cur.s3]] = (out ++ [cur]).map cPage := by rw [List.map_append]; rfl
      rw [e]
      exact ⟨by omega, ps.length - (i + 1), by omega, GhostV.keep (L := [_]) ⟨i + 1, _, _, out ++ [cur], rfl, by omega, by rw [take_snoc hlt, List.map_append, ← hout, hce]; rfl, by simp, by rw [wadd1 (by omega)], rfl⟩⟩
  · simp [hlt]
    have ho : out = againP ps l := by rw [hout, againP_map, List.take_of_length_le (by omega)]
    subst ho
    refine GhostV.rowk (L := []) (M := [some (va, .mem 6 ((againP ps l).map cPage))]) (id := 0) (ver := va) (off := 0) (len := (againP ps l).length) (sz := 6) (es := (againP ps l).map cPage) (by simp) (by simp) (by simp) ?_
    rw [List.drop_zero, take_map_len]
    exact ⟨by simp [V.pure, pureL, pureLL], by simp⟩
end Go.Proofs.Ytmbhgjekjpkigaa.AM

namespace Go.Proofs.Ytmbhgjekjpkigaa.AM
open Go
set_option linter.unusedVariables false
set_option linter.unusedSimpArgs false
variable {P : Program}

structure DosR (P : Program) : Prop extends DoeR P where

end Go.Proofs.Ytmbhgjekjpkigaa.AM

namespace Go.Proofs.Ytmbhgjekjpkigaa.AM
open Go
set_option linter.unusedVariables false
set_option linter.unusedSimpArgs false
variable {P : Program}

structure RuR (P : Program) : Prop extends DoeR P where
  rat : R_gazetteerref12_at P
  rright12 : R_gazetteerref12_right P
  rfirst12 : R_gazetteerref12_first P
  rundo12 : R_gazetteerref12_Undo P
  rall12 : R_gazetteerref12_All P

abbrev zRc : List V := [.int .u64 0, .int .i64 0, .int .u64 0, .int .u64 0, .int .i64 0, .int .i64 0, .sl .nil 0 [] [], .sl .nil 0 [] [], .int .u64 0]
def atV (l : List RecT) (n : Nat) : V := match recAt l n with | some r => .tup [.agg (cRec r), .bool true] | none => .tup [.agg zRc, .bool false]
def RaI (l : List RecT) (n : Nat) (k : Nat) (v : V) (st : St) : Prop := ∃ i nv, k = l.length - i ∧ i ≤ l.length ∧ v = .int .i64 ((i : Nat) : Int) ∧ (∀ j (h : j < l.length), j < i → l[j].lsn ≠ n) ∧ st = ⟨[some (0, .mem 9 [zRc])], nv⟩
theorem recAt_none {n : Nat} : ∀ (L : List RecT) (a : Option RecT), (∀ r ∈ L, r.lsn ≠ n) → L.foldl (fun a r => if r.lsn = n then some r else a) a = a
  | [], a, _ => rfl
  | r :: L, a, h => by
    rw [List.foldl_cons, if_neg (h r (.head _))]
    exact recAt_none L a (fun q hq => h q (.tail _ hq))
set_option maxHeartbeats 2000000 in
theorem At12_R (h : RuR P) (l : List RecT) (n : Nat) (hl : l.length < 2 ^ 40) (hrow : rowOk l = true) : PCalls P n_gazetteerref12_at [.sl .unk 9 (l.map cRec) [], .int .u64 n] (fun v => v = atV l n) := by
  refine A_gazetteerref12_at h.rat ?_
  unfold F_gazetteerref12_at
  simp [st0]
  refine ⟨RaI l n, ⟨l.length, GhostV.refl ⟨0, _, by simp, by simp, by simp, by simp, rfl⟩⟩, ?_⟩
  rintro k1 v st ⟨i, nv, rfl, hi, rfl, hno, rfl⟩
  by_cases hlt : i < l.length
  · by_cases he : l[i].lsn = n
    · have hrc : recAt l n = some l[i] := by rw [← he]; exact rowOk_recAt hrow (List.getElem_mem hlt)
      simp [hlt, eq_true he]
      exact GhostV.refl ⟨by simp [V.pure, pureL, pureLL], by simp [atV, hrc]⟩
    · simp [hlt, he]
      refine ⟨l.length - (i + 1), by omega, GhostV.keep (L := [_]) ⟨i + 1, _, rfl, by omega, by rw [wadd1 (by omega)], fun j hj hji => ?_, rfl⟩⟩
      by_cases e : j = i
      · subst e; exact he
      · exact hno j hj (by omega)
  · have hrc : recAt l n = none := recAt_none l none (fun r hr => by
      obtain ⟨j, hj, rfl⟩ := List.getElem_of_mem hr
      exact hno j hj (by omega))
    simp [hlt]
    exact GhostV.refl ⟨by simp [V.pure, pureL, pureLL], by simp [atV, hrc]⟩
def RgI (op : List OpenT) (k : Nat) (v : V) (st : St) : Prop := ∃ i nv, k = op.length - i ∧ i ≤ op.length ∧ v = .int .i64 ((i : Nat) : Int) ∧ st = ⟨[], nv⟩
set_option maxHeartbeats 4000000 in
theorem Right12_R (h : RuR P) (l : List RecT) (op : List OpenT) (hl : l.length < 2 ^ 40) (hop : op.length < 2 ^ 40) (hrow : rowOk l = true) (hr : rightO l op = true) (ht : ∀ x ∈ op, 0 < x.txn) :
    PCalls P n_gazetteerref12_right [.sl .unk 9 (l.map cRec) [], .sl .unk 3 (op.map cOpen) []] (fun v => v = .bool true) := by
  refine A_gazetteerref12_right h.rright12 ?_
  unfold F_gazetteerref12_right
  simp [st0]
  refine ⟨RgI op, ⟨op.length, GhostV.refl ⟨0, _, by simp, by simp, by simp, rfl⟩⟩, ?_⟩
  rintro k1 v st ⟨i, nv, rfl, hi, rfl, rfl⟩
  by_cases hlt : i < op.length
  · have hri : rightAt l op i op[i] = true := by
      unfold rightO rightTo at hr
      rw [List.all_eq_true] at hr
      have := hr i (List.mem_range.2 hlt)
      simpa [rightI, hlt] using this
    have ht0 := ht op[i] (List.getElem_mem hlt)
    simp only [rightAt, Bool.and_eq_true] at hri
    obtain ⟨⟨hra, hrb⟩, hrc⟩ := hri
    simp only [decide_eq_true_eq] at hrb
    simp [hlt]
    refine inv_p (At12_R h l op[i].last hl hrow) rfl (by simp [pureL, V.pure, pureLL]) ?_
    rintro vv hvv
    cases he : recAt l op[i].last with
    | none => rw [he] at hra; cases hra
    | some r =>
      rw [he] at hra
      simp only [decide_eq_true_eq] at hra
      have hav : atV l op[i].last = .tup [.agg (cRec r), .bool true] := by simp [atV, he]
      rw [hav] at hvv
      subst hvv
      have ht1 : ¬ op[i].txn = 0 := by omega
      have hb1 : ¬ op[i].last < op[i].next := by omega
      have nx : ∀ {M : List (Option (Nat × Obj))} {nv' : Nat}, ∃ j, j < op.length - i ∧ GhostV [.int .i64 (IntKind.i64.wrap ((i : Int) + 1))] ⟨M, nv'⟩ (app (n := 1) (RgI op j)) := fun {M nv'} =>
        ⟨op.length - (i + 1), by omega, GhostV.keep (L := []) ⟨i + 1, _, rfl, by omega, by rw [wadd1 (by omega)], rfl⟩⟩
      by_cases h0 : i = 0
      · subst h0
        simp [eq_true hra, ht1, hb1]
        simpa using nx
      · have hi0 : 0 < i := by omega
        have hws := wsub1 (x := i) (by omega) hi0
        have hpi : i - 1 < op.length := by omega
        have hc3 : ¬ op[i].txn ≤ op[i - 1].txn := by
          simp only [Bool.or_eq_true, decide_eq_true_eq] at hrc
          rcases hrc with q | q
          · exact absurd q h0
          · rw [List.getElem?_eq_getElem hpi] at q
            simp only [Option.map_some, Option.getD_some] at q
            omega
        simp [eq_true hra, ht1, hb1, hi0, hws, hpi, hc3]
        exact nx
  · simp [hlt]
    exact GhostV.refl ⟨rfl, rfl⟩
def RfI (L : List OpenT) (k : Nat) (v3 v9 : V) (st : St) : Prop := ∃ (i b nv : Nat), k = L.length - i ∧ i ≤ L.length ∧ v3 = .int .i64 ((b : Nat) : Int) ∧ v9 = .int .i64 ((i : Nat) : Int) ∧ (i = 0 → b = 0) ∧ (0 < i → ∃ h : b < L.length, b < i ∧ L[b] = minT L i) ∧ st = ⟨[], nv⟩
theorem befO_rise {m y : OpenT} (h : m.txn < y.txn) : befO y m < 0 ↔ (y.next = 0 ∧ 0 < m.next) ∨ (m.next < y.next ∧ 0 < m.next) := by
  by_cases hy : y.next = 0
  · by_cases hm : m.next = 0
    · have := (befO_zz hm hy h).2
      constructor
      · intro q; exact absurd q this
      · intro q; omega
    · have := (befO_zn hy hm).1
      constructor
      · intro _; omega
      · intro _; exact this
  · by_cases hm : m.next = 0
    · have := (befO_zn hm hy).2
      constructor
      · intro q; exact absurd q this
      · intro q; omega
    · by_cases hlt : m.next < y.next
      · have := (befO_nn hy hm hlt).1
        constructor
        · intro _; omega
        · intro _; exact this
      · constructor
        · intro q
          unfold befO at q
          rw [if_neg (by omega)] at q
          unfold cmpN at q
          split at q
          · omega
          · split at q <;> omega
        · intro q; omega
set_option maxHeartbeats 4000000 in
theorem First12_R (h : RuR P) (L : List OpenT) (hL : L.length < 2 ^ 40) (hne : L ≠ []) (hs : L.Pairwise fun a b => a.txn < b.txn) :
    PCalls P n_gazetteerref12_first [.sl .unk 3 (L.map cOpen) []] (fun v => v = .int .i64 ((L.idxOf (minO L) : Nat) : Int)) := by
  refine A_gazetteerref12_first h.rfirst12 ?_
  unfold F_gazetteerref12_first
  simp [st0]
  refine ⟨RfI L, ⟨L.length, GhostV.refl ⟨0, 0, _, by simp, by simp, by simp, by simp, by simp, by simp, rfl⟩⟩, ?_⟩
  rintro k1 v3 v9 st ⟨i, b, nv, rfl, hi, rfl, rfl, hb0, hb1, rfl⟩
  by_cases hlt : i < L.length
  · have hbl : b < L.length := by
      by_cases e : i = 0
      · rw [hb0 e]; omega
      · exact (hb1 (by omega)).1
    have stay : (¬ ((L[i].next = 0 ∧ 0 < L[b].next) ∨ (L[b].next < L[i].next ∧ 0 < L[b].next))) → ∀ {M : List (Option (Nat × Obj))} {nv' : Nat}, ∃ j, j < L.length - i ∧ GhostV [.int .i64 ((b : Nat) : Int), .int .i64 (IntKind.i64.wrap ((i : Int) + 1))] ⟨M, nv'⟩ (app (n := 2) (RfI L j)) := fun hq {M nv'} => by
      refine ⟨L.length - (i + 1), by omega, GhostV.keep (L := []) ⟨i + 1, b, _, rfl, by omega, rfl, by rw [wadd1 (by omega)], fun e => by omega, fun _ => ⟨hbl, ?_, ?_⟩, rfl⟩⟩
      · by_cases e : i = 0
        · rw [hb0 e]; omega
        · have := (hb1 (by omega)).2.1; omega
      · by_cases e : i = 0
        · subst e
          obtain rfl := hb0 rfl
          cases L with
          | nil => simp at hlt
          | cons a L => rfl
        · obtain ⟨_, g1, g2⟩ := hb1 (by omega)
          rw [minT_snoc (by omega) hlt, ← g2, if_neg]
          · intro q
            exact hq ((befO_rise (List.pairwise_iff_getElem.1 hs b i hbl hlt g1)).1 q)
    have move : ((L[i].next = 0 ∧ 0 < L[b].next) ∨ (L[b].next < L[i].next ∧ 0 < L[b].next)) → ∀ {M : List (Option (Nat × Obj))} {nv' : Nat}, ∃ j, j < L.length - i ∧ GhostV [.int .i64 ((i : Nat) : Int), .int .i64 (IntKind.i64.wrap ((i : Int) + 1))] ⟨M, nv'⟩ (app (n := 2) (RfI L j)) := fun hq {M nv'} => by
      refine ⟨L.length - (i + 1), by omega, GhostV.keep (L := []) ⟨i + 1, i, _, rfl, by omega, rfl, by rw [wadd1 (by omega)], fun e => by omega, fun _ => ⟨hlt, by omega, ?_⟩, rfl⟩⟩
      have e : ¬ i = 0 := fun e => by
        subst e
        obtain rfl := hb0 rfl
        omega
      obtain ⟨_, g1, g2⟩ := hb1 (by omega)
      rw [minT_snoc (by omega) hlt, ← g2, if_pos ((befO_rise (List.pairwise_iff_getElem.1 hs b i hbl hlt g1)).2 hq)]
    by_cases c1 : L[i].next = 0
    · by_cases c2 : 0 < L[b].next
      · simp [hlt, hbl, eq_true c1, c2]
        exact move (.inl ⟨c1, c2⟩)
      · have c3 : ¬ L[b].next < L[i].next := by omega
        simp [hlt, hbl, eq_true c1, c2, c3]
        exact stay (by omega)
    · by_cases c3 : L[b].next < L[i].next
      · by_cases c2 : 0 < L[b].next
        · simp [hlt, hbl, c1, c2, c3]
          exact move (.inr ⟨c3, c2⟩)
        · simp [hlt, hbl, c1, c2, c3]
          exact stay (by omega)
      · simp [hlt, hbl, c1, c3]
        exact stay (by omega)
  · have hlp : 0 < L.length := List.length_pos_iff.2 hne
    obtain ⟨g0, g1, g2⟩ := hb1 (by omega)
    simp [hlt]
    refine GhostV.refl ⟨rfl, ?_⟩
    have hm : minT L i = minO L := by unfold minT; rw [List.take_of_length_le (by omega)]
    rw [hm] at g2
    obtain ⟨q1, q2⟩ := idx_min hne
    have : b = L.idxOf (minO L) := by
      rcases Nat.lt_trichotomy b (L.idxOf (minO L)) with q | q | q
      · have := List.pairwise_iff_getElem.1 hs _ _ g0 q1 q
        rw [g2, q2] at this; omega
      · exact q
      · have := List.pairwise_iff_getElem.1 hs _ _ q1 g0 q
        rw [g2, q2] at this; omega
    rw [this]; rfl
end Go.Proofs.Ytmbhgjekjpkigaa.AM

namespace Go.Proofs.Ytmbhgjekjpkigaa.AM
open Go
set_option linter.unusedVariables false
set_option linter.unusedSimpArgs false
variable {P : Program}

/-- What makes the document's last look at the numbers the same as the layer's. -/
structure UuInv (s : US) : Prop where
  last : ∀ x ∈ s.left, 0 < x.last ∧ (s.next = 0 ∨ x.last < s.next)
  out : s.next = 0 ∨ ∀ m ∈ s.out, m.lsn < s.next
  rise : s.left.Pairwise fun a b => a.txn < b.txn
theorem rise_set {L : List OpenT} (h : L.Pairwise fun a b => a.txn < b.txn) {i : Nat} (hi : i < L.length) {y : OpenT} (hy : y.txn = L[i].txn) : (L.set i y).Pairwise fun a b => a.txn < b.txn := by
  refine List.pairwise_iff_getElem.2 fun a b ha hb hab => ?_
  have h1 := List.pairwise_iff_getElem.1 h a b (by simpa using ha) (by simpa using hb) hab
  rw [List.getElem_set, List.getElem_set]
  split
  · rename_i e
    subst e
    rw [if_neg (by omega), hy]; exact h1
  · split
    · rename_i e
      subst e
      rw [hy]; exact h1
    · exact h1
theorem UuInv.emit {s : US} (h : UuInv s) (hn : s.next ≠ 0) {left' : List OpenT} {m : RecT} (hm : m.lsn = s.next) (hl : ∀ x ∈ left', x ∈ s.left ∨ x.last = s.next) (hr : left'.Pairwise fun a b => a.txn < b.txn) : UuInv ⟨succU s.next, left', s.out ++ [m]⟩ := by
  refine ⟨fun x hx => ?_, ?_, hr⟩
  · show 0 < x.last ∧ (succU s.next = 0 ∨ x.last < succU s.next)
    have hsu : succU s.next = 0 ∨ succU s.next = s.next + 1 := by unfold succU; split; exact .inl rfl; exact .inr rfl
    rcases hl x hx with q | q
    · have := h.last x q
      omega
    · omega
  · show succU s.next = 0 ∨ ∀ q ∈ s.out ++ [m], q.lsn < succU s.next
    have hsu : succU s.next = 0 ∨ succU s.next = s.next + 1 := by unfold succU; split; exact .inl rfl; exact .inr rfl
    rcases hsu with q | q
    · exact .inl q
    · refine .inr fun r hr => ?_
      rw [q]
      rcases List.mem_append.1 hr with w | w
      · rcases h.out with e | e
        · exact absurd e hn
        · have := e r w; omega
      · obtain rfl := List.mem_singleton.1 w
        omega
theorem sliceV_cut {L : List (Option (Nat × Obj))} {nv id ver len j sz : Nat} {rows : List (List V)} (ho : L[id]? = some (some (ver, .mem sz rows))) (hl : len ≤ rows.length) (hj : j ≤ len) :
    sliceV ⟨L, nv⟩ sz (.msl id ver 0 len) none (some (.int .i64 (j : Int))) (some (.int .i64 (j : Int))) = some (.mcut id ver j) := by
  have e1 : (j : Int) ≤ (rows.length : Int) := by omega
  simp [sliceV, St.get, ho, bounds, V.asInt]
  omega
theorem appendV_cut {L : List (Option (Nat × Obj))} {nv id ver j sz bytes : Nat} {rows ys : List (List V)} (ho : L[id]? = some (some (ver, .mem sz rows))) (hj : j ≤ rows.length) (hr : (j + ys.length) * bytes ≤ 2 ^ 47) :
    appendV ⟨L, nv⟩ sz bytes (.mcut id ver j) ys = some (.msl id nv 0 (j + ys.length), St.renew ⟨L, nv⟩ id (.mem sz (rows.take j ++ ys))) := by
  simp only [appendV, St.get, ho, if_true]
  rw [if_pos ⟨trivial, hj, hr⟩]
def UuK (l : List RecT) (R : List RecT × Int) (k : Nat) (v2 v8 v9 : V) (st : St) : Prop :=
  ∃ (s : US) (va vb nv : Nat) (T : List (List V)), muO s.left ≤ k ∧ undoF l k s = R ∧ (∀ r ∈ s.out, r.old = [] ∧ (r.kind = 4 → r.new = [])) ∧ s.out.length ≤ 64 ∧ s.next < 2 ^ 64 ∧ s.left.length < 2 ^ 40 ∧ UuInv s ∧
    v2 = .int .u64 ((s.next : Nat) : Int) ∧ v8 = .msl 0 va 0 s.left.length ∧ v9 = .msl 1 vb 0 s.out.length ∧
    st = ⟨[some (va, .mem 3 (s.left.map cOpen ++ T)), some (vb, .mem 9 (s.out.map nRec))], nv⟩
def UuJ (l : List RecT) (s : US) (vb nvm : Nat) (v : V) (st : St) : Prop :=
  ∃ (left' : List OpenT) (m : RecT) (va' nv' : Nat) (T' : List (List V)) (o2 o3 : Option (Nat × Obj)) (M : List (Option (Nat × Obj))), undoS l s = emitU s left' m ∧ m.old = [] ∧ (m.kind = 4 → m.new = []) ∧ muO left' < muO s.left ∧ left'.length ≤ s.left.length ∧
    m.lsn = s.next ∧ (∀ x ∈ left', x ∈ s.left ∨ x.last = s.next) ∧ (left'.Pairwise fun a b => a.txn < b.txn) ∧ 0 < m.back ∧ (s.next = 0 ∨ m.back < s.next) ∧
    v = .msl 0 va' 0 left'.length ∧ st = ⟨[some (va', .mem 3 (left'.map cOpen ++ T')), some (vb, .mem 9 (s.out.map nRec)), o2, o3, some (nvm, .mem 9 [nRec m])] ++ M, nv'⟩
set_option maxHeartbeats 16000000 in
theorem Undo12_R (h : RuR P) (l : List RecT) (op : List OpenT) (next : Nat) (hl : l.length < 2 ^ 40) (hrow : rowErr l = 0) (hop : op.length < 2 ^ 40) (hne : op ≠ []) (hnx : next < 2 ^ 64) (hr : rightO l op = true) (ht : ∀ x ∈ op, 0 < x.txn) :
    PCalls P n_gazetteerref12_Undo [.sl .unk 9 (l.map cRec) [], .sl .unk 3 (op.map cOpen) [], .int .u64 next] (fun v => v = undoR l op next) := by
  refine A_gazetteerref12_Undo h.rundo12 ?_
  unfold F_gazetteerref12_Undo
  simp [st0]
  have hrk := (rowErr_zero.1 hrow).2
  have hrec := rowErr_ok hrow
  have err : ∀ {e : Int} {st : St}, undoP l op next = ([], e) → GhostV [.sl .nil 0 [] [], .int .i64 e] st fun vs st => (mkres vs).pure = true ∧ mkres vs = undoR l op next := fun {e st} he =>
    GhostV.le (LeVs.cons (.nil _ 9) (LeVs.refl _)) ⟨by simp [V.pure, pureL, pureLL], by simp [undoR, he]⟩
  by_cases hn0 : next = 0
  · simp [eq_true hn0]
    exact err (e := 2) (by simp [undoP, hrow, hn0])
  simp [hn0]
  refine inv_p (rLast_R h.toTogR l hl) rfl (by simp [pureL, V.pure, pureLL]) ?_
  rintro _ rfl
  by_cases hnl : next ≤ lastLsn l
  · simp [hn0, hnl]
    exact err (e := 2) (by simp [undoP, hrow, hn0, hnl])
  simp [hn0, hnl]
  have hP : undoP l op next = undoF l (muO op) ⟨next, op, []⟩ := by simp [undoP, hrow, hn0, hnl, hr]
  refine inv_p (Right12_R h l op hl hop hrk hr ht) rfl (by simp [pureL, V.pure, pureLL]) ?_
  rintro _ rfl
  simp
  refine ⟨by omega, ?_⟩
  obtain ⟨R, hR⟩ : ∃ R, R = undoF l (muO op) ⟨next, op, []⟩ := ⟨_, rfl⟩
  rw [← hR] at hP
  have hlast : ∀ x ∈ op, 0 < x.last ∧ (next = 0 ∨ x.last < next) := by
    intro x hx
    obtain ⟨i, hi, rfl⟩ := List.getElem_of_mem hx
    unfold rightO rightTo at hr
    rw [List.all_eq_true] at hr
    have := hr i (List.mem_range.2 hi)
    simp only [rightI, List.getElem?_eq_getElem hi, rightAt, Bool.and_eq_true] at this
    cases he : recAt l op[i].last with
    | none => rw [he] at this; exact absurd this.1.1 (by simp)
    | some r =>
      obtain ⟨q1, q2⟩ := recAt_mem he
      have h1 := rowOk_last hrk q1
      have h2 := hrec r q1
      simp only [recOk, decide_eq_true_eq] at h2
      omega
  have hrise : op.Pairwise fun a b => a.txn < b.txn := by
    have key : ∀ j (hj : j < op.length), ∀ i (hi : i < op.length), i < j → op[i].txn < op[j].txn := by
      intro j
      induction j with
      | zero => intro hj i hi hij; omega
      | succ j ih =>
        intro hj i hi hij
        have h1 : op[j].txn < op[j + 1].txn := by
          unfold rightO rightTo at hr
          rw [List.all_eq_true] at hr
          have := hr (j + 1) (List.mem_range.2 hj)
          simp only [rightI, List.getElem?_eq_getElem hj, rightAt, Bool.and_eq_true] at this
          have h2 := this.2
          simp [List.getElem?_eq_getElem (show j < op.length by omega)] at h2
          exact h2
        by_cases e : i = j
        · subst e; exact h1
        · have := ih (by omega) i hi (by omega)
          omega
    exact List.pairwise_iff_getElem.2 fun i j hi hj hij => key j hj i hi hij
  refine ⟨UuK l R, ⟨muO op, GhostV.nil3 9 (by decide) ⟨⟨next, op, []⟩, 1, 2, 3, [], Nat.le_refl _, hR.symm, by simp, by simp, hnx, hop, ⟨hlast, .inr (fun m hm => by cases hm), hrise⟩, rfl, by simp, by simp, by simp⟩⟩, ?_⟩
  rintro k1 v2 v8 v9 st ⟨s, va, vb, nv2, T, hmu, hF, hout, hol, hsn, hsl, hinv, rfl, rfl, rfl, rfl⟩
  by_cases hle : s.left = []
  · simp [hle]
    have hfin : R = (s.out, 0) := by
      rw [← hF]
      cases k1 <;> simp [undoF, hle]
    refine GhostV.trans (K := fun vs st => vs = [.sl .unk 9 (s.out.map nRec) [], .int .i64 0]) (GhostV.rowk (L := []) (sz := 9) (es := s.out.map nRec) (by simp) (by simp) (by simp) ?_) ?_
    · rw [List.drop_zero, List.take_of_length_le (by simp)]
    · rintro _ st rfl
      refine GhostV.le (LeVs.cons (nRec_le hout) (LeVs.refl _)) ⟨by simp [V.pure, pureL, pureLL], by simp [undoR, hP, hfin]⟩
  have hlp : 0 < s.left.length := List.length_pos_iff.2 hle
  simp [hlp]
  refine inv_look (First12_R h s.left hsl hle hinv.rise) (Bors.cons (Bor.rowG (sz := 3) (l := s.left) (c := cOpen) (rows := s.left.map cOpen ++ T) (fun _ => rfl) (by simp [St.get]) (List.take_left' (by simp)) (by simp)) Bors.nil) (by simp [pureL, V.pure, pureLL]) ?_
  rintro _ rfl
  refine ⟨rfl, ?_⟩
  obtain ⟨x, hx⟩ : ∃ x, x = minO s.left := ⟨_, rfl⟩
  have hxm : x ∈ s.left := by rw [hx]; exact minO_mem hle
  rw [← hx]
  obtain ⟨j, hj⟩ : ∃ j, j = s.left.idxOf x := ⟨_, rfl⟩
  have hjl : j < s.left.length := by rw [hj]; exact List.idxOf_lt_length_iff.2 hxm
  have hjx : s.left[j] = x := by subst hj; simp
  rw [← hj]
  have hS : undoS l s = if x.next = 0 then emitU s (s.left.eraseIdx j) (endRec s x) else match recAt l x.next with
    | none => .inr 220
    | some r =>
      if r.txn ≠ x.txn ∨ chgR r = false then .inr 220
      else if r.kind = 2 then .inl ⟨s.next, s.left.set j ⟨x.txn, x.last, r.next⟩, s.out⟩
      else emitU s (s.left.set j ⟨x.txn, s.next, r.back⟩) (undRec s x r) := by unfold undoS; dsimp only; (rw [← hx, ← hj]) <;> rfl
  have hFs : ∀ e, undoS l s = .inr e → R = ([], e) := by
    intro e he
    rw [← hF]
    have := muO_pos hle
    obtain ⟨k, rfl⟩ : ∃ k, k1 = k + 1 := ⟨k1 - 1, by omega⟩
    simp [undoF, hle, he]
  have hFn : ∀ s', undoS l s = .inl s' → muO s'.left < muO s.left → ∃ k, k < k1 ∧ muO s'.left ≤ k ∧ undoF l k s' = R := by
    intro s' he hmm
    have := muO_pos hle
    obtain ⟨k, rfl⟩ : ∃ k, k1 = k + 1 := ⟨k1 - 1, by omega⟩
    refine ⟨k, by omega, by omega, ?_⟩
    rw [← hF]; simp [undoF, hle, he]
  have hg : (s.left.map cOpen ++ T)[j]? = some (cOpen x) := by
    rw [List.getElem?_append_left (by simpa using hjl), List.getElem?_map, List.getElem?_eq_getElem hjl, hjx]; rfl
  simp [hjl, hg]
  refine inv_p (At12_R h l x.next hl hrk) rfl (by simp [pureL, V.pure, pureLL]) ?_
  rintro vv hvv
  have hxl := hinv.last x hxm
  have erow : List.take j (s.left.map cOpen ++ T) ++ (List.take (s.left.length - (j + 1)) (List.drop (j + 1) (s.left.map cOpen ++ T))) = (s.left.eraseIdx j).map cOpen := by
    have h1 : List.take j (s.left.map cOpen ++ T) = List.take j (s.left.map cOpen) := List.take_append_of_le_length (by simp; omega)
    have h2 : List.drop (j + 1) (s.left.map cOpen ++ T) = List.drop (j + 1) (s.left.map cOpen) ++ T := List.drop_append_of_le_length (by simp; omega)
    have h3 : List.take (s.left.length - (j + 1)) (List.drop (j + 1) (s.left.map cOpen) ++ T) = List.drop (j + 1) (s.left.map cOpen) := List.take_left' (by simp)
    rw [h1, h2, h3, List.eraseIdx_eq_take_drop_succ, List.map_append, List.map_take, List.map_drop]
  cases hrc : recAt l x.next
  have hav : atV l x.next = .tup [.agg zRc, .bool false] := by simp [atV, hrc]
  rw [hav] at hvv
  subst hvv
  simp
  refine ⟨UuJ l s vb (nv2 + 2) , ?_, ?_⟩
  · by_cases hx0 : x.next = 0
    · simp [eq_true hx0]
      rw [sliceV_cut (rows := s.left.map cOpen ++ T) rfl (by simp) (by omega)]
      simp
      rw [wadd1 (by omega)]
      refine ⟨⟨by omega, by omega, by omega⟩, ?_⟩
      rw [Int.toNat_natCast, if_pos (by omega)]
      simp only []
      have hyl : (List.take (s.left.length - (j + 1)) (List.drop (j + 1) (s.left.map cOpen ++ T))).length = s.left.length - (j + 1) := by simp; omega
      rw [appendV_cut (rows := s.left.map cOpen ++ T) rfl (by simp; omega) (by rw [hyl]; omega), erow, hyl]
      have hlen : j + (s.left.length - (j + 1)) = (s.left.eraseIdx j).length := by rw [List.length_eraseIdx, if_pos hjl]; omega
      rw [hlen]
      have hme := muO_erase hjl
      simp [St.renew]
      exact GhostV.refl ⟨s.left.eraseIdx j, endRec s x, nv2 + 3, nv2 + 4, [], some (nv2, .mem 3 [cOpen x]), some (nv2 + 1, .mem 9 [zRc]), [], by rw [hS, if_pos hx0], rfl, fun _ => rfl, by omega, by rw [← hlen]; omega, rfl, fun y hy => .inl (List.mem_of_mem_eraseIdx hy), hinv.rise.sublist (List.eraseIdx_sublist _ _), hxl.1, hxl.2, rfl, by simp [endRec]⟩
    · simp [hx0]
      have := hFs 220 (by rw [hS, if_neg hx0, hrc])
      exact err (e := 220) (by rw [hP, this])
  rotate_left
  rename_i r
  have hav : atV l x.next = .tup [.agg (cRec r), .bool true] := by simp [atV, hrc]
  rw [hav] at hvv
  subst hvv
  obtain ⟨hrm, hrl⟩ := recAt_mem hrc
  have hok := hrec r hrm
  have hbk : r.back < x.next ∧ r.next ≤ r.back ∧ r.old.length ≤ 52 ∧ (chgR r = true → r.kind = 1 ∨ r.kind = 2) := by
    simp only [recOk, decide_eq_true_eq] at hok
    refine ⟨by omega, by omega, by omega, fun hc => ?_⟩
    simp only [chgR, Bool.or_eq_true, decide_eq_true_eq] at hc
    exact hc
  have hset : ∀ y : OpenT, (s.left.map cOpen).set j [V.int .u64 ((y.txn : Nat) : Int), V.int .u64 ((y.last : Nat) : Int), V.int .u64 ((y.next : Nat) : Int)] = (s.left.set j y).map cOpen := fun y => List.map_set.symm
  simp
  refine ⟨UuJ l s vb (nv2 + 2), ?_, ?_⟩
  · by_cases hx0 : x.next = 0
    · simp [eq_true hx0]
      rw [sliceV_cut (rows := s.left.map cOpen ++ T) rfl (by simp) (by omega)]
      simp
      rw [wadd1 (by omega)]
      refine ⟨⟨by omega, by omega, by omega⟩, ?_⟩
      rw [Int.toNat_natCast, if_pos (by omega)]
      simp only []
      have hyl : (List.take (s.left.length - (j + 1)) (List.drop (j + 1) (s.left.map cOpen ++ T))).length = s.left.length - (j + 1) := by simp; omega
      rw [appendV_cut (rows := s.left.map cOpen ++ T) rfl (by simp; omega) (by rw [hyl]; omega), erow, hyl]
      have hlen : j + (s.left.length - (j + 1)) = (s.left.eraseIdx j).length := by rw [List.length_eraseIdx, if_pos hjl]; omega
      rw [hlen]
      have hme := muO_erase hjl
      simp [St.renew]
      exact GhostV.refl ⟨s.left.eraseIdx j, endRec s x, nv2 + 3, nv2 + 4, [], some (nv2, .mem 3 [cOpen x]), some (nv2 + 1, .mem 9 [cRec r]), [], by rw [hS, if_pos hx0], rfl, fun _ => rfl, by omega, by rw [← hlen]; omega, rfl, fun y hy => .inl (List.mem_of_mem_eraseIdx hy), hinv.rise.sublist (List.eraseIdx_sublist _ _), hxl.1, hxl.2, rfl, by simp [endRec]⟩
    by_cases c1 : r.txn = x.txn
    case neg =>
      simp [hx0, c1]
      have := hFs 220 (by rw [hS, if_neg hx0, hrc]; simp [c1])
      exact err (e := 220) (by rw [hP, this])
    have c1e : (r.txn = x.txn) = True := eq_true c1
    simp [hx0, c1e]
    refine inv_p (rChg_R h.toTogR r) rfl (by simp [pureL, V.pure, pureLL]) ?_
    rintro _ rfl
    cases c2 : chgR r
    · simp [c1e]
      have := hFs 220 (by rw [hS, if_neg hx0, hrc]; simp [c2])
      exact err (e := 220) (by rw [hP, this])
    by_cases c3 : r.kind = 2
    · simp [c1e, c3, hjl]
      obtain ⟨k, hk1, hk2, hk3⟩ := hFn ⟨s.next, s.left.set j ⟨x.txn, x.last, r.next⟩, s.out⟩ (by rw [hS, if_neg hx0, hrc]; simp [c1, c2, c3]) (by
        have := muO_set hjl ⟨x.txn, x.last, r.next⟩
        rw [hjx] at this
        dsimp only at this ⊢; omega)
      have hinv' : UuInv ⟨s.next, s.left.set j ⟨x.txn, x.last, r.next⟩, s.out⟩ := by
        refine ⟨fun y hy => ?_, hinv.out, rise_set hinv.rise hjl (by rw [hjx])⟩
        rcases List.mem_or_eq_of_mem_set hy with q | q
        · exact hinv.last y q
        · subst q; exact hxl
      rw [hg]
      simp
      rw [hset ⟨x.txn, x.last, r.next⟩]
      exact ⟨k, hk1, GhostV.keep (L := [_, _]) ⟨⟨s.next, s.left.set j ⟨x.txn, x.last, r.next⟩, s.out⟩, va, vb, _, T, hk2, hk3, hout, hol, hsn, by simpa using hsl, hinv', rfl, by simp, rfl, rfl⟩⟩
    · simp [c1e, c3]
      refine ⟨by omega, hjl, ?_⟩
      rw [hg]
      simp [hjl, List.set_append_left]
      have hg2 : ((s.left.map cOpen).set j [V.int .u64 ((x.txn : Nat) : Int), V.int .u64 ((s.next : Nat) : Int), V.int .u64 ((x.next : Nat) : Int)] ++ T)[j]? = some [V.int .u64 ((x.txn : Nat) : Int), V.int .u64 ((s.next : Nat) : Int), V.int .u64 ((x.next : Nat) : Int)] := by
        rw [List.getElem?_append_left (by simpa using hjl), List.getElem?_set_self (by simpa using hjl)]
      rw [hg2]
      simp
      rw [hset ⟨x.txn, s.next, r.back⟩]
      have hmu2 := muO_set hjl ⟨x.txn, s.next, r.back⟩
      rw [hjx] at hmu2
      dsimp only at hmu2
      have tk : List.take r.old.length (List.map c8 r.old) = List.map c8 r.old := List.take_of_length_le (by simp)
      have dk : List.drop r.old.length (List.map c8 r.old) = [] := List.drop_eq_nil_of_le (by simp)
      refine GhostV.frzO (b := 4) (id := 5) (i := 0) (j := 7) (by decide) rfl rfl rfl rfl (by simp) ?_
      simp [tk, dk]
      exact GhostV.refl ⟨s.left.set j ⟨x.txn, s.next, r.back⟩, undRec s x r, va, nv2 + 5, T, some (nv2, .mem 3 [cOpen x]), some (nv2 + 1, .mem 9 [cRec r]), [none], by rw [hS, if_neg hx0, hrc]; simp [c1, c2, c3], rfl, fun q => by simp [undRec] at q, by omega, by simp, rfl, fun y hy => by
        rcases List.mem_or_eq_of_mem_set hy with q | q
        · exact .inl q
        · subst q; exact .inr rfl, rise_set hinv.rise hjl (by rw [hjx]), hxl.1, hxl.2, by simp, by simp [undRec]⟩
  all_goals
    rintro v8_1 st ⟨left', m, va', nv', T', o2, o3, M, hE, hmo, hm4, hmu', hll, hml, hlx, hrs, hb0, hbn, rfl, rfl⟩
    have h5 : ∀ (a b c d e : Option (Nat × Obj)) (q : Nat), ([a, b, c, d, e] ++ M)[q + 5]? = M[q]? := fun a b c d e q => by simp
    by_cases hoc : ((s.out.length : Nat) : Int) = 64
    · have hout64 : s.out.length = 64 := by omega
      simp [hoc]
      have := hFs 3 (by rw [hE]; simp [emitU, hout64])
      exact err (e := 3) (by rw [hP, this])
    have hout64 : ¬ s.out.length = 64 := by omega
    by_cases hnx0 : s.next = 0
    · have hlt : ((s.next : Nat) : Int) < (m.back : Int) := by omega
      simp [hoc, hnx0, hb0]
      have := hFs 3 (by rw [hE]; simp [emitU, hnx0])
      exact err (e := 3) (by rw [hP, this])
    have hnb : ¬ s.next < m.back := by omega
    simp [hoc, hnb]
    obtain ⟨k, hk1, hk2, hk3⟩ := hFn ⟨succU s.next, left', s.out ++ [m]⟩ (by rw [hE]; exact emitU_mk hout64 hnx0) hmu'
    have hinv' : UuInv ⟨succU s.next, left', s.out ++ [m]⟩ := hinv.emit hnx0 hml hlx hrs
    have hadd := add1_succU hsn
    have hsu := succU_lt hsn
    have erows : s.out.map nRec ++ [nRec m] = (s.out ++ [m]).map nRec := by rw [List.map_append]; rfl
    have hnew : ∀ r ∈ s.out ++ [m], r.old = [] ∧ (r.kind = 4 → r.new = []) := by
      intro r hr
      rcases List.mem_append.1 hr with q | q
      · exact hout r q
      · obtain rfl : r = m := by simpa using q
        exact ⟨hmo, hm4⟩
    by_cases ho0 : s.out = []
    · simp [ho0, hoc, hnb, hadd]
      exact ⟨k, hk1, GhostV.keep (L := [_, _]) ⟨⟨succU s.next, left', s.out ++ [m]⟩, va', nv' + 1, _, T', hk2, hk3, hnew, by simp [ho0], hsu, by dsimp only; omega, hinv', rfl, rfl, by simp [ho0], by rw [← erows, ho0]; rfl⟩⟩
    · have hop0 : 0 < s.out.length := List.length_pos_iff.2 ho0
      have hwo := wsub1 (x := s.out.length) (by omega) hop0
      have hol1 : s.out.length - 1 < s.out.length := by omega
      have hll2 : ¬ s.next ≤ (s.out[s.out.length - 1]).lsn := by
        rcases hinv.out with e | e
        · exact absurd e hnx0
        · have := e _ (List.getElem_mem hol1); omega
      simp [hop0, hwo, hol1, hll2, hadd]
      exact ⟨by omega, k, hk1, GhostV.keep (L := [_, _]) ⟨⟨succU s.next, left', s.out ++ [m]⟩, va', nv' + 1, _, T', hk2, hk3, hnew, by simp; omega, hsu, by dsimp only; omega, hinv', rfl, rfl, by simp, by rw [← erows]; rfl⟩⟩
end Go.Proofs.Ytmbhgjekjpkigaa.AM

namespace Go.Proofs.Ytmbhgjekjpkigaa.AM
open Go
set_option linter.unusedVariables false
set_option linter.unusedSimpArgs false
variable {P : Program}

theorem openL_pos {l : List RecT} (h : ∀ r ∈ l, 0 < r.txn) : ∀ x ∈ openL l, 0 < x.txn := by
  intro x hx
  unfold openL at hx
  obtain ⟨t, ht, rfl⟩ := List.mem_map.1 hx
  rw [openOf_txn]
  obtain ⟨r, hr, rfl⟩ := mem_txnsL.1 (List.mem_filter.1 ht).1
  exact h r hr
set_option maxHeartbeats 4000000 in
theorem All12_R (h : RuR P) (ps : List PageT) (l : List RecT) (next : Nat) (hp : ps.length < 2 ^ 40) (hl : l.length < 2 ^ 40) (hrow : rowErr l = 0) (hnx : next < 2 ^ 64) :
    PCalls P n_gazetteerref12_All [.sl .unk 6 (ps.map cPage) [], .sl .unk 9 (l.map cRec) [], .int .u64 next] (fun v => v = redoAllR ps l next) := by
  refine A_gazetteerref12_All h.rall12 ?_
  unfold F_gazetteerref12_All
  simp [st0]
  refine inv_p (Tog_R h.toDoeR ps l hp hl) rfl (by simp [pureL, V.pure, pureLL]) ?_
  rintro _ rfl
  have err : ∀ {e : Int} {st : St}, allP ps l next = ([], [], e) → GhostV [.sl .nil 0 [] [], .sl .nil 0 [] [], .int .i64 e] st fun vs st => (mkres vs).pure = true ∧ mkres vs = redoAllR ps l next := fun {e st} he =>
    GhostV.le (LeVs.cons (.nil _ 6) (LeVs.cons (.nil _ 9) (LeVs.refl _))) ⟨by simp [V.pure, pureL, pureLL], by simp [redoAllR, he]⟩
  cases hc : togP ps l
  · simp
    exact err (by simp [allP, checkR, hrow, hc])
  have hck : checkR ps l = 0 := by simp [checkR, hrow, hc]
  obtain ⟨q1, q2, q3⟩ := togP_pages hc
  have hrec := rowErr_ok hrow
  have hag : ∀ r ∈ l, agRec r := fun r hr => recOk_ag (hrec r hr)
  have hpos : ∀ r ∈ l, 0 < r.txn := fun r hr => by
    have := hrec r hr
    simp only [recOk, decide_eq_true_eq] at this
    omega
  obtain ⟨i1, i2, i3⟩ := againP_inv q2 q3 hag
  simp
  refine inv_p (rOpen12 h.toOpnR l hl hpos) rfl (by simp [pureL, V.pure, pureLL]) ?_
  rintro _ rfl
  have hol := openL_len (l := l)
  simp
  by_cases ho : openL l = []
  · simp [ho]
    refine inv_p (Redo12_R h.toDoeR ps l hp hl (fun x hx => pageOk.short (q3 x hx)) hag) rfl (by simp [pureL, V.pure, pureLL]) ?_
    rintro _ rfl
    simp
    have q := PCalls.le (LeVs.cons (LeV.refl _) (LeVs.cons (LeV.nil 0 9) (LeVs.refl []))) (Redo12_R h.toDoeR (againP ps l) [] (by omega) (by simp) (fun x hx => pageOk.short (i2 x hx)) (fun r hr => by cases hr))
    refine inv_p q rfl (by simp [pureL, V.pure, pureLL]) ?_
    rintro _ rfl
    simp
    exact GhostV.le (LeVs.cons (.refl _) (LeVs.cons (.nil _ 9) (LeVs.refl _))) ⟨by simp [V.pure, pureL, pureLL], by simp [redoAllR, allP, hck, ho, againP]⟩
  have hop : 0 < (openL l).length := List.length_pos_iff.2 ho
  simp [hop]
  refine inv_p (Undo12_R h l (openL l) next hl hrow (by omega) ho hnx (rightO_open (rowErr_zero.1 hrow).2) (openL_pos hpos)) rfl (by simp [pureL, V.pure, pureLL]) ?_
  rintro _ rfl
  simp [undoR]
  by_cases he : (undoP l (openL l) next).2 = 0
  case neg =>
    simp [he]
    exact err (by simp [allP, hck, ho, he])
  simp [he]
  refine inv_p (Redo12_R h.toDoeR ps l hp hl (fun x hx => pageOk.short (q3 x hx)) hag) rfl (by simp [pureL, V.pure, pureLL]) ?_
  rintro _ rfl
  simp
  have hml := undoP_len (l := l) (op := openL l) (next := next)
  refine inv_p (Redo12_R h.toDoeR (againP ps l) (undoP l (openL l) next).1 (by omega) (by omega) (fun x hx => pageOk.short (i2 x hx)) (undoP_ag hrec)) rfl (by simp [pureL, V.pure, pureLL]) ?_
  rintro _ rfl
  simp
  exact GhostV.refl ⟨by simp [V.pure, pureL, pureLL], by simp [redoAllR, allP, hck, ho, he]⟩
end Go.Proofs.Ytmbhgjekjpkigaa.AM

namespace Go.Proofs.Ytmbhgjekjpkigaa.AM
open Go
set_option linter.unusedVariables false
set_option linter.unusedSimpArgs false
variable {P : Program}

/-- A record that is made: its old bytes are none, its new ones owned, or none. -/
abbrev mRec (r : RecT) (v : V) : List V := [.int .u64 r.lsn, .int .i64 r.kind, .int .u64 r.txn, .int .u64 r.back, .int .i64 r.page, .int .i64 r.slot, .sl .nil 0 [] [], v, .int .u64 r.next]
def NewAt (A : List (Option (Nat × Obj))) (v : V) (r : RecT) : Prop := r.old = [] ∧ r.new.length ≤ 52 ∧ ((r.kind = 4 ∧ v = .sl .nil 0 [] [] ∧ r.new = []) ∨ (r.kind ≠ 4 ∧ SlotIs A v r.new))
def MadeIs (A : List (Option (Nat × Obj))) (rows : List (List V)) (out : List RecT) : Prop := rows.length = out.length ∧ ∀ i (h : i < out.length), ∃ v, rows[i]? = some (mRec out[i] v) ∧ NewAt A v out[i]
theorem NewAt.up {A B : List (Option (Nat × Obj))} {v : V} {r : RecT} (h : NewAt A v r) (hu : ∀ v b, SlotIs A v b → SlotIs B v b) : NewAt B v r := ⟨h.1, h.2.1, h.2.2.imp id fun q => ⟨q.1, hu _ _ q.2⟩⟩
theorem MadeIs.up {A B : List (Option (Nat × Obj))} {rows : List (List V)} {out : List RecT} (h : MadeIs A rows out) (hu : ∀ v b, SlotIs A v b → SlotIs B v b) : MadeIs B rows out :=
  ⟨h.1, fun i hi => by
    obtain ⟨v, e, k⟩ := h.2 i hi
    exact ⟨v, e, k.up hu⟩⟩
theorem MadeIs.snoc {A : List (Option (Nat × Obj))} {rows : List (List V)} {out : List RecT} {m : RecT} {v : V} (h : MadeIs A rows out) (hm : NewAt A v m) : MadeIs A (rows ++ [mRec m v]) (out ++ [m]) := by
  refine ⟨by simp [h.1], fun i hi => ?_⟩
  by_cases e : i < out.length
  · obtain ⟨w, e1, k⟩ := h.2 i e
    refine ⟨w, ?_, ?_⟩
    · rw [List.getElem?_append_left (by rw [h.1]; exact e), List.getElem_append_left e]; exact e1
    · rw [List.getElem_append_left e]; exact k
  · have e2 : i = out.length := by simp at hi; omega
    subst e2
    refine ⟨v, ?_, ?_⟩
    · rw [List.getElem?_append_right (by rw [h.1]; exact Nat.le_refl _), h.1]; simp
    · simpa using hm
theorem NewAt.bor {A : List (Option (Nat × Obj))} {v : V} {r : RecT} (h : NewAt A v r) (nv : Nat) : Bor ⟨A, nv⟩ (.agg (mRec r v)) (.agg (nRec r)) :=
  .agg _ _ rfl (fun i hi => by
    match i, hi with
    | 0, _ => exact .refl _
    | 1, _ => exact .refl _
    | 2, _ => exact .refl _
    | 3, _ => exact .refl _
    | 4, _ => exact .refl _
    | 5, _ => exact .refl _
    | 6, _ => exact .refl _
    | 7, _ =>
      show Bor _ v (if r.kind = 4 then .sl .nil 0 [] [] else vB r.new)
      rcases h.2.2 with ⟨h1, h2, _⟩ | ⟨h1, h2⟩
      · rw [if_pos h1, h2]; exact .refl _
      · rw [if_neg h1]; exact h2.bor nv
    | 8, _ => exact .refl _)
theorem MadeIs.bor {A : List (Option (Nat × Obj))} {rows : List (List V)} {out : List RecT} (h : MadeIs A rows out) {va nv : Nat} {id : Nat} (h0 : A[id]? = some (some (va, .mem 9 rows))) : Bor ⟨A, nv⟩ (.msl id va 0 out.length) (.sl .unk 9 (out.map nRec) []) := by
  refine .msl id va 0 out.length 9 rows (out.map nRec) (by simp [St.get, h0]) (by rw [h.1]; omega) (by simp) (fun i hi => by simp [List.getD, hi]) (fun i j hi hj => ?_)
  obtain ⟨v, hr, k⟩ := h.2 i hi
  have e1 : rows.getD (0 + i) [] = mRec out[i] v := by rw [Nat.zero_add, List.getD, hr]; rfl
  have e2 : (out.map nRec).getD i [] = nRec out[i] := by simp [List.getD, hi]
  have hb := k.bor nv
  rw [e1, e2]
  match j, hj with
  | 0, _ => exact .refl _
  | 1, _ => exact .refl _
  | 2, _ => exact .refl _
  | 3, _ => exact .refl _
  | 4, _ => exact .refl _
  | 5, _ => exact .refl _
  | 6, _ => exact .refl _
  | 7, _ =>
    show Bor _ v (if out[i].kind = 4 then .sl .nil 0 [] [] else vB out[i].new)
    rcases k.2.2 with ⟨h1, h2, _⟩ | ⟨h1, h2⟩
    · rw [if_pos h1, h2]; exact .refl _
    · rw [if_neg h1]; exact h2.bor nv
  | 8, _ => exact .refl _
theorem MadeIs.four {A : List (Option (Nat × Obj))} {rows : List (List V)} {out : List RecT} (h : MadeIs A rows out) : ∀ r ∈ out, (r.old = [] ∧ (r.kind = 4 → r.new = [])) ∧ r.new.length ≤ 52 := by
  intro r hr
  obtain ⟨i, hi, rfl⟩ := List.getElem_of_mem hr
  obtain ⟨v, _, k⟩ := h.2 i hi
  exact ⟨⟨k.1, fun h4 => by
    rcases k.2.2 with ⟨_, _, h3⟩ | ⟨h3, _⟩
    · exact h3
    · exact absurd h4 h3⟩, k.2.1⟩
theorem tail3 {ep : Nat} {ks : List Nat} {f : Nat → V} {va vb : Nat} {e3 e9 : List (List V)} {B : List (Option (Nat × Obj))} {v : V} {b : List UInt8} (h : SlotIs (oMap 0 ep ks f :: some (va, .mem 3 e3) :: some (vb, .mem 9 e9) :: B) v b) (x y z : Option (Nat × Obj)) (X : List (Option (Nat × Obj))) : SlotIs (x :: y :: z :: (B ++ X)) v b := by
  obtain ⟨id, ver, rfl, h2⟩ := h
  refine ⟨id, ver, rfl, ?_⟩
  match id, h2 with
  | 0, h2 => simp [oMap] at h2
  | 1, h2 => simp at h2
  | 2, h2 => simp at h2
  | id + 3, h2 =>
    simp only [List.getElem?_cons_succ] at h2 ⊢
    rw [List.getElem?_append_left (List.getElem?_eq_some_iff.1 h2).1]
    exact h2
def UnKd (l : List RecT) (ep : Nat) (ks : List Nat) (R : List RecT × Int) (k : Nat) (v2 v16 v17 : V) (st : St) : Prop :=
  ∃ (s : US) (va vb nv : Nat) (T rows : List (List V)) (B : List (Option (Nat × Obj))), muO s.left ≤ k ∧ undoF l k s = R ∧ MadeIs (oMap 0 ep ks (fR l) :: some (va, .mem 3 (s.left.map cOpen ++ T)) :: some (vb, .mem 9 rows) :: B) rows s.out ∧ s.out.length ≤ 64 ∧ s.next < 2 ^ 64 ∧ s.left.length < 2 ^ 40 ∧
    v2 = .int .u64 ((s.next : Nat) : Int) ∧ v16 = .msl 1 va 0 s.left.length ∧ v17 = .msl 2 vb 0 s.out.length ∧
    st = ⟨oMap 0 ep ks (fR l) :: some (va, .mem 3 (s.left.map cOpen ++ T)) :: some (vb, .mem 9 rows) :: B, nv⟩
def UnLd (l : List RecT) (s : US) (ep vb nvm : Nat) (ks : List Nat) (rows : List (List V)) (B : List (Option (Nat × Obj))) (v : V) (st : St) : Prop :=
  ∃ (left' : List OpenT) (m : RecT) (va' nv' : Nat) (T' : List (List V)) (o3 o4 : Option (Nat × Obj)) (w : V) (X : List (Option (Nat × Obj))), undoS l s = emitU s left' m ∧ muO left' < muO s.left ∧ left'.length ≤ s.left.length ∧
    NewAt (oMap 0 ep ks (fR l) :: some (va', .mem 3 (left'.map cOpen ++ T')) :: some (vb, .mem 9 rows) :: (B ++ (o3 :: o4 :: some (nvm, .mem 9 [mRec m w]) :: X))) w m ∧
    v = .msl 1 va' 0 left'.length ∧ st = ⟨oMap 0 ep ks (fR l) :: some (va', .mem 3 (left'.map cOpen ++ T')) :: some (vb, .mem 9 rows) :: (B ++ (o3 :: o4 :: some (nvm, .mem 9 [mRec m w]) :: X)), nv'⟩
set_option maxHeartbeats 8000000 in
theorem Undo_D (h : UndR P) (l : List RecT) (op : List OpenT) (next : Nat) (hl : l.length < 2 ^ 40) (hw : rowW l) (hop : op.length < 2 ^ 40) (hnx : next < 2 ^ 64) {K : V → St → Prop}
    (he0 : (undoP l op next).2 ≠ 0 → ∀ st, K (.tup [.sl .unk 9 [] [], .int .i64 (undoP l op next).2]) st)
    (hk : (undoP l op next).2 = 0 → ∀ vb rows A nv, A[2]? = some (some (vb, .mem 9 rows)) → MadeIs A rows (undoP l op next).1 → K (.tup [.msl 2 vb 0 (undoP l op next).1.length, .int .i64 0]) ⟨A, nv⟩) :
    ACalls P n_redo_Undo [.sl .unk 9 (l.map cRec) [], .sl .unk 3 (op.map cOpen) [], .int .u64 next] st0 K := by
  refine A_redo_Undo h.undo ?_
  unfold F_redo_Undo
  simp [st0]
  refine inv_p (CheckRow_R h.toRowR l hl hw) rfl (by simp [pureL, V.pure, pureLL]) ?_
  rintro _ rfl
  have err : ∀ {e : Int} {st : St}, undoP l op next = ([], e) → e ≠ 0 → GhostV [.sl .nil 0 [] [], .int .i64 e] st fun vs st => K (mkres vs) st := fun {e st} he hne =>
    GhostV.le (LeVs.cons (.nil _ 9) (LeVs.refl _)) (by
      have := he0 (by rw [he]; exact hne) st
      rw [he] at this
      exact this)
  by_cases hrow : rowErr l = 0
  case neg =>
    simp [hrow]
    exact err (by simp [undoP, hrow]) hrow
  have h64 := rowErr_len hrow
  have hrec := rowErr_ok hrow
  simp [hrow]
  by_cases hn0 : next = 0
  · simp [eq_true hn0]
    exact err (e := 2) (by simp [undoP, hrow, hn0]) (by omega)
  simp [hn0]
  refine inv_p (End_R h.toTogR l hl) rfl (by simp [pureL, V.pure, pureLL]) ?_
  rintro _ rfl
  by_cases hnl : next ≤ lastLsn l
  · simp [hn0, hnl]
    exact err (e := 2) (by simp [undoP, hrow, hn0, hnl]) (by omega)
  simp [hn0, hnl]
  have hP : undoP l op next = if rightO l op = false then ([], 220) else undoF l (muO op) ⟨next, op, []⟩ := by simp [undoP, hrow, hn0, hnl]
  refine ⟨UnI l, ⟨l.length, GhostV.refl ⟨0, _, 1, [], by simp, by simp, by simp, by simp, by simp [recAt], rfl⟩⟩, ?_⟩
  rintro k1 v39 st ⟨i, nv, ep, ks, rfl, hi, rfl, hnd, hks, rfl⟩
  by_cases hlt : i < l.length
  · have hm : mfind (.one .int) (.int .u64 ((l[i].lsn : Nat) : Int)) (ks.map (entF (fR (l.take i)))) 0 = _ := mfind_G (κ := .u64) uE_inj (f := fR (l.take i)) l[i].lsn ks
    have hks' : ∀ n, n ∈ addG ks l[i].lsn ↔ (recAt (l.take (i + 1)) n).isSome = true := by
      intro n
      rw [mem_addG, hks, recAt_snoc hlt]
      by_cases e : l[i].lsn = n
      · simp [e]
      · simp [e]
        intro q; exact absurd q.symm e
    by_cases hin : l[i].lsn ∈ ks
    · have e := set_G (κ := .u64) (e := uE) (f := fR (l.take i)) hin hnd (.agg (cRec l[i]))
      rw [updG_fR hlt, entG_F] at e
      simp only [uE, cRec] at e
      simp [hlt, oMap, hm, hin, e]
      exact ⟨l.length - (i + 1), by omega, GhostV.keep (L := [_]) (M := [_]) ⟨i + 1, _, _, addG ks l[i].lsn, rfl, by omega, by rw [wadd1 (by omega)], addG_nodup hnd, hks', rfl⟩⟩
    · have e := app_G (κ := .u64) (e := uE) (f := fR (l.take i)) hin (.agg (cRec l[i]))
      rw [updG_fR hlt, entG_F] at e
      simp only [uE, cRec] at e
      simp [hlt, oMap, hm, hin, e]
      exact ⟨l.length - (i + 1), by omega, GhostV.keep (L := [_]) (M := [_]) ⟨i + 1, _, _, addG ks l[i].lsn, rfl, by omega, by rw [wadd1 (by omega)], addG_nodup hnd, hks', rfl⟩⟩
  rw [List.take_of_length_le (by omega)] at hks ⊢
  simp [hlt]
  refine ⟨UnJ l op ep ks, ⟨op.length, GhostV.refl ⟨0, _, by simp, by simp, by simp, by simp [rightTo], rfl⟩⟩, ?_⟩
  rintro k2 v50 st ⟨i, nv, rfl, hi, rfl, hrt, rfl⟩
  by_cases hlt2 : i < op.length
  · have hm : mfind (.one .int) (.int .u64 ((op[i].last : Nat) : Int)) (ks.map (entF (fR l))) 0 = _ := mfind_G (κ := .u64) uE_inj (f := fR l) op[i].last ks
    have hri : rightI l op i = rightAt l op i op[i] := by simp [rightI, hlt2]
    have bad : rightAt l op i op[i] = false → ∀ {st : St}, GhostV [.sl .nil 0 [] [], .int .i64 220] st fun vs st => K (mkres vs) st := fun hb st => err (by rw [hP, if_pos (rightO_false hlt2 (by rw [hri]; exact hb))]) (by omega)
    cases hrc : recAt l op[i].last with
    | none =>
      have hin : op[i].last ∉ ks := fun q => by rw [hks, hrc] at q; cases q
      simp [hlt2, oMap, hm, hin]
      exact bad (by simp [rightAt, hrc])
    | some r =>
      have hin : op[i].last ∈ ks := by rw [hks, hrc]; rfl
      have hfr : fR l op[i].last = .agg (cRec r) := by simp [fR, hrc]
      by_cases c1 : r.txn = op[i].txn
      case neg =>
        simp [hlt2, oMap, hm, hin, hfr, c1]
        exact bad (by simp [rightAt, hrc, c1])
      by_cases c2 : op[i].last < op[i].next
      · simp [hlt2, oMap, hm, hin, hfr, eq_true c1, c2]
        exact bad (by simp [rightAt, hrc, c1]; omega)
      have c2' : op[i].next ≤ op[i].last := by omega
      have good : (decide (i = 0) || decide (((op[i - 1]?).map (·.txn)).getD 0 < op[i].txn)) = true → ∀ {M : List (Option (Nat × Obj))} {nv' : Nat}, ∃ j, j < op.length - i ∧ GhostV [.int .i64 (IntKind.i64.wrap ((i : Int) + 1))] ⟨[oMap 0 ep ks (fR l)] ++ M, nv'⟩ (app (n := 1) (UnJ l op ep ks j)) := fun hq {M nv'} =>
        ⟨op.length - (i + 1), by omega, GhostV.keep ⟨i + 1, _, rfl, by omega, by rw [wadd1 (by omega)], by rw [rightTo_snoc, hrt, hri]; simp only [rightAt, hrc, c1, c2', hq]; simp, rfl⟩⟩
      by_cases h0 : i = 0
      · simp [hlt2, oMap, hm, hin, hfr, eq_true c1, c2, show ¬ 0 < i by omega]
        exact good (by simp [h0])
      · have hws := wsub1 (x := i) (by omega) (by omega)
        have hpi : i - 1 < op.length := by omega
        by_cases c3 : op[i].txn ≤ (op[i - 1]'hpi).txn
        · simp [hlt2, oMap, hm, hin, hfr, eq_true c1, c2, show 0 < i by omega, hws, hpi, c3]
          exact bad (by simp [rightAt, hrc, c1, h0, hpi]; omega)
        · simp [hlt2, oMap, hm, hin, hfr, eq_true c1, c2, show 0 < i by omega, hws, hpi, c3]
          exact good (by simp [hpi]; omega)
  simp [hlt2]
  refine inv_f0 (CloneO_R h op hop (fun ver nv' => ?_))
  have hro : rightO l op = true := by unfold rightO; rw [show op.length = i by omega]; exact hrt
  rw [hro] at hP
  simp only [Bool.true_eq_false, if_false] at hP
  obtain ⟨R, hR⟩ : ∃ R, R = undoF l (muO op) ⟨next, op, []⟩ := ⟨_, rfl⟩
  rw [← hR] at hP
  refine ⟨UnKd l ep ks R, ⟨muO op, GhostV.nil3 9 (by decide) ⟨⟨next, op, []⟩, ver, nv', nv' + 1, [], [], [], by simp, by simp [hR], ⟨rfl, fun i hi => absurd hi (by simp)⟩, by simp, hnx, hop, rfl, rfl, by simp, by simp⟩⟩, ?_⟩
  rintro k3 v2 v16 v17 st ⟨s, va, vb, nv2, T, rows, B, hmu, hF, hmd, hol, hsn, hsl, rfl, rfl, rfl, rfl⟩
  by_cases hle : s.left = []
  · simp [hle]
    have hfin : R = (s.out, 0) := by
      rw [← hF]
      cases k3 <;> simp [undoF, hle]
    rw [hle] at hmd
    refine GhostV.refl ?_
    have := hk (by rw [hP, hfin]) vb rows (oMap 0 ep ks (fR l) :: some (va, .mem 3 (([] : List OpenT).map cOpen ++ T)) :: some (vb, .mem 9 rows) :: B) nv2 rfl (by rw [hP, hfin]; exact hmd)
    rw [hP, hfin] at this
    simpa using this
  have hlp : 0 < s.left.length := List.length_pos_iff.2 hle
  simp [hlp]
  obtain ⟨M, hM⟩ : ∃ M : List (Option (Nat × Obj)), M = oMap 0 ep ks (fR l) :: some (va, Obj.mem 3 (s.left.map cOpen ++ T)) :: some (vb, Obj.mem 9 rows) :: B := ⟨_, rfl⟩
  have hbor : ∀ {M' : List (Option (Nat × Obj))} {nv'' : Nat}, Bor ⟨M ++ M', nv''⟩ (.msl 1 va 0 s.left.length) (.sl .unk 3 (s.left.map cOpen) []) := fun {M' nv''} => Bor.rowG (sz := 3) (l := s.left) (c := cOpen) (rows := s.left.map cOpen ++ T) (fun _ => rfl) (by rw [hM]; simp [St.get]) (List.take_left' (by simp)) (by simp)
  have hbor0 := @hbor [] nv2
  rw [List.append_nil] at hbor0
  rw [← hM]
  refine inv_look (MinFunc_R h s.left hsl hle) (Bors.cons hbor0 Bors.refl) (by simp [pureL, V.pure, pureLL]) ?_
  rintro _ rfl
  refine ⟨rfl, ?_⟩
  obtain ⟨x, hx⟩ : ∃ x, x = minO s.left := ⟨_, rfl⟩
  have hxm : x ∈ s.left := by rw [hx]; exact minO_mem hle
  rw [← hx]
  simp
  refine inv_look (Index_R h s.left x hsl hxm) (Bors.cons hbor Bors.refl) (by simp [pureL, V.pure, pureLL]) ?_
  rintro _ rfl
  refine ⟨rfl, ?_⟩
  obtain ⟨j, hj⟩ : ∃ j, j = s.left.idxOf x := ⟨_, rfl⟩
  have hjl : j < s.left.length := by rw [hj]; exact List.idxOf_lt_length_iff.2 hxm
  have hjx : s.left[j] = x := by subst hj; simp
  rw [← hj]
  have hm : mfind (.one .int) (.int .u64 ((x.next : Nat) : Int)) (ks.map (entF (fR l))) 0 = _ := mfind_G (κ := .u64) uE_inj (f := fR l) x.next ks
  have hS : undoS l s = if x.next = 0 then emitU s (s.left.eraseIdx j) (endRec s x) else match recAt l x.next with
    | none => .inr 220
    | some r =>
      if r.txn ≠ x.txn ∨ chgR r = false then .inr 220
      else if r.kind = 2 then .inl ⟨s.next, s.left.set j ⟨x.txn, x.last, r.next⟩, s.out⟩
      else emitU s (s.left.set j ⟨x.txn, s.next, r.back⟩) (undRec s x r) := by unfold undoS; dsimp only; (rw [← hx, ← hj]) <;> rfl
  clear hbor hbor0
  rw [hM]
  have hFs : ∀ e, undoS l s = .inr e → R = ([], e) := by
    intro e he
    rw [← hF]
    have := muO_pos hle
    obtain ⟨k, rfl⟩ : ∃ k, k3 = k + 1 := ⟨k3 - 1, by omega⟩
    simp [undoF, hle, he]
  have hFn : ∀ s', undoS l s = .inl s' → muO s'.left < muO s.left → ∃ k, k < k3 ∧ muO s'.left ≤ k ∧ undoF l k s' = R := by
    intro s' he hmm
    have := muO_pos hle
    obtain ⟨k, rfl⟩ : ∃ k, k3 = k + 1 := ⟨k3 - 1, by omega⟩
    refine ⟨k, by omega, by omega, ?_⟩
    rw [← hF]; simp [undoF, hle, he]
  have join : ∀ {nvm : Nat} {v16_1 : V} {st : St}, UnLd l s ep vb nvm ks rows B v16_1 st → app (n := 1) (UnLd l s ep vb nvm ks rows B) [v16_1] st := fun h => h
  simp [oMap]
  rw [hm]
  have g0 : ∀ X : List (Option (Nat × Obj)), (B ++ X)[B.length]? = X[0]? := fun X => by rw [List.getElem?_append_right (Nat.le_refl _), Nat.sub_self]
  have gk : ∀ (X : List (Option (Nat × Obj))) (k : Nat), (B ++ X)[B.length + k]? = X[k]? := fun X k => by rw [List.getElem?_append_right (by omega), Nat.add_sub_cancel_left]
  have sk : ∀ (X : List (Option (Nat × Obj))) (k : Nat) (y : Option (Nat × Obj)), (B ++ X).set (B.length + k) y = B ++ X.set k y := fun X k y => by rw [List.set_append_right _ _ (by omega), Nat.add_sub_cancel_left]
  have fin : ∀ {b : Bool}, x.next = 0 → ∀ {st : St} {o3 o4 : Option (Nat × Obj)} {T'}, st = ⟨oMap 0 ep ks (fR l) :: some (va, .mem 3 ((s.left.eraseIdx j).map cOpen ++ T')) :: some (vb, .mem 9 rows) :: (B ++ [o3, o4, some (nv2 + 2, .mem 9 [mRec (endRec s x) (.sl .nil 0 [] [])])]), nv2 + 3⟩ → UnLd l s ep vb (nv2 + 2) ks rows B (.msl 1 va 0 (s.left.eraseIdx j).length) st := fun {b} hx0 {st o3 o4 T'} hst => by
    have hme := muO_erase hjl
    exact ⟨s.left.eraseIdx j, endRec s x, va, _, T', o3, o4, .sl .nil 0 [] [], [], by rw [hS, if_pos hx0], by omega, by rw [List.length_eraseIdx, if_pos hjl]; omega, ⟨rfl, by simp [endRec], .inl ⟨rfl, rfl, rfl⟩⟩, rfl, hst⟩
  cases hrc : recAt l x.next
  have hin : x.next ∉ ks := fun q => by rw [hks, hrc] at q; cases q
  simp [hin]
  refine ⟨UnLd l s ep vb (nv2 + 2) ks rows B, ?_, ?_⟩
  · by_cases hx0 : x.next = 0
    · simp [hx0]
      rw [wadd1 (by omega)]
      refine inv_f0 (Delete_R h s.left j hjl hsl (id := 1) (ver := va) (T := T) rfl (fun T' => ?_))
      exact GhostV.refl (fin (b := true) hx0 (T' := T') rfl)
    · simp [hx0]
      have := hFs 220 (by rw [hS, if_neg hx0, hrc])
      exact err (e := 220) (by rw [hP, this]) (by omega)
  rotate_left
  rename_i r
  have hin : x.next ∈ ks := by rw [hks, hrc]; rfl
  have hfr : fR l x.next = .agg (cRec r) := by simp [fR, hrc]
  obtain ⟨hrm, hrl⟩ := recAt_mem hrc
  have hok := hrec r hrm
  have hbk : r.back < x.next ∧ r.next ≤ r.back ∧ r.old.length ≤ 52 := by
    simp only [recOk, decide_eq_true_eq] at hok
    exact ⟨by omega, by omega, by omega⟩
  have hg : (s.left.map cOpen ++ T)[j]? = some (cOpen x) := by
    rw [List.getElem?_append_left (by simpa using hjl), List.getElem?_map, List.getElem?_eq_getElem hjl, hjx]; rfl
  have hset : ∀ y : OpenT, (s.left.map cOpen).set j [V.int .u64 ((y.txn : Nat) : Int), V.int .u64 ((y.last : Nat) : Int), V.int .u64 ((y.next : Nat) : Int)] = (s.left.set j y).map cOpen := fun y => List.map_set.symm
  simp [hin, hfr]
  refine ⟨UnLd l s ep vb (nv2 + 2) ks rows B, ?_, ?_⟩
  · by_cases hx0 : x.next = 0
    · simp [hx0]
      rw [wadd1 (by omega)]
      refine inv_f0 (Delete_R h s.left j hjl hsl (id := 1) (ver := va) (T := T) rfl (fun T' => ?_))
      exact GhostV.refl (fin (b := true) hx0 (T' := T') rfl)
    by_cases c1 : r.txn = x.txn
    case neg =>
      simp [hx0, c1]
      have := hFs 220 (by rw [hS, if_neg hx0, hrc]; simp [c1])
      exact err (e := 220) (by rw [hP, this]) (by omega)
    have c1e : (r.txn = x.txn) = True := eq_true c1
    simp [hx0, c1e]
    refine inv_p (Chg_R h.toTogR r) rfl (by simp [pureL, V.pure, pureLL]) ?_
    rintro _ rfl
    cases c2 : chgR r
    · simp [c1e]
      have := hFs 220 (by rw [hS, if_neg hx0, hrc]; simp [c2])
      exact err (e := 220) (by rw [hP, this]) (by omega)
    by_cases c3 : r.kind = 2
    · simp [c1e, c3, hjl]
      obtain ⟨k, hk1, hk2, hk3⟩ := hFn ⟨s.next, s.left.set j ⟨x.txn, x.last, r.next⟩, s.out⟩ (by rw [hS, if_neg hx0, hrc]; simp [c1, c2, c3]) (by
        have := muO_set hjl ⟨x.txn, x.last, r.next⟩
        rw [hjx] at this
        dsimp only at this ⊢; omega)
      rw [hg]
      simp
      rw [hset ⟨x.txn, x.last, r.next⟩]
      exact ⟨k, hk1, GhostV.refl ⟨⟨s.next, s.left.set j ⟨x.txn, x.last, r.next⟩, s.out⟩, va, vb, _, T, rows, _, hk2, hk3, hmd.up (fun v b hs => tail3 hs _ _ _ _), hol, hsn, by simpa using hsl, rfl, by simp, rfl, by simp [oMap]; exact ⟨rfl, rfl⟩⟩⟩
    · simp [c1e, c3]
      refine inv_f0 (SClone_D h.toPagR r.old (by omega) (fun ver2 nv3 => ?_))
      simp
      refine ⟨hjl, ?_⟩
      rw [hg]
      simp [hjl, List.set_append_left]
      have hg2 : ((s.left.map cOpen).set j [V.int .u64 ((x.txn : Nat) : Int), V.int .u64 ((s.next : Nat) : Int), V.int .u64 ((x.next : Nat) : Int)] ++ T)[j]? = some [V.int .u64 ((x.txn : Nat) : Int), V.int .u64 ((s.next : Nat) : Int), V.int .u64 ((x.next : Nat) : Int)] := by
        rw [List.getElem?_append_left (by simpa using hjl), List.getElem?_set_self (by simpa using hjl)]
      rw [hg2]
      simp
      rw [hset ⟨x.txn, s.next, r.back⟩]
      have hmu2 := muO_set hjl ⟨x.txn, s.next, r.back⟩
      rw [hjx] at hmu2
      dsimp only at hmu2
      exact GhostV.refl ⟨s.left.set j ⟨x.txn, s.next, r.back⟩, undRec s x r, va, _, T, _, _, .msl (B.length + 6) ver2 0 r.old.length, [some (ver2, .mem 1 (r.old.map c8))], by rw [hS, if_neg hx0, hrc]; simp [c1, c2, c3], by omega, by simp, ⟨rfl, hbk.2.2, .inr ⟨by simp [undRec], B.length + 6, ver2, rfl, by simp [undRec]⟩⟩, by simp, by simp [oMap, undRec]; exact ⟨⟨rfl, rfl⟩, rfl⟩⟩
  all_goals
    rintro v16_1 st ⟨left', m, va', nv', T', o3, o4, w, X, hE, hmu', hll, hna, rfl, rfl⟩
    by_cases hoc : ((s.out.length : Nat) : Int) = 64
    · have hout64 : s.out.length = 64 := by omega
      simp [oMap, hoc]
      have := hFs 3 (by rw [hE]; simp [emitU, hout64])
      exact err (e := 3) (by rw [hP, this]) (by omega)
    have hout64 : ¬ s.out.length = 64 := by omega
    by_cases hnx0 : s.next = 0
    · simp [oMap, hoc, hnx0]
      have := hFs 3 (by rw [hE]; simp [emitU, hnx0])
      exact err (e := 3) (by rw [hP, this]) (by omega)
    simp [oMap, hoc, hnx0]
    obtain ⟨k, hk1, hk2, hk3⟩ := hFn ⟨if s.next + 1 = 2 ^ 64 then 0 else s.next + 1, left', s.out ++ [m]⟩ (by rw [hE]; simp [emitU, hout64, hnx0]) hmu'
    have hrl2 := hmd.1
    simp [hrl2]
    have hmd2 : MadeIs (oMap 0 ep ks (fR l) :: some (va', .mem 3 (left'.map cOpen ++ T')) :: some (nv' + 1, .mem 9 (rows ++ [mRec m w])) :: (B ++ (o3 :: o4 :: some (nv2 + 2, .mem 9 [mRec m w]) :: (X ++ [some (nv', .mem 9 [mRec m w])])))) (rows ++ [mRec m w]) (s.out ++ [m]) :=
      (hmd.up (fun v b hs => tail3 hs _ _ _ _)).snoc (hna.up (fun v b hs => by
        have := tail3 hs (oMap 0 ep ks (fR l)) (some (va', .mem 3 (left'.map cOpen ++ T'))) (some (nv' + 1, .mem 9 (rows ++ [mRec m w]))) [some (nv', .mem 9 [mRec m w])]
        simpa using this))
    exact ⟨by omega, k, hk1, GhostV.refl ⟨⟨if s.next + 1 = 2 ^ 64 then 0 else s.next + 1, left', s.out ++ [m]⟩, va', nv' + 1, _, T', rows ++ [mRec m w], _, hk2, hk3, hmd2, by simp; omega, by dsimp only; split <;> omega, by dsimp only; omega, by rw [u64add1 hsn]; dsimp only; split <;> rfl, rfl, by simp, rfl⟩⟩
end Go.Proofs.Ytmbhgjekjpkigaa.AM

namespace Go.Proofs.Ytmbhgjekjpkigaa.AM
open Go
set_option linter.unusedVariables false
set_option linter.unusedSimpArgs false
variable {P : Program}

/-- A page behind a record, its slots and its bytes owned. -/
theorem Set_DO (h : PagR P) (p : PageT) (hok : pageOk p = true) (r : RecT) (hi : 0 ≤ r.slot ∧ r.slot < 4) (hb : r.new.length ≤ 52) {L : List (Option (Nat × Obj))} {m0 m1 m2 m3 vn : V} (hvn : SlotIs L vn r.new) (h0 : SlotIs L m0 p.s0) (h1 : SlotIs L m1 p.s1) (h2 : SlotIs L m2 p.s2) (h3 : SlotIs L m3 p.s3) {nv : Nat} {K : V → St → Prop}
    (hk : ∀ w0 w1 w2 w3 A nv', Ext L A → SlotIs A w0 (setP p r).s0 → SlotIs A w1 (setP p r).s1 → SlotIs A w2 (setP p r).s2 → SlotIs A w3 (setP p r).s3 → K (.tup [.agg (dPage (setP p r) w0 w1 w2 w3), .int .i64 0]) ⟨A, nv'⟩) :
    ACalls P n_page_Set [.agg (dPage p m0 m1 m2 m3), .int .i64 r.slot, vn, .int .u64 r.lsn] ⟨L, nv⟩ K := by
  obtain ⟨idn, vern, rfl, hidn⟩ := hvn
  refine A_page_Set h.pset ?_
  unfold F_page_Set
  simp
  have hx : ∀ M : List (Option (Nat × Obj)), Ext L (L ++ M) := Ext.app L
  refine inv_f0 (At_D h p hok r.slot hi (h0.ext (hx _)) (h1.ext (hx _)) (h2.ext (hx _)) (h3.ext (hx _)) (fun w0 w1 w2 w3 A nv' hA s0 s1 s2 s3 => ?_))
  have hz : A[L.length + 1]? = some (some (nv + 1, .mem 6 [zCells])) := by
    rw [hA.2 (L.length + 1) (by simp)]
    simp
  have hAl : L.length + 1 < A.length := (List.getElem?_eq_some_iff.1 hz).1
  have hbl : ¬ (52 : Int) < (r.new.length : Int) := by omega
  simp [hbl]
  have hidA : A[idn]? = some (some (vern, .mem 1 (r.new.map c8))) := by
    have h1 := (List.getElem?_eq_some_iff.1 hidn).1
    rw [hA.2 idn (by simp; omega), List.getElem?_append_left h1]
    exact hidn
  refine inv_f0 (BClone_O h r.new (by omega) (by rw [List.getElem?_append_left (List.getElem?_eq_some_iff.1 hidA).1]; exact hidA) (fun ver' nv2 => ?_))
  obtain ⟨hi0, hi4⟩ := hi
  have hzM : ∀ M, (A ++ M)[L.length + 1]? = some (some (nv + 1, .mem 6 [zCells])) := fun M => by rw [List.getElem?_append_left hAl]; exact hz
  have hsM : ∀ M (x : Option (Nat × Obj)), (A ++ M).set (L.length + 1) x = A.set (L.length + 1) x ++ M := fun M x => List.set_append_left _ _ hAl
  have hgM : ∀ M (x : Option (Nat × Obj)), (A.set (L.length + 1) x ++ M)[L.length + 1]? = some x := fun M x => by rw [List.getElem?_append_left (by simpa using hAl), List.getElem?_set_self hAl]
  have hLA : Ext L A := (Ext.app L _).trans hA
  have hnew : ∀ (x y : Option (Nat × Obj)), SlotIs (A.set (L.length + 1) x ++ [y, some (ver', .mem 1 (r.new.map c8))]) (.msl (A.length + 1) ver' 0 r.new.length) r.new := fun x y => ⟨A.length + 1, ver', rfl, by
    rw [List.getElem?_append_right (by simp)]
    simp⟩
  have hold : ∀ {v b} (x : Option (Nat × Obj)) (M : List (Option (Nat × Obj))), SlotIs A v b → SlotIs (A.set (L.length + 1) x ++ M) v b := fun x M h => (h.set hz x).ext (Ext.app _ _)
  have hext : ∀ (x : Option (Nat × Obj)) (M : List (Option (Nat × Obj))), Ext L (A.set (L.length + 1) x ++ M) := fun x M => (hLA.set (by omega) x).trans (Ext.app _ _)
  rcases (by omega : r.slot = 0 ∨ r.slot = 1 ∨ r.slot = 2 ∨ r.slot = 3) with e | e | e | e
  · have hsp : setP p r = { p with s0 := r.new, lsn := r.lsn } := by simp [setP, PageT.put, e]
    rw [hsp] at hk
    simp [offV, e, hzM, hsM, hgM]
    refine GhostV.refl ?_
    exact hk (.msl (A.length + 1) ver' 0 r.new.length) w1 w2 w3 _ nv2 (hext _ _) (hnew _ _) (hold _ _ s1) (hold _ _ s2) (hold _ _ s3)
  · have hsp : setP p r = { p with s1 := r.new, lsn := r.lsn } := by simp [setP, PageT.put, e]
    rw [hsp] at hk
    simp [offV, e, hzM, hsM, hgM]
    refine GhostV.refl ?_
    exact hk w0 (.msl (A.length + 1) ver' 0 r.new.length) w2 w3 _ nv2 (hext _ _) (hold _ _ s0) (hnew _ _) (hold _ _ s2) (hold _ _ s3)
  · have hsp : setP p r = { p with s2 := r.new, lsn := r.lsn } := by simp [setP, PageT.put, e]
    rw [hsp] at hk
    simp [offV, e, hzM, hsM, hgM]
    refine GhostV.refl ?_
    exact hk w0 w1 (.msl (A.length + 1) ver' 0 r.new.length) w3 _ nv2 (hext _ _) (hold _ _ s0) (hold _ _ s1) (hnew _ _) (hold _ _ s3)
  · have hsp : setP p r = { p with s3 := r.new, lsn := r.lsn } := by simp [setP, PageT.put, e]
    rw [hsp] at hk
    simp [offV, e, hzM, hsM, hgM]
    refine GhostV.refl ?_
    exact hk w0 w1 w2 (.msl (A.length + 1) ver' 0 r.new.length) _ nv2 (hext _ _) (hold _ _ s0) (hold _ _ s1) (hold _ _ s2) (hnew _ _)

theorem NewAt.le {A : List (Option (Nat × Obj))} {v : V} {r : RecT} (h : NewAt A v r) : LeV (.agg (nRec r)) (.agg (cRec r)) := .agg _ _ rfl (fun i => by
  match i with
  | 0 => exact .refl _
  | 1 => exact .refl _
  | 2 => exact .refl _
  | 3 => exact .refl _
  | 4 => exact .refl _
  | 5 => exact .refl _
  | 6 =>
    show LeV (.sl .nil 0 [] []) (vB r.old)
    rw [h.1]; exact .nil _ _
  | 7 =>
    show LeV (if r.kind = 4 then .sl .nil 0 [] [] else vB r.new) (vB r.new)
    split
    · rename_i h4
      rcases h.2.2 with ⟨_, _, h3⟩ | ⟨h3, _⟩
      · rw [h3]; exact .nil _ _
      · exact absurd h4 h3
    · exact .refl _
  | 8 => exact .refl _
  | i + 9 => exact .refl _)
def AxI (L : List (Option (Nat × Obj))) (ps : List PageT) (va : Nat) (k : Nat) (v : V) (st : St) : Prop :=
  ∃ (i nv : Nat) (rows : List (List V)) (A : List (Option (Nat × Obj))), k = ps.length - i ∧ i ≤ ps.length ∧ v = .int .i64 ((i : Nat) : Int) ∧ Ext L A ∧ A[L.length]? = some (some (va, .mem 6 rows)) ∧ MixI A rows ps i ∧ st = ⟨A, nv⟩
def AxJ (L : List (Option (Nat × Obj))) (ps : List PageT) (va i : Nat) (p : PageT) (k : Nat) (v : V) (st : St) : Prop :=
  ∃ (j nv : Nat) (w0 w1 w2 w3 : V) (rows : List (List V)) (A : List (Option (Nat × Obj))), k = 4 - j ∧ j ≤ 4 ∧ v = .int .i64 ((j : Nat) : Int) ∧ Ext L A ∧ A[L.length]? = some (some (va, .mem 6 rows)) ∧ rows.length = ps.length ∧
    (∀ q (h : q < ps.length), q < i → ∃ row, rows[q]? = some row ∧ DeepAt A row ps[q]) ∧ (∀ q (h : q < ps.length), i < q → rows[q]? = some (cPage ps[q])) ∧ rows[i]? = some (atC p (vB p.s0) (vB p.s1) (vB p.s2) (vB p.s3) w0 w1 w2 w3 j) ∧
    (0 < j → SlotIs A w0 p.s0) ∧ (1 < j → SlotIs A w1 p.s1) ∧ (2 < j → SlotIs A w2 p.s2) ∧ (3 < j → SlotIs A w3 p.s3) ∧ st = ⟨A, nv⟩
def AxK (L : List (Option (Nat × Obj))) (ps : List PageT) (l : List RecT) (va : Nat) (k : Nat) (v : V) (st : St) : Prop :=
  ∃ (i nv : Nat) (rows : List (List V)) (A : List (Option (Nat × Obj))), k = l.length - i ∧ i ≤ l.length ∧ v = .int .i64 ((i : Nat) : Int) ∧ Ext L A ∧ A[L.length]? = some (some (va, .mem 6 rows)) ∧ DeepIs A rows (againP ps (l.take i)) ∧ st = ⟨A, nv⟩
set_option maxHeartbeats 8000000 in
theorem Again_DO (h : AgnR P) (ps : List PageT) (l : List RecT) (hp : ps.length < 2 ^ 40) (hl : l.length < 2 ^ 40) (hr : Rise ps) (hok : ∀ p ∈ ps, pageOk p = true) (hag : ∀ r ∈ l, agRec r) {L : List (Option (Nat × Obj))} {nv0 : Nat} {lv : V}
    (hlv : (lv = .sl .nil 0 [] [] ∧ l = []) ∨ ∃ id vb rows, lv = .msl id vb 0 l.length ∧ L[id]? = some (some (vb, .mem 9 rows)) ∧ MadeIs L rows l) {K : V → St → Prop}
    (hk : ∀ va rows A nv, Ext L A → A[L.length]? = some (some (va, .mem 6 rows)) → DeepIs A rows (againP ps l) → K (.msl L.length va 0 (againP ps l).length) ⟨A, nv⟩) :
    ACalls P n_redo_again [.sl .unk 6 (ps.map cPage) [], lv] ⟨L, nv0⟩ K := by
  refine A_redo_again h.again ?_
  unfold F_redo_again
  simp
  refine inv_f0 (CloneP_R h ps hp (fun va nv1 => ?_))
  simp
  refine ⟨AxI L ps va, ⟨ps.length, GhostV.refl ⟨0, _, _, _, by simp, by simp, by simp, Ext.app L _, by simp; rfl, ⟨by simp, fun j _ hj => by omega, fun j hj _ => by simp [hj]⟩, rfl⟩⟩, ?_⟩
  rintro k1 v18 st ⟨i, nv, rows, A, rfl, hi, rfl, hLA, hA0, ⟨hrl, hd1, hd2⟩, rfl⟩
  have hA1 : L.length < A.length := (List.getElem?_eq_some_iff.1 hA0).1
  by_cases hlt : i < ps.length
  · have hps := pageOk.short (hok ps[i] (List.getElem_mem hlt))
    have hri := hd2 i hlt (Nat.le_refl _)
    have hAM : ∀ M, (A ++ M)[L.length]? = some (some (va, .mem 6 rows)) := fun M => by rw [List.getElem?_append_left hA1]; exact hA0
    simp [hlt, hA0, hri, hAM]
    refine ⟨AxJ L ps va i ps[i], ⟨4, GhostV.refl ⟨0, _, .junk, .junk, .junk, .junk, rows, A ++ [_], by simp, by simp, by simp, hLA.trans (Ext.app _ _), hAM _, hrl, fun q hq hqi => ?_, fun q hq hqi => hd2 q hq (by omega), by simpa [atC] using hri, by simp, by simp, by simp, by simp, rfl⟩⟩, ?_⟩
    · obtain ⟨row, e1, e2⟩ := hd1 q hq hqi
      exact ⟨row, e1, e2.up fun v b hs => hs.ext (Ext.app _ _)⟩
    rintro k2 v25 st ⟨j, nv2, w0, w1, w2, w3, rows2, B, rfl, hj, rfl, hLB, hB0, hrl2, he1, he2, hrow, s0, s1, s2, s3, rfl⟩
    have hB1 : L.length < B.length := (List.getElem?_eq_some_iff.1 hB0).1
    have hi2 : i < rows2.length := by omega
    have hBM : ∀ M, (B ++ M)[L.length]? = some (some (va, .mem 6 rows2)) := fun M => by rw [List.getElem?_append_left hB1]; exact hB0
    have hsM : ∀ M (x : Option (Nat × Obj)), (B ++ M).set L.length x = B.set L.length x ++ M := fun M x => List.set_append_left _ _ hB1
    have up := fun X ver' b => box_up (L := L) (n := L.length) (nv := va) (Nat.le_refl _) hLB hB1 hB0 X ver' b
    have keep : ∀ {C : List (Option (Nat × Obj))}, (∀ v c, SlotIs B v c → SlotIs C v c) → ∀ {rows' : List (List V)} q (h : q < ps.length), q < i → (∀ row, rows2[q]? = some row → rows'[q]? = some row) → ∃ row, rows'[q]? = some row ∧ DeepAt C row ps[q] := fun {C} hu {rows'} q hq hqi hsame => by
      obtain ⟨row, e1, e2⟩ := he1 q hq hqi
      exact ⟨row, hsame row e1, e2.up hu⟩
    have hne : ∀ (X : List V) q, q ≠ i → (rows2.set i X)[q]? = rows2[q]? := fun X q hq => List.getElem?_set_ne (fun e => hq e.symm)
    have heq : ∀ (X : List V), (rows2.set i X)[i]? = some X := fun X => List.getElem?_set_self hi2
    rcases (by omega : j = 0 ∨ j = 1 ∨ j = 2 ∨ j = 3 ∨ j = 4) with rfl | rfl | rfl | rfl | rfl
    · simp [hlt, hB0]
      refine inv_f0 (SClone_D h.toPagR ps[i].s0 hps.1 (fun ver' nv' => ?_))
      simp [offV, hrow, atC, hlt, hBM, hsM]
      obtain ⟨u1, u2, u3, u4, u5, u6⟩ := up (rows2.set i (atC ps[i] (vB ps[i].s0) (vB ps[i].s1) (vB ps[i].s2) (vB ps[i].s3) (V.msl B.length ver' 0 ps[i].s0.length) V.junk V.junk V.junk 1)) ver' ps[i].s0
      exact ⟨3, by omega, GhostV.refl ⟨1, nv', (V.msl B.length ver' 0 ps[i].s0.length), V.junk, V.junk, V.junk, rows2.set i (atC ps[i] (vB ps[i].s0) (vB ps[i].s1) (vB ps[i].s2) (vB ps[i].s3) (V.msl B.length ver' 0 ps[i].s0.length) V.junk V.junk V.junk 1), _, rfl, by omega, by rw [wrap_i64 (by omega)]; rfl, u1, u3, by simpa using hrl2, fun q hq hqi => keep u5 q hq hqi (fun row e => by rw [hne _ _ (by omega)]; exact e), fun q hq hqi => by rw [hne _ _ (by omega)]; exact he2 q hq hqi, heq _, fun _ => u4, fun hq => absurd hq (by omega), fun hq => absurd hq (by omega), fun hq => absurd hq (by omega), rfl⟩⟩
    · simp [hlt, hB0]
      refine inv_f0 (SClone_D h.toPagR ps[i].s1 hps.2.1 (fun ver' nv' => ?_))
      simp [offV, hrow, atC, hlt, hBM, hsM]
      obtain ⟨u1, u2, u3, u4, u5, u6⟩ := up (rows2.set i (atC ps[i] (vB ps[i].s0) (vB ps[i].s1) (vB ps[i].s2) (vB ps[i].s3) w0 (V.msl B.length ver' 0 ps[i].s1.length) V.junk V.junk 2)) ver' ps[i].s1
      exact ⟨2, by omega, GhostV.refl ⟨2, nv', w0, (V.msl B.length ver' 0 ps[i].s1.length), V.junk, V.junk, rows2.set i (atC ps[i] (vB ps[i].s0) (vB ps[i].s1) (vB ps[i].s2) (vB ps[i].s3) w0 (V.msl B.length ver' 0 ps[i].s1.length) V.junk V.junk 2), _, rfl, by omega, by rw [wrap_i64 (by omega)]; rfl, u1, u3, by simpa using hrl2, fun q hq hqi => keep u5 q hq hqi (fun row e => by rw [hne _ _ (by omega)]; exact e), fun q hq hqi => by rw [hne _ _ (by omega)]; exact he2 q hq hqi, heq _, fun _ => u5 _ _ (s0 (by omega)), fun _ => u4, fun hq => absurd hq (by omega), fun hq => absurd hq (by omega), rfl⟩⟩
    · simp [hlt, hB0]
      refine inv_f0 (SClone_D h.toPagR ps[i].s2 hps.2.2.1 (fun ver' nv' => ?_))
      simp [offV, hrow, atC, hlt, hBM, hsM]
      obtain ⟨u1, u2, u3, u4, u5, u6⟩ := up (rows2.set i (atC ps[i] (vB ps[i].s0) (vB ps[i].s1) (vB ps[i].s2) (vB ps[i].s3) w0 w1 (V.msl B.length ver' 0 ps[i].s2.length) V.junk 3)) ver' ps[i].s2
      exact ⟨1, by omega, GhostV.refl ⟨3, nv', w0, w1, (V.msl B.length ver' 0 ps[i].s2.length), V.junk, rows2.set i (atC ps[i] (vB ps[i].s0) (vB ps[i].s1) (vB ps[i].s2) (vB ps[i].s3) w0 w1 (V.msl B.length ver' 0 ps[i].s2.length) V.junk 3), _, rfl, by omega, by rw [wrap_i64 (by omega)]; rfl, u1, u3, by simpa using hrl2, fun q hq hqi => keep u5 q hq hqi (fun row e => by rw [hne _ _ (by omega)]; exact e), fun q hq hqi => by rw [hne _ _ (by omega)]; exact he2 q hq hqi, heq _, fun _ => u5 _ _ (s0 (by omega)), fun _ => u5 _ _ (s1 (by omega)), fun _ => u4, fun hq => absurd hq (by omega), rfl⟩⟩
    · simp [hlt, hB0]
      refine inv_f0 (SClone_D h.toPagR ps[i].s3 hps.2.2.2 (fun ver' nv' => ?_))
      simp [offV, hrow, atC, hlt, hBM, hsM]
      obtain ⟨u1, u2, u3, u4, u5, u6⟩ := up (rows2.set i (atC ps[i] (vB ps[i].s0) (vB ps[i].s1) (vB ps[i].s2) (vB ps[i].s3) w0 w1 w2 (V.msl B.length ver' 0 ps[i].s3.length) 4)) ver' ps[i].s3
      exact GhostV.refl ⟨4, nv', w0, w1, w2, (V.msl B.length ver' 0 ps[i].s3.length), rows2.set i (atC ps[i] (vB ps[i].s0) (vB ps[i].s1) (vB ps[i].s2) (vB ps[i].s3) w0 w1 w2 (V.msl B.length ver' 0 ps[i].s3.length) 4), _, rfl, by omega, by rw [wrap_i64 (by omega)]; rfl, u1, u3, by simpa using hrl2, fun q hq hqi => keep u5 q hq hqi (fun row e => by rw [hne _ _ (by omega)]; exact e), fun q hq hqi => by rw [hne _ _ (by omega)]; exact he2 q hq hqi, heq _, fun _ => u5 _ _ (s0 (by omega)), fun _ => u5 _ _ (s1 (by omega)), fun _ => u5 _ _ (s2 (by omega)), fun _ => u4, rfl⟩
    · simp
      refine ⟨ps.length - (i + 1), by omega, GhostV.refl ⟨i + 1, _, rows2, _, rfl, by omega, by rw [wadd1 (by omega)], hLB, hB0, ⟨hrl2, fun q hq hqi => ?_, fun q hq hqi => he2 q hq (by omega)⟩, rfl⟩⟩
      by_cases e : q = i
      · subst e
        exact ⟨_, hrow, w0, w1, w2, w3, by simp [atC], s0 (by omega), s1 (by omega), s2 (by omega), s3 (by omega)⟩
      · exact he1 q hq (by omega)
  have hdeep : DeepIs A rows ps := ⟨hrl, fun j hj => hd1 j hj (by omega)⟩
  have fin : ∀ {C rows2 nv}, Ext L C → C[L.length]? = some (some (va, .mem 6 rows2)) → DeepIs C rows2 (againP ps l) → GhostV [.msl L.length va 0 ps.length] ⟨C, nv⟩ fun vs st => K (mkres vs) st := fun {C rows2 nv} h1 h2 h3 => by
    have := hk va rows2 C nv h1 h2 h3
    rw [(againP_inv (l := l) hr hok hag).2.2] at this
    exact GhostV.refl this
  rcases hlv with ⟨rfl, rfl⟩ | ⟨id, vb, rowsR, rfl, hLid, hmd⟩
  · simp [hlt]
    refine ⟨AxK L ps [] va, ⟨0, GhostV.refl ⟨0, _, rows, A, by simp, by simp, by simp, hLA, hA0, by simpa [againP] using hdeep, rfl⟩⟩, ?_⟩
    rintro k3 v41 st ⟨i, nv, rows2, B, rfl, hi, rfl, hLB, hB0, hdp, rfl⟩
    simp at hi
    subst hi
    simp
    exact fin hLB hB0 hdp
  have hidl : id < L.length := (List.getElem?_eq_some_iff.1 hLid).1
  simp [hlt]
  refine ⟨AxK L ps l va, ⟨l.length, GhostV.refl ⟨0, _, rows, A, by simp, by simp, by simp, hLA, hA0, by simpa [againP] using hdeep, rfl⟩⟩, ?_⟩
  rintro k3 v41 st ⟨i, nv, rows2, B, rfl, hi, rfl, hLB, hB0, hdp, rfl⟩
  obtain ⟨hr2, hok2, hlen2⟩ := againP_inv (l := l.take i) hr hok (fun r hr => hag r (List.mem_of_mem_take hr))
  obtain ⟨cur, hcur⟩ : ∃ cur, cur = againP ps (l.take i) := ⟨_, rfl⟩
  rw [← hcur] at hr2 hok2 hlen2 hdp
  by_cases hlt : i < l.length
  · have hsn := againP_snoc (ps := ps) hlt
    rw [← hcur] at hsn
    have hri := hag l[i] (List.getElem_mem hlt)
    have hB1 : L.length < B.length := (List.getElem?_eq_some_iff.1 hB0).1
    have hBM : ∀ M, (B ++ M)[L.length]? = some (some (va, .mem 6 rows2)) := fun M => by rw [List.getElem?_append_left hB1]; exact hB0
    have hid1 : B[id]? = some (some (vb, .mem 9 rowsR)) := (hLB.2 id hidl).trans hLid
    have hidM : ∀ M, (B ++ M)[id]? = some (some (vb, .mem 9 rowsR)) := fun M => by rw [List.getElem?_append_left (by omega)]; exact hid1
    obtain ⟨w, hrw, hna⟩ := hmd.2 i hlt
    have hrl9 := hmd.1
    have hrw2 : ∀ h, rowsR[i]'h = mRec l[i] w := fun h => by rw [List.getElem?_eq_getElem h] at hrw; exact Option.some.inj hrw
    have hnaB : NewAt B w l[i] := hna.up fun v b hs => hs.ext hLB
    have stay : redo1 cur l[i] = cur → ∀ {M : List (Option (Nat × Obj))} {nv' : Nat}, ∃ j, j < l.length - i ∧ GhostV [.int .i64 (IntKind.i64.wrap ((i : Int) + 1))] ⟨B ++ M, nv'⟩ (app (n := 1) (AxK L ps l va j)) := fun he {M nv'} =>
      ⟨l.length - (i + 1), by omega, GhostV.refl ⟨i + 1, _, rows2, _, rfl, by omega, by rw [wadd1 (by omega)], hLB.trans (Ext.app _ _), hBM _, by
        rw [hsn, he]
        exact ⟨hdp.1, fun j hj => by
          obtain ⟨row, e1, e2⟩ := hdp.2 j hj
          exact ⟨row, e1, e2.up fun v b hs => hs.ext (Ext.app _ _)⟩⟩, rfl⟩⟩
    simp [hlt, hid1, hrw2, hidM, hrl9]
    have hAM : ∀ {M v b}, SlotIs B v b → SlotIs (B ++ M) v b := fun {M v b} hs => hs.ext (Ext.app _ _)
    have hln : (againP ps l).length = ps.length := (againP_inv (l := l) hr hok hag).2.2
    rw [← hlen2]
    refine inv_look (bsG h cur l[i].page (by omega)) (Bors.cons (DeepIs.bor (id := L.length) (rows := rows2) ⟨hdp.1, fun j hj => by
      obtain ⟨row, e1, e2⟩ := hdp.2 j hj
      exact ⟨row, e1, e2.up fun v b hs => hAM hs⟩⟩ (hBM _)) Bors.refl) (by simp [pureL, V.pure, pureLL]) ?_
    rintro _ ⟨q, hq, rfl⟩
    refine ⟨rfl, ?_⟩
    have hfd := hq.found hr2
    cases hf : fndG cur q l[i].page
    · have hno : ¬ ∃ p ∈ cur, p.num = l[i].page := fun e => by rw [hfd.2 e] at hf; cases hf
      simp
      exact stay (redo1_none hno)
    have hql : q < cur.length := by
      unfold fndG at hf
      split at hf
      · rename_i y hy; exact (List.getElem?_eq_some_iff.1 hy).1
      · cases hf
    have hqn : (cur[q]).num = l[i].page := by simpa [fndG, hql] using hf
    simp
    refine inv_look (PCalls.le (LeVs.cons hna.le (LeVs.refl [])) (Chg_R h.toTogR l[i])) (Bors.cons ((hnaB.up fun v b hs => hAM hs).bor _) Bors.nil) (by simp [pureL, V.pure, pureLL]; split <;> simp [V.pure, pureLL]) ?_
    rintro _ rfl
    refine ⟨rfl, ?_⟩
    cases hc : chgR l[i]
    · have hno : redo1 cur l[i] = cur := by simp [redo1, hc]
      simp
      exact stay hno
    have hrs := redo1_set hr2 hc hql hqn
    obtain ⟨hs0, hs4, hnl⟩ := hri hc
    obtain ⟨row, hrow, m0, m1, m2, m3, rfl, s0, s1, s2, s3⟩ := hdp.2 q hql
    have hrl2 := hdp.1
    have hrow2 : ∀ h, rows2[q]'h = dPage cur[q] m0 m1 m2 m3 := fun h => by rw [List.getElem?_eq_getElem h] at hrow; exact Option.some.inj hrow
    have hwn : SlotIs B w l[i].new := by
      rcases hnaB.2.2 with ⟨h4, _, _⟩ | ⟨_, h5⟩
      · simp [chgR, h4] at hc
      · exact h5
    simp [hql, hrow2, hBM, hrl2]
    by_cases hls : cur[q].lsn < l[i].lsn
    · rw [if_pos hls] at hrs
      simp [hls, hql, hrow2, hBM, hrl2]
      refine inv_f0 (Set_DO h.toPagR cur[q] (hok2 _ (List.getElem_mem hql)) l[i] ⟨hs0, hs4⟩ hnl (hAM hwn) (hAM s0) (hAM s1) (hAM s2) (hAM s3) (fun w0 w1 w2 w3 C nv' hC t0 t1 t2 t3 => ?_))
      have hC0 : C[L.length]? = some (some (va, .mem 6 rows2)) := by rw [hC.2 L.length (by simp; omega)]; exact hBM _
      simp [hql, hrow2, hC0, hrl2]
      refine ⟨l.length - (i + 1), by omega, GhostV.refl ⟨i + 1, _, rows2.set q (dPage (setP cur[q] l[i]) w0 w1 w2 w3), _, rfl, by omega, by rw [wadd1 (by omega)], ?_, List.getElem?_set_self (List.getElem?_eq_some_iff.1 hC0).1, ?_, rfl⟩⟩
      · exact ((hLB.trans (Ext.app _ _)).trans hC).set (Nat.le_refl _) _
      rw [hsn, hrs]
      refine ⟨by simpa using hdp.1, fun j hj => ?_⟩
      have hj' : j < cur.length := by simpa using hj
      have hz : ∀ {v b}, SlotIs C v b → SlotIs (C.set L.length (some (va, .mem 6 (rows2.set q (dPage (setP cur[q] l[i]) w0 w1 w2 w3))))) v b := fun {v b} hs => hs.set hC0 _
      by_cases e : q = j
      · subst e
        refine ⟨_, List.getElem?_set_self (by rw [hdp.1]; exact hql), w0, w1, w2, w3, ?_⟩
        rw [List.getElem_set_self]
        exact ⟨rfl, hz t0, hz t1, hz t2, hz t3⟩
      · obtain ⟨row, e1, e2⟩ := hdp.2 j hj'
        refine ⟨row, by rw [List.getElem?_set_ne e]; exact e1, ?_⟩
        rw [List.getElem_set_ne e]
        exact e2.up fun v b hs => hz ((hAM hs).ext hC)
    · rw [if_neg hls] at hrs
      simp [hls]
      exact stay hrs
  · simp [hlt]
    have e : cur = againP ps l := by rw [hcur, List.take_of_length_le (by omega)]
    subst e
    exact fin hLB hB0 hdp
end Go.Proofs.Ytmbhgjekjpkigaa.AM

namespace Go.Proofs.Ytmbhgjekjpkigaa.AM
open Go
set_option linter.unusedVariables false
set_option linter.unusedSimpArgs false
variable {P : Program}

def MvIs (A : List (Option (Nat × Obj))) (mv : V) (l : List RecT) : Prop := (mv = .sl .nil 0 [] [] ∧ l = []) ∨ ∃ id vb rows, mv = .msl id vb 0 l.length ∧ A[id]? = some (some (vb, .mem 9 rows)) ∧ MadeIs A rows l
theorem MvIs.ext {A B : List (Option (Nat × Obj))} {mv : V} {l : List RecT} (h : MvIs A mv l) (e : Ext A B) : MvIs B mv l := by
  rcases h with h | ⟨id, vb, rows, h1, h2, h3⟩
  · exact .inl h
  · exact .inr ⟨id, vb, rows, h1, (e.2 id (List.getElem?_eq_some_iff.1 h2).1).trans h2, h3.up fun v b hs => hs.ext e⟩
set_option maxHeartbeats 4000000 in
theorem All_D (h : AllR P) (ps : List PageT) (l : List RecT) (next : Nat) (hp : ps.length < 2 ^ 40) (hl : l.length < 2 ^ 40) (hw : rowW l) (hnx : next < 2 ^ 64) {K : V → St → Prop}
    (he : ∀ e, allP ps l next = ([], [], e) → e ≠ 0 → ∀ st, K (.tup [.sl .nil 0 [] [], .sl .nil 0 [] [], .int .i64 e]) st)
    (hk : checkR ps l = 0 → (allP ps l next).2.2 = 0 → ∀ n mv va rows A nv, A[n]? = some (some (va, .mem 6 rows)) → DeepIs A rows (allP ps l next).1 → MvIs A mv (allP ps l next).2.1 → K (.tup [.msl n va 0 (allP ps l next).1.length, mv, .int .i64 0]) ⟨A, nv⟩) :
    ACalls P n_redo_All [.sl .unk 6 (ps.map cPage) [], .sl .unk 9 (l.map cRec) [], .int .u64 next] st0 K := by
  refine A_redo_All h.all ?_
  unfold F_redo_All
  simp
  refine inv_p (Check12 h.toTogR ps l hp hl hw) rfl (by simp [pureL, V.pure, pureLL]) ?_
  rintro _ rfl
  by_cases hc : checkR ps l = 0
  case neg =>
    simp [hc]
    exact GhostV.refl (he _ (by simp [allP, hc]) hc _)
  obtain ⟨h1, h2⟩ := checkR_zero hc
  obtain ⟨q1, q2, q3⟩ := togP_pages h2
  have hrec := rowErr_ok h1
  have hag : ∀ r ∈ l, agRec r := fun r hr => recOk_ag (hrec r hr)
  obtain ⟨i1, i2, i3⟩ := againP_inv q2 q3 hag
  simp [hc]
  refine inv_p (Open_R h.toOpnR l hl hw) rfl (by simp [pureL, V.pure, pureLL]) ?_
  rintro _ rfl
  have hol := openL_len (l := l)
  simp [openR, h1]
  by_cases ho : openL l = []
  · simp [ho]
    refine inv_p (Again_R h.toAgnR ps l hp hl q2 q3 hag) rfl (by simp [pureL, V.pure, pureLL]) ?_
    rintro _ rfl
    simp
    refine inv_f0 (Again_DO h.toAgnR (againP ps l) [] (by omega) (by simp) i1 i2 (fun r hr => by cases hr) (.inl ⟨rfl, rfl⟩) (fun va rows A nv hA hA0 hd => ?_))
    have ha : allP ps l next = (againP ps l, [], 0) := by simp [allP, hc, ho]
    have := hk hc (by rw [ha]) _ (.sl .nil 0 [] []) va rows A nv hA0 (by rw [ha]; exact hd) (.inl ⟨rfl, by rw [ha]⟩)
    rw [ha] at this
    simp
    exact GhostV.refl this
  have hop : 0 < (openL l).length := List.length_pos_iff.2 ho
  simp [hop]
  refine inv_f0 (Undo_D h.toUndR l (openL l) next hl hw (by omega) hnx (fun hu st => ?_) (fun hu vb rows A nv hA2 hmd => ?_))
  · simp [hu]
    exact GhostV.refl (he _ (by simp [allP, hc, ho, hu]) hu _)
  have ha : allP ps l next = (againP (againP ps l) (undoP l (openL l) next).1, (undoP l (openL l) next).1, 0) := by simp [allP, hc, ho, hu]
  simp
  refine inv_p (Again_R h.toAgnR ps l hp hl q2 q3 hag) rfl (by simp [pureL, V.pure, pureLL]) ?_
  rintro _ rfl
  simp
  have hml := undoP_len (l := l) (op := openL l) (next := next)
  refine inv_f0 (Again_DO h.toAgnR (againP ps l) (undoP l (openL l) next).1 (by omega) (by omega) i1 i2 (undoP_ag hrec) (.inr ⟨2, vb, rows, rfl, hA2, hmd⟩) (fun va rows2 B nv2 hB hB0 hd => ?_))
  have := hk hc (by rw [ha]) _ (.msl 2 vb 0 (undoP l (openL l) next).1.length) va rows2 B nv2 hB0 (by rw [ha]; exact hd) (by
    rw [ha]
    exact MvIs.ext (.inr ⟨2, vb, rows, rfl, hA2, hmd⟩) hB)
  rw [ha] at this
  exact GhostV.refl this
end Go.Proofs.Ytmbhgjekjpkigaa.AM

namespace Go.Proofs.Ytmbhgjekjpkigaa.AM
open Go
set_option linter.unusedVariables false
set_option linter.unusedSimpArgs false
variable {P : Program}

/-- Rows of bytes keep their lengths; all else stays. -/
def WhUp (A B : List (Option (Nat × Obj))) : Prop := (∀ (i : Nat) (o : Option (Nat × Obj)), A[i]? = some o → (∀ ver es, o ≠ some (ver, Obj.mem 1 es)) → B[i]? = some o) ∧ ∀ m b, SlotIs A m b → ∃ b' : List UInt8, SlotIs B m b' ∧ b'.length = b.length
theorem WhUp.refl (A : List (Option (Nat × Obj))) : WhUp A A := ⟨fun i o h _ => h, fun m b h => ⟨b, h, rfl⟩⟩
theorem WhUp.trans {A B C : List (Option (Nat × Obj))} (h : WhUp A B) (k : WhUp B C) : WhUp A C := ⟨fun i o h1 h2 => k.1 i o (h.1 i o h1 h2) h2, fun m b hm => by
  obtain ⟨b1, h1, l1⟩ := h.2 m b hm
  obtain ⟨b2, h2, l2⟩ := k.2 m b1 h1
  exact ⟨b2, h2, l2.trans l1⟩⟩
theorem WhUp.app (A M : List (Option (Nat × Obj))) : WhUp A (A ++ M) := ⟨fun i o h _ => by rw [List.getElem?_append_left (List.getElem?_eq_some_iff.1 h).1]; exact h, fun m b hm => ⟨b, hm.ext (Ext.app _ _), rfl⟩⟩
theorem WhUp.put {A : List (Option (Nat × Obj))} {id ver : Nat} {b b' : List UInt8} (ho : A[id]? = some (some (ver, .mem 1 (b.map c8)))) (hl : b'.length = b.length) : WhUp A (A.set id (some (ver, .mem 1 (b'.map c8)))) := by
  refine ⟨fun i o h1 h2 => ?_, fun m c hm => ?_⟩
  · have hid : id ≠ i := fun e => by
      subst e
      rw [ho] at h1
      exact h2 _ _ (Option.some.inj h1).symm
    rw [List.getElem?_set_ne hid]; exact h1
  · obtain ⟨id2, ver2, rfl, h2⟩ := hm
    by_cases e : id = id2
    · subst e
      rw [ho] at h2
      simp only [Option.some.injEq, Prod.mk.injEq, Obj.mem.injEq, true_and] at h2
      have hbc : b.length = c.length := by have := congrArg List.length h2.2; simpa using this
      refine ⟨b', ⟨id, ver, by rw [h2.1, ← hbc, hl], List.getElem?_set_self (List.getElem?_eq_some_iff.1 ho).1⟩, by omega⟩
    · exact ⟨c, ⟨id2, ver2, rfl, by rw [List.getElem?_set_ne e]; exact h2⟩, rfl⟩
theorem WhUp.at {A B : List (Option (Nat × Obj))} (h : WhUp A B) {id ver n : Nat} {b : List UInt8} (hs : SlotIs A (.msl id ver 0 n) b) : ∃ c : List UInt8, c.length = n ∧ B[id]? = some (some (ver, .mem 1 (c.map c8))) := by
  obtain ⟨c, ⟨id', ver', he, hid⟩, hl⟩ := h.2 _ _ hs
  obtain ⟨_, _, e, _⟩ := hs
  simp only [V.msl.injEq, true_and] at he e
  obtain ⟨rfl, rfl, h3⟩ := he
  exact ⟨c, by omega, hid⟩
def ShIs (A : List (Option (Nat × Obj))) (m : V) : Prop := ∃ b : List UInt8, SlotIs A m b ∧ b.length ≤ 52
theorem ShIs.up {A B : List (Option (Nat × Obj))} {m : V} (h : ShIs A m) (k : WhUp A B) : ShIs B m := by
  obtain ⟨b, h1, h2⟩ := h
  obtain ⟨c, h3, h4⟩ := k.2 _ _ h1
  exact ⟨c, h3, by omega⟩
/-- Rows of owned rows, or none. -/
def QvSh (A : List (Option (Nat × Obj))) (v : V) (n : Nat) : Prop := (v = .sl .nil 0 [] [] ∧ n = 0) ∨ ∃ id va rows, v = .msl id va 0 n ∧ A[id]? = some (some (va, .mem 6 rows)) ∧ rows.length = n ∧
  ∀ (j : Nat) (h : j < rows.length), ∃ (a b : Int) (m0 m1 m2 m3 : V), rows[j] = [.int .i64 a, .int .u64 b, m0, m1, m2, m3] ∧ ShIs A m0 ∧ ShIs A m1 ∧ ShIs A m2 ∧ ShIs A m3
def MvSh (A : List (Option (Nat × Obj))) (v : V) (n : Nat) : Prop := (v = .sl .nil 0 [] [] ∧ n = 0) ∨ ∃ id va rows, v = .msl id va 0 n ∧ A[id]? = some (some (va, .mem 9 rows)) ∧ rows.length = n ∧
  ∀ (j : Nat) (h : j < rows.length), ∃ (r : RecT) (m : V), rows[j] = mRec r m ∧ (m = .sl .nil 0 [] [] ∨ ShIs A m)
theorem QvSh.up {A B : List (Option (Nat × Obj))} {v : V} {n : Nat} (h : QvSh A v n) (k : WhUp A B) : QvSh B v n := by
  rcases h with h | ⟨id, va, rows, h1, h2, h3, h4⟩
  · exact .inl h
  · exact .inr ⟨id, va, rows, h1, k.1 _ _ h2 (by simp), h3, fun j hj => by
      obtain ⟨a, b, m0, m1, m2, m3, e, s0, s1, s2, s3⟩ := h4 j hj
      exact ⟨a, b, m0, m1, m2, m3, e, s0.up k, s1.up k, s2.up k, s3.up k⟩⟩
theorem MvSh.up {A B : List (Option (Nat × Obj))} {v : V} {n : Nat} (h : MvSh A v n) (k : WhUp A B) : MvSh B v n := by
  rcases h with h | ⟨id, va, rows, h1, h2, h3, h4⟩
  · exact .inl h
  · exact .inr ⟨id, va, rows, h1, k.1 _ _ h2 (by simp), h3, fun j hj => by
      obtain ⟨r, m, e, s⟩ := h4 j hj
      exact ⟨r, m, e, s.imp (fun q => q) fun s => s.up k⟩⟩
def SqI (n : Nat) (A : List (Option (Nat × Obj))) (k : Nat) (v : V) (st : St) : Prop :=
  ∃ (i nv : Nat) (B : List (Option (Nat × Obj))), k = n - i ∧ i ≤ n ∧ v = .int .i64 ((i : Nat) : Int) ∧ WhUp A B ∧ st = ⟨B, nv⟩
set_option maxHeartbeats 4000000 in
theorem Spoil_Q (h : SpoR P) {n n' nv : Nat} (hn : n < 2 ^ 40) (hn' : n' < 2 ^ 40) {A : List (Option (Nat × Obj))} {qv mv : V} (hq : QvSh A qv n) (hm : MvSh A mv n') {K : V → St → Prop} (hk : ∀ A' nv', K (mkres []) ⟨A', nv'⟩) :
    ACalls P n_gazetteerlaw12_spoil [qv, mv] ⟨A, nv⟩ K := by
  refine A_gazetteerlaw12_spoil h.spoil ?_
  unfold F_gazetteerlaw12_spoil
  have hlq : ∀ st, lenV st .sl qv = some ((n : Nat) : Int) := by
    intro st
    rcases hq with ⟨rfl, rfl⟩ | ⟨id, va, rows, rfl, h1, h2, h3⟩ <;> rfl
  have hlm : ∀ st, lenV st .sl mv = some ((n' : Nat) : Int) := by
    intro st
    rcases hm with ⟨rfl, rfl⟩ | ⟨id, va, rows, rfl, h1, h2, h3⟩ <;> rfl
  rw [op_len, aop_len, hlq]
  simp
  refine ⟨SqI n A, ⟨n, GhostV.refl ⟨0, _, A, by simp, by simp, by simp, WhUp.refl A, rfl⟩⟩, ?_⟩
  rintro k1 v14 st ⟨i, nv1, B, rfl, hi, rfl, hAB, rfl⟩
  by_cases hlt : i < n
  · rcases hq.up hAB with ⟨rfl, rfl⟩ | ⟨id, va, rows, rfl, hid, hrl, hrs⟩
    · omega
    obtain ⟨a, b, m0, m1, m2, m3, hrow, s0, s1, s2, s3⟩ := hrs i (by omega)
    simp [hlt, hid, hrl, hrow]
    refine ⟨SqI 4 B, ⟨4, GhostV.refl ⟨0, _, _, by simp, by simp, by simp, WhUp.app B _, rfl⟩⟩, ?_⟩
    rintro k2 v20 st ⟨j, nv2, C, rfl, hj, rfl, hBC, rfl⟩
    by_cases hj4 : j < 4
    · obtain ⟨m, hm4, b, hsl, hb52⟩ : ∃ m, [m0, m1, m2, m3][j]? = some m ∧ ShIs B m := by
        rcases (by omega : j = 0 ∨ j = 1 ∨ j = 2 ∨ j = 3) with rfl | rfl | rfl | rfl
        · exact ⟨m0, rfl, s0⟩
        · exact ⟨m1, rfl, s1⟩
        · exact ⟨m2, rfl, s2⟩
        · exact ⟨m3, rfl, s3⟩
      obtain ⟨id2, ver2, rfl, hid2⟩ := hsl
      have hjz : (j : Int) < 4 := by omega
      simp [hjz, partV, hm4]
      refine ⟨SqI b.length C, ⟨b.length, GhostV.refl ⟨0, _, C, by simp, by simp, by simp, WhUp.refl C, rfl⟩⟩, ?_⟩
      rintro k3 v25 st ⟨q, nv3, D, rfl, hq, rfl, hCD, rfl⟩
      obtain ⟨c, hcl, hidc⟩ := (hBC.trans hCD).at ⟨id2, ver2, rfl, hid2⟩
      by_cases hql : q < b.length
      · have hqc : q < c.length := by omega
        simp [hql, hidc, hqc]
        obtain ⟨y, hy⟩ := xorB c[q]
        rw [hy]
        simp [hql, hidc, hqc]
        have e : (c.map c8).set q [V.int .u8 (y.toNat : Int)] = (c.set q y).map c8 := List.map_set.symm
        rw [e]
        exact ⟨b.length - (q + 1), by omega, GhostV.refl ⟨q + 1, nv3, _, rfl, by omega, by rw [wadd1 (by omega)], hCD.trans (WhUp.put hidc (by simp)), rfl⟩⟩
      · simp [hql]
        exact ⟨4 - (j + 1), by omega, GhostV.refl ⟨j + 1, nv3, D, rfl, by omega, by rw [wadd1 (by omega)], hBC.trans hCD, rfl⟩⟩
    · have hjz : ¬ (j : Int) < 4 := by omega
      simp [hjz]
      exact ⟨n - (i + 1), by omega, GhostV.refl ⟨i + 1, nv2, C, rfl, by omega, by rw [wadd1 (by omega)], hAB.trans hBC, rfl⟩⟩
  · simp [hlt, -lenV]
    rw [hlm]
    simp
    refine ⟨SqI n' A, ⟨n', GhostV.refl ⟨0, _, B, by simp, by simp, by simp, hAB, rfl⟩⟩, ?_⟩
    rintro k4 v39 st ⟨i, nv1, B, rfl, hi, rfl, hAB, rfl⟩
    by_cases hlt : i < n'
    case neg =>
      simp [hlt]
      exact GhostV.refl (hk _ _)
    rcases hm.up hAB with ⟨rfl, rfl⟩ | ⟨id, va, rows, rfl, hid, hrl, hrs⟩
    · omega
    have hid0 := (List.getElem?_eq_some_iff.1 hid).1
    have hidM : ∀ M, (B ++ M)[id]? = some (some (va, .mem 9 rows)) := fun M => by rw [List.getElem?_append_left hid0]; exact hid
    obtain ⟨r, m, hrow, hmm⟩ := hrs i (by omega)
    obtain ⟨C, hC⟩ : ∃ C, C = B ++ [some (nv1, Obj.mem 9 [mRec r m])] := ⟨_, rfl⟩
    have hBC : WhUp B C := by rw [hC]; exact WhUp.app _ _
    have hCb : C[B.length]? = some (some (nv1, Obj.mem 9 [mRec r m])) := by rw [hC]; simp
    have nx : ∀ {D nv}, WhUp C D → ∃ j, j < n' - i ∧ GhostV [.int .i64 (IntKind.i64.wrap ((i : Int) + 1))] ⟨D, nv⟩ (app (n := 1) (SqI n' A j)) := fun {D nv} hD =>
      ⟨n' - (i + 1), by omega, GhostV.refl ⟨i + 1, nv, D, rfl, by omega, by rw [wadd1 (by omega)], (hAB.trans hBC).trans hD, rfl⟩⟩
    rcases hmm with rfl | ⟨b, ⟨id2, ver2, rfl, hid2⟩, hb52⟩
    · simp [hlt, hid, hidM, hrl, hrow]
      rw [← hC]
      refine ⟨SqI 0 C, ⟨0, GhostV.refl ⟨0, _, C, by simp, by simp, by simp, WhUp.refl C, rfl⟩⟩, ?_⟩
      rintro k3 v25 st ⟨q, nv3, D, rfl, hq, rfl, hCD, rfl⟩
      obtain rfl : q = 0 := by omega
      simp
      exact nx hCD
    · simp [hlt, hid, hidM, hrl, hrow]
      rw [← hC]
      refine ⟨SqI b.length C, ⟨b.length, GhostV.refl ⟨0, _, C, by simp, by simp, by simp, WhUp.refl C, rfl⟩⟩, ?_⟩
      rintro k3 v25 st ⟨q, nv3, D, rfl, hq, rfl, hCD, rfl⟩
      obtain ⟨c, hcl, hidc⟩ := (hBC.trans hCD).at ⟨id2, ver2, rfl, hid2⟩
      have hDb := hCD.1 _ _ hCb (by simp)
      by_cases hql : q < b.length
      · have hqc : q < c.length := by omega
        simp [hql, hidc, hqc, hDb]
        obtain ⟨y, hy⟩ := xorB c[q]
        rw [hy]
        simp [hql, hidc, hqc, hDb]
        have e : (c.map c8).set q [V.int .u8 (y.toNat : Int)] = (c.set q y).map c8 := List.map_set.symm
        rw [e]
        exact ⟨b.length - (q + 1), by omega, GhostV.refl ⟨q + 1, nv3, _, rfl, by omega, by rw [wadd1 (by omega)], hCD.trans (WhUp.put hidc (by simp)), rfl⟩⟩
      · simp [hql]
        exact nx hCD
theorem DeepIs.qv {A : List (Option (Nat × Obj))} {rows : List (List V)} {ps : List PageT} {id va : Nat} (h : DeepIs A rows ps) (h0 : A[id]? = some (some (va, .mem 6 rows))) (hok : ∀ p ∈ ps, pageOk p = true) : QvSh A (.msl id va 0 ps.length) ps.length := by
  refine .inr ⟨id, va, rows, rfl, h0, h.1, fun j hj => ?_⟩
  have hjp : j < ps.length := by rw [← h.1]; exact hj
  obtain ⟨row, hr, m0, m1, m2, m3, rfl, s0, s1, s2, s3⟩ := h.2 j hjp
  have := hok ps[j] (List.getElem_mem hjp)
  simp only [pageOk, decide_eq_true_eq] at this
  rw [List.getElem?_eq_getElem hj] at hr
  exact ⟨_, _, m0, m1, m2, m3, Option.some.inj hr, ⟨_, s0, by omega⟩, ⟨_, s1, by omega⟩, ⟨_, s2, by omega⟩, ⟨_, s3, by omega⟩⟩
theorem MvIs.sh {A : List (Option (Nat × Obj))} {mv : V} {l : List RecT} (h : MvIs A mv l) : MvSh A mv l.length := by
  rcases h with ⟨h1, rfl⟩ | ⟨id, vb, rows, h1, h2, h3⟩
  · exact .inl ⟨h1, rfl⟩
  · refine .inr ⟨id, vb, rows, h1, h2, h3.1, fun j hj => ?_⟩
    have hj' : j < l.length := by rw [← h3.1]; exact hj
    obtain ⟨v, e, k⟩ := h3.2 j hj'
    rw [List.getElem?_eq_getElem hj] at e
    refine ⟨l[j], v, Option.some.inj e, ?_⟩
    rcases k.2.2 with ⟨_, q, _⟩ | ⟨_, q⟩
    · exact .inl q
    · exact .inr ⟨_, q, k.2.1⟩
theorem MvIs.short {A : List (Option (Nat × Obj))} {mv : V} {l : List RecT} (h : MvIs A mv l) : recShort l := by
  rcases h with ⟨h1, rfl⟩ | ⟨id, vb, rows, h1, h2, h3⟩
  · intro r hr; cases hr
  · intro r hr
    obtain ⟨⟨q1, _⟩, q2⟩ := h3.four r hr
    rw [q1]
    exact ⟨by simp, by omega⟩
theorem pure_nRec : ∀ l : List RecT, (V.sl .unk 9 (l.map nRec) []).pure = true
  | [] => rfl
  | r :: l => by
    have := pure_nRec l
    simp [V.pure, pureL, pureLL] at this ⊢
    exact ⟨by split <;> simp [V.pure, pureLL], this⟩
/-- What is told of records that are made, looked at. -/
theorem MvIs.view {A : List (Option (Nat × Obj))} {mv : V} {l : List RecT} (h : MvIs A mv l) (nv : Nat) : ∃ w, Bor ⟨A, nv⟩ mv w ∧ LeV w (.sl .unk 9 (l.map cRec) []) ∧ w.pure = true := by
  rcases h with ⟨rfl, rfl⟩ | ⟨id, vb, rows, rfl, h2, h3⟩
  · exact ⟨_, .refl _, .nil _ _, rfl⟩
  · exact ⟨_, h3.bor h2, nRec_le fun r hr => (h3.four r hr).1, pure_nRec l⟩
end Go.Proofs.Ytmbhgjekjpkigaa.AM

namespace Go.Proofs.Ytmbhgjekjpkigaa.AM
open Go
set_option linter.unusedVariables false
set_option linter.unusedSimpArgs false
variable {P : Program}

structure AlsR (P : Program) : Prop extends RuR P where
  lall : R_gazetteerlaw12_RedoAll P

theorem allP_err {ps : List PageT} {l : List RecT} {next : Nat} (h : rowErr l ≠ 0) : allP ps l next = ([], [], rowErr l) := by simp [allP, checkR, h]
set_option maxHeartbeats 8000000 in
theorem lAll (h : AlsR P) (ps : List PageT) (rs : List RecT) (hn : ∀ r ∈ rs, recN r) (next : Nat) (hnx : next < 2 ^ 64) : PCalls P n_gazetteerlaw12_RedoAll [.sl .unk 6 (ps.map cPage) [], .sl .unk 9 (rs.map cRec) [], .int .u64 next] (fun r => r = .bool true) := by
  refine A_gazetteerlaw12_RedoAll h.lall ?_
  unfold F_gazetteerlaw12_RedoAll
  simp
  refine inv_p (Wakes_R h.toRLawR) rfl rfl ?_
  rintro _ rfl
  simp
  have pr : ∀ l : List RecT, pureL [V.sl .unk 9 (l.map cRec) []] = true := fun l => by simp [pureL, V.pure, pureLL]
  have pp : ∀ l : List PageT, pureL [V.sl .unk 6 (l.map cPage) []] = true := fun l => by simp [pureL, V.pure, pureLL]
  refine inv_p (Pages_R h.toPgsR ps) rfl (pp _) ?_
  rintro _ rfl
  simp
  refine inv_p (Records_R h.toRLawR rs) rfl (pr _) ?_
  rintro _ rfl
  simp
  refine inv_p (Pages_R h.toPgsR ps) rfl (pp _) ?_
  rintro _ rfl
  simp
  refine inv_p (Records_R h.toRLawR rs) rfl (pr _) ?_
  rintro _ rfl
  obtain ⟨l, hl⟩ : ∃ l, l = recordsL rs := ⟨_, rfl⟩
  have hw : rowW l := by rw [hl]; exact recordsW hn
  have h65 : l.length ≤ 65 := by rw [hl]; exact recordsL_len rs
  obtain ⟨p, hp⟩ : ∃ p, p = pagesL ps := ⟨_, rfl⟩
  have hpn : p.length < 2 ^ 40 := by rw [hp]; have := pagesL_len (l := ps); omega
  have hsh : recShort l := fun r hr => ⟨(hw r hr).2.2.2.2.1, (hw r hr).2.2.2.2.2⟩
  rw [← hl, ← hp]
  clear hl hp
  simp
  have pb : pureL [V.sl .unk 6 (p.map cPage) [], V.sl .unk 9 (l.map cRec) [], V.int .u64 next] = true := by simp [pureL, V.pure, pureLL]
  have p2 : ∀ a b : List PageT, pureL [V.sl .unk 6 (a.map cPage) [], V.sl .unk 6 (b.map cPage) []] = true := fun a b => by simp [pureL, V.pure, pureLL]
  have r2 : ∀ a b : List RecT, pureL [V.sl .unk 9 (a.map cRec) [], V.sl .unk 9 (b.map cRec) []] = true := fun a b => by simp [pureL, V.pure, pureLL]
  refine inv_f0 (All_D h.toAllR p l next hpn (by omega) hw hnx (fun e ha he st => ?_) (fun hc ha0 n mv va rows A nv hA hd hmv => ?_))
  · simp
    refine inv_p (RowErr_R h.toRowR l (by omega) hw) rfl (pr _) ?_
    rintro _ rfl
    by_cases hr : rowErr l = 0
    case neg =>
      have e2 : e = rowErr l := by rw [allP_err hr] at ha; simp at ha; exact ha.symm
      subst e2
      simp [hr]
      exact GhostV.refl ⟨rfl, rfl⟩
    simp [hr]
    refine inv_p (All12_R h.toRuR p l next hpn (by omega) hr hnx) rfl pb ?_
    rintro _ rfl
    simp [redoAllR, ha]
    have q1 := PCalls.le (LeVs.cons (LeV.nil 0 6) (LeVs.refl [.sl .unk 6 [] []])) (SamePages_R h.toDoeR [] [] (by simp))
    refine inv_p q1 rfl (by simp [pureL, V.pure, pureLL]) ?_
    rintro _ rfl
    simp
    have q2 := PCalls.le (LeVs.cons (LeV.nil 0 9) (LeVs.refl [.sl .unk 9 [] []])) (rSameRow5 h.toRecR [] [] (by simp) (fun r hr => by cases hr))
    refine inv_p q2 rfl (by simp [pureL, V.pure, pureLL]) ?_
    rintro _ rfl
    simp
    refine inv_f0 (Spoil_Q h.toSpoR (n := 0) (n' := 0) (by omega) (by omega) (.inl ⟨rfl, rfl⟩) (.inl ⟨rfl, rfl⟩) (fun A' nv' => ?_))
    simp
    refine inv_p (SamePages_R h.toDoeR p p hpn) rfl (p2 _ _) ?_
    rintro _ rfl
    simp
    refine inv_p (rSameRow5 h.toRecR l l (by omega) hsh) rfl (r2 _ _) ?_
    rintro _ rfl
    simp
    exact GhostV.refl ⟨rfl, rfl⟩
  · obtain ⟨hr, ht⟩ := checkR_zero hc
    obtain ⟨q1, q2, q3⟩ := togP_pages ht
    have hrec := rowErr_ok hr
    have hag : ∀ r ∈ l, agRec r := fun r hr => recOk_ag (hrec r hr)
    obtain ⟨i1, i2, i3⟩ := againP_inv q2 q3 hag
    have hall : (∀ x ∈ (allP p l next).1, pageOk x = true) ∧ (allP p l next).1.length < 2 ^ 40 ∧ (allP p l next).2.1.length < 2 ^ 40 := by
      unfold allP
      rw [if_neg (by simpa using hc)]
      split
      · exact ⟨i2, by dsimp only; omega, by simp⟩
      · split
        · exact ⟨by simp, by simp, by simp⟩
        · obtain ⟨j1, j2, j3⟩ := againP_inv (l := (undoP l (openL l) next).1) i1 i2 (undoP_ag hrec)
          have := undoP_len (l := l) (op := openL l) (next := next)
          exact ⟨j2, by dsimp only; omega, by dsimp only; omega⟩
    obtain ⟨hq3, hql, hml⟩ := hall
    have hR : redoAllR p l next = .tup [.sl .unk 6 ((allP p l next).1.map cPage) [], .sl .unk 9 ((allP p l next).2.1.map cRec) [], .int .i64 0] := by unfold redoAllR; rw [ha0]
    obtain ⟨q, hq⟩ : ∃ q, q = (allP p l next).1 := ⟨_, rfl⟩
    obtain ⟨m, hm⟩ : ∃ m, m = (allP p l next).2.1 := ⟨_, rfl⟩
    rw [← hq] at hd hq3 hql hR ⊢
    rw [← hm] at hmv hml hR
    simp
    refine inv_p (RowErr_R h.toRowR l (by omega) hw) rfl (pr _) ?_
    rintro _ rfl
    simp [hr]
    refine inv_p (All12_R h.toRuR p l next hpn (by omega) hr hnx) rfl pb ?_
    rintro _ rfl
    rw [hR]
    simp
    refine inv_look (SamePages_R h.toDoeR q q (by omega)) (Bors.cons (hd.bor hA) Bors.refl) (p2 _ _) ?_
    rintro _ rfl
    refine ⟨rfl, ?_⟩
    simp
    obtain ⟨w, hw1, hw2, hw3⟩ := hmv.view nv
    refine inv_look (PCalls.le (LeVs.cons hw2 (LeVs.refl _)) (rSameRow5 h.toRecR m m (by omega) hmv.short)) (Bors.cons hw1 Bors.refl) (by simp [pureL, hw3]) ?_
    rintro _ rfl
    refine ⟨rfl, ?_⟩
    simp
    refine inv_f0 (Spoil_Q h.toSpoR hql hml (hd.qv hA hq3) hmv.sh (fun A' nv' => ?_))
    simp
    refine inv_p (SamePages_R h.toDoeR p p hpn) rfl (p2 _ _) ?_
    rintro _ rfl
    simp
    refine inv_p (rSameRow5 h.toRecR l l (by omega) hsh) rfl (r2 _ _) ?_
    rintro _ rfl
    simp
    exact GhostV.refl ⟨rfl, rfl⟩
end Go.Proofs.Ytmbhgjekjpkigaa.AM
