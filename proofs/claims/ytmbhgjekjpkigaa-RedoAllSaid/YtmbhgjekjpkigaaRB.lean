/- Redo: maps, who is open, who is done, walked. -/
import Derived.Test.YtmbhgjekjpkigaaRA
namespace Go.Proofs.Ytmbhgjekjpkigaa.AM
open Go
set_option linter.unusedVariables false
set_option linter.unusedSimpArgs false
variable {P : Program}

/-! ### maps by whole numbers -/
def entG {α : Type} (κ : IntKind) (e : α → Int) (f : α → V) (a : α) : V × V := (.int κ (e a), f a)
theorem mfindK_G {α : Type} [DecidableEq α] {κ : IntKind} {e : α → Int} (he : ∀ a b, e a = e b → a = b) {f : α → V} (x : α) (ks : List α) :
    mfindK (.one .int) (.int κ (e x)) (ks.map (entG κ e f)) = some (if x ∈ ks then some (ks.idxOf x, f x) else none) := by
  have key : ∀ (ks : List α) (i : Nat), mfind (.one .int) (.int κ (e x)) (ks.map (entG κ e f)) i = some (if x ∈ ks then some (i + ks.idxOf x, f x) else none) := by
    intro ks
    induction ks with
    | nil => intro i; simp [mfind]
    | cons m ks ih =>
      intro i
      have e1 : keyEq (.one .int) (.int κ (e x)) (entG κ e f m).1 = some (decide (x = m)) := by
        have : (e x == e m) = decide (x = m) := by
          by_cases h : x = m
          · subst h; simp
          · have : ¬ e x = e m := fun q => h (he _ _ q)
            simp [h, this]
        simp [keyEq, eqL, entG, this]
      simp only [List.map_cons]
      have k2 : mfind (.one .int) (.int κ (e x)) (entG κ e f m :: ks.map (entG κ e f)) i = match keyEq (.one .int) (.int κ (e x)) (entG κ e f m).1 with
        | some true => some (some (i, (entG κ e f m).2))
        | some false => mfind (.one .int) (.int κ (e x)) (ks.map (entG κ e f)) (i + 1)
        | none => none := rfl
      rw [k2, e1]
      by_cases h : x = m
      · subst h; simp [entG, List.idxOf_cons]
      · simp only [h, decide_false, ih (i + 1)]
        have hm : (m == x) = false := by simpa using fun e => h e.symm
        by_cases hk : x ∈ ks
        · simp [hk, List.idxOf_cons, hm]; omega
        · simp [hk, h]
  have := key ks 0
  simp only [Nat.zero_add] at this
  unfold mfindK
  rw [if_pos (show keyOk (.one .int) (.int κ (e x)) = true from rfl)]
  exact this
theorem mfind_G {α : Type} [DecidableEq α] {κ : IntKind} {e : α → Int} (he : ∀ a b, e a = e b → a = b) {f : α → V} (x : α) (ks : List α) :
    mfind (.one .int) (.int κ (e x)) (ks.map (entG κ e f)) 0 = some (if x ∈ ks then some (ks.idxOf x, f x) else none) := by
  have h := mfindK_G (κ := κ) he (f := f) x ks
  unfold mfindK at h
  rw [if_pos (show keyOk (.one .int) (.int κ (e x)) = true from rfl)] at h
  exact h
def updG {α : Type} [DecidableEq α] (f : α → V) (x : α) (v : V) (k : α) : V := if k = x then v else f k
def addG {α : Type} [DecidableEq α] (ks : List α) (x : α) : List α := if x ∈ ks then ks else ks ++ [x]
theorem addG_nodup {α : Type} [DecidableEq α] {ks : List α} {x : α} (h : ks.Nodup) : (addG ks x).Nodup := by
  unfold addG
  split
  · exact h
  · rename_i hx
    rw [List.nodup_append]
    exact ⟨h, by simp, fun a ha b hb => by simp at hb; subst hb; exact fun e => hx (e ▸ ha)⟩
theorem mem_addG {α : Type} [DecidableEq α] {ks : List α} {x y : α} : y ∈ addG ks x ↔ y ∈ ks ∨ y = x := by
  unfold addG
  split
  · rename_i h
    constructor
    · exact .inl
    · rintro (h2 | rfl)
      · exact h2
      · exact h
  · simp
theorem addG_len {α : Type} [DecidableEq α] {ks : List α} {x : α} : (addG ks x).length ≤ ks.length + 1 := by
  unfold addG; split <;> simp
theorem set_G {α : Type} [DecidableEq α] {κ : IntKind} {e : α → Int} {f : α → V} {x : α} {ks : List α} (hx : x ∈ ks) (hn : ks.Nodup) (v : V) :
    (ks.map (entG κ e f)).set (ks.idxOf x) (.int κ (e x), v) = (addG ks x).map (entG κ e (updG f x v)) := by
  have hi : ks.idxOf x < ks.length := List.idxOf_lt_length_iff.2 hx
  unfold addG
  rw [if_pos hx]
  apply List.ext_getElem
  · simp
  · intro j h1 h2
    simp only [List.length_map, List.length_set] at h1 h2
    by_cases hj : ks.idxOf x = j
    · subst hj
      simp [entG, updG]
    · rw [List.getElem_set_ne hj]
      have : ks[j] ≠ x := by
        intro q
        apply hj
        rw [← q]
        exact hn.idxOf_getElem j h2
      simp [entG, updG, this]
theorem app_G {α : Type} [DecidableEq α] {κ : IntKind} {e : α → Int} {f : α → V} {x : α} {ks : List α} (hx : x ∉ ks) (v : V) :
    ks.map (entG κ e f) ++ [(.int κ (e x), v)] = (addG ks x).map (entG κ e (updG f x v)) := by
  unfold addG
  rw [if_neg hx, List.map_append]
  congr 1
  · apply List.map_congr_left
    intro a ha
    have : a ≠ x := fun q => hx (q ▸ ha)
    simp [entG, updG, this]
  · simp [entG, updG]
theorem eraseIdx_mapG {α β : Type} (g : α → β) : ∀ (l : List α) (n : Nat), (l.map g).eraseIdx n = (l.eraseIdx n).map g
  | [], n => by simp
  | a :: l, 0 => by simp
  | a :: l, n + 1 => by simp [eraseIdx_mapG g l n]
theorem erase_G {α : Type} [DecidableEq α] {κ : IntKind} {e : α → Int} {f : α → V} {x : α} {ks : List α} (hx : x ∈ ks) :
    (ks.map (entG κ e f)).eraseIdx (ks.idxOf x) = (ks.erase x).map (entG κ e f) := by
  rw [eraseIdx_mapG, List.erase_eq_eraseIdx_of_idxOf rfl]
end Go.Proofs.Ytmbhgjekjpkigaa.AM

namespace Go.Proofs.Ytmbhgjekjpkigaa.AM
open Go
set_option linter.unusedVariables false
set_option linter.unusedSimpArgs false
variable {P : Program}

@[simp] theorem hwat_skip {b : Bool} {ro : RO} {v : V} {st : St} : hwat P (some (.tup [], b)) ro st v = (v = .tup []) := Eq.trans rfl rfl
structure TogR (P : Program) : Prop extends RowR P where
  chg : R_redo_changes P
  fin : R_redo_end P
  rchg : R_gazetteerref12_changes P
  rlast : R_gazetteerref12_last P
  check12 : R_redo_Check P
  tog : R_gazetteerref12_Together P

def chgR (r : RecT) : Bool := decide (r.kind = 1) || decide (r.kind = 2)
theorem Chg_R (h : TogR P) (r : RecT) : PCalls P n_redo_changes [.agg (cRec r)] (fun v => v = .bool (chgR r)) := by
  refine A_redo_changes h.chg ?_
  unfold F_redo_changes
  simp [st0]
  by_cases h1 : r.kind = 1
  · simp [h1]; exact GhostV.refl ⟨rfl, by simp [chgR, h1]⟩
  by_cases h2 : r.kind = 2
  · simp [h1, h2]; exact GhostV.refl ⟨rfl, by simp [chgR, h2]⟩
  · simp [h1, h2]; exact GhostV.refl ⟨rfl, by simp [chgR, h1, h2]⟩
theorem rChg_R (h : TogR P) (r : RecT) : PCalls P n_gazetteerref12_changes [.agg (cRec r)] (fun v => v = .bool (chgR r)) := by
  refine A_gazetteerref12_changes h.rchg ?_
  unfold F_gazetteerref12_changes
  simp [st0]
  by_cases h1 : r.kind = 1
  · simp [h1]; exact GhostV.refl ⟨rfl, by simp [chgR, h1]⟩
  · simp [h1]; exact GhostV.refl ⟨rfl, by simp [chgR, h1]⟩
def lastLsn (l : List RecT) : Nat := (l.getLast?.map (·.lsn)).getD 0
theorem lastLsn_get {l : List RecT} (h : 0 < l.length) : lastLsn l = (l[l.length - 1]).lsn := by
  have : l.getLast? = some (l[l.length - 1]) := by rw [List.getLast?_eq_getElem?, List.getElem?_eq_getElem (by omega)]
  simp [lastLsn, this]
theorem End_R (h : TogR P) (l : List RecT) (hl : l.length < 2 ^ 40) : PCalls P n_redo_end [.sl .unk 9 (l.map cRec) []] (fun v => v = .int .u64 (lastLsn l)) := by
  refine A_redo_end h.fin ?_
  unfold F_redo_end
  simp [st0]
  by_cases h0 : l = []
  · subst h0
    simp
    exact GhostV.refl ⟨rfl, by simp [lastLsn]⟩
  · have hp : 0 < l.length := List.length_pos_iff.2 h0
    have hw := wsub1 (x := l.length) (by omega) hp
    simp [h0, hw, show l.length - 1 < l.length by omega]
    exact GhostV.refl ⟨rfl, by rw [lastLsn_get hp]; simp⟩
theorem rLast_R (h : TogR P) (l : List RecT) (hl : l.length < 2 ^ 40) : PCalls P n_gazetteerref12_last [.sl .unk 9 (l.map cRec) []] (fun v => v = .int .u64 (lastLsn l)) := by
  refine A_gazetteerref12_last h.rlast ?_
  unfold F_gazetteerref12_last
  simp [st0]
  by_cases h0 : l = []
  · subst h0
    simp
    exact GhostV.refl ⟨rfl, by simp [lastLsn]⟩
  · have hp : 0 < l.length := List.length_pos_iff.2 h0
    have hw := wsub1 (x := l.length) (by omega) hp
    simp [h0, hw, show l.length - 1 < l.length by omega]
    exact GhostV.refl ⟨rfl, by rw [lastLsn_get hp]; simp⟩

/-- The pages that records change. -/
def chgPages (l : List RecT) : List Int := (l.filter chgR).map (·.page)
theorem chgPages_snoc {l : List RecT} {i : Nat} (h : i < l.length) : chgPages (l.take (i + 1)) = if chgR l[i] then chgPages (l.take i) ++ [l[i].page] else chgPages (l.take i) := by
  unfold chgPages
  rw [take_snoc h, List.filter_append]
  cases hc : chgR l[i] <;> simp [hc]
def togAt (ps : List PageT) (l : List RecT) (i : Nat) (p : PageT) : Bool :=
  pageOk p && (decide (i = 0) || decide (((ps[i - 1]?).map (·.num)).getD 0 < p.num)) && !(decide (p.num ∈ chgPages l) && decide (lastLsn l < p.lsn))
def togI (ps : List PageT) (l : List RecT) (i : Nat) : Bool := match ps[i]? with | some p => togAt ps l i p | none => true
def pagesOk (ps : List PageT) (l : List RecT) (n : Nat) : Bool := (List.range n).all (togI ps l)
def togP (ps : List PageT) (l : List RecT) : Bool := decide (ps.length ≤ 32) && pagesOk ps l ps.length && (chgPages l).all fun n => decide (n ∈ ps.map (·.num))
theorem pagesOk_snoc {ps : List PageT} {l : List RecT} {i : Nat} : pagesOk ps l (i + 1) = (pagesOk ps l i && togI ps l i) := by
  unfold pagesOk; rw [List.range_succ, List.all_append]; simp
/-- Pages that are in order rise. -/
theorem pagesOk_rise {ps : List PageT} {l : List RecT} : ∀ {n : Nat}, pagesOk ps l n = true → n ≤ ps.length → ∀ j, j < n → ∀ (h : j < ps.length) (h2 : n - 1 < ps.length), (ps[j]).num ≤ (ps[n - 1]).num
  | 0, _, _, j, hj, _, _ => by omega
  | n + 1, h, hn, j, hj, h1, h2 => by
    rw [pagesOk_snoc, Bool.and_eq_true] at h
    simp only [Nat.add_sub_cancel] at h2 ⊢
    by_cases e : j = n
    · subst e; exact Int.le_refl _
    · have ih := pagesOk_rise h.1 (by omega) j (by omega) h1 (by omega)
      have h3 := h.2
      simp only [togI, List.getElem?_eq_getElem h2, togAt, Bool.and_eq_true] at h3
      have h4 := h3.1.2
      simp [show ¬ n = 0 by omega, List.getElem?_eq_getElem (show n - 1 < ps.length by omega)] at h4
      omega
theorem fresh_num {ps : List PageT} {l : List RecT} {i : Nat} (h : pagesOk ps l i = true) (hi : i < ps.length) (hr : i = 0 ∨ (ps[i - 1]'(by omega)).num < (ps[i]).num) : (ps[i]).num ∉ (ps.take i).map (·.num) := by
  intro hm
  simp only [List.mem_map] at hm
  obtain ⟨p, hp, he⟩ := hm
  obtain ⟨j, hj, rfl⟩ := List.getElem_of_mem hp
  simp only [List.length_take] at hj
  simp only [List.getElem_take] at he
  have := pagesOk_rise h (by omega) j (by omega) (by omega) (by omega)
  rcases hr with rfl | hr
  · omega
  · omega
abbrev iE : Int → Int := fun n => n
def tB (_ : Int) : V := .bool true
def kept (cs : List Int) (ps : List PageT) (i : Nat) (ks : List Int) : Prop := ks.Nodup ∧ ∀ n, n ∈ ks ↔ n ∈ cs ∧ n ∉ (ps.take i).map (·.num)
def CkA (l : List RecT) (k : Nat) (v : V) (st : St) : Prop :=
  ∃ (i nv ep : Nat) (ks : List Int), k = l.length - i ∧ i ≤ l.length ∧ v = .int .i64 ((i : Nat) : Int) ∧ ks.Nodup ∧ (∀ n, n ∈ ks ↔ n ∈ chgPages (l.take i)) ∧ st = ⟨[some (0, .map ep (ks.map (entG .i64 iE tB)))], nv⟩
def CkB (ps : List PageT) (l : List RecT) (k : Nat) (v9 v35 : V) (st : St) : Prop :=
  ∃ (i nv ep : Nat) (ks : List Int), k = ps.length - i ∧ i ≤ ps.length ∧ v9 = .bool (decide (ps.length ≤ 32) && pagesOk ps l i) ∧ v35 = .int .i64 ((i : Nat) : Int) ∧ kept (chgPages l) ps i ks ∧ st = ⟨[some (0, .map ep (ks.map (entG .i64 iE tB)))], nv⟩
def checkR (ps : List PageT) (l : List RecT) : Int := if rowErr l = 0 then (if togP ps l then 0 else 220) else rowErr l
theorem updG_tB {x : Int} : updG tB x (.bool true) = tB := by funext k; simp [updG, tB]
set_option maxHeartbeats 2000000 in
theorem Check12 (h : TogR P) (ps : List PageT) (l : List RecT) (hp : ps.length < 2 ^ 40) (hl : l.length < 2 ^ 40) (hw : rowW l) :
    PCalls P n_redo_Check [.sl .unk 6 (ps.map cPage) [], .sl .unk 9 (l.map cRec) []] (fun v => v = .int .i64 (checkR ps l)) := by
  refine A_redo_Check h.check12 ?_
  unfold F_redo_Check
  simp [st0]
  refine inv_p (CheckRow_R h.toRowR l hl hw) rfl (by simp [pureL, V.pure, pureLL]) ?_
  rintro _ rfl
  by_cases hrow : rowErr l = 0
  case neg =>
    simp [hrow]
    exact GhostV.refl ⟨rfl, by simp [checkR, hrow]⟩
  simp [hrow]
  refine ⟨CkA l, ⟨l.length, GhostV.refl ⟨0, _, 1, [], by simp, by simp, by simp, by simp, by simp [chgPages], rfl⟩⟩, ?_⟩
  rintro k1 v20 st ⟨i, nv, ep, ks, rfl, hi, rfl, hnd, hks, rfl⟩
  by_cases hlt : i < l.length
  · have hsn := chgPages_snoc hlt
    simp [hlt]
    refine inv_p (Chg_R h l[i]) rfl (by simp [pureL, V.pure, pureLL]) ?_
    rintro _ rfl
    cases hc : chgR l[i]
    · simp
      refine ⟨l.length - (i + 1), by omega, GhostV.keep (L := [_]) (M := [_]) ⟨i + 1, _, ep, ks, rfl, by omega, by rw [wadd1 (by omega)], hnd, fun n => ?_, rfl⟩⟩
      rw [hsn, hc]; exact hks n
    · simp
      have hm : mfind (.one .int) (.int .i64 l[i].page) (ks.map (entG .i64 iE tB)) 0 = _ := mfind_G (κ := .i64) (e := iE) (fun a b h => h) (f := tB) l[i].page ks
      by_cases hin : l[i].page ∈ ks
      · simp [hm, hin]
        rw [show (V.int IntKind.i64 l[i].page) = V.int .i64 (iE l[i].page) from rfl, set_G hin hnd, updG_tB]
        refine ⟨l.length - (i + 1), by omega, GhostV.keep (L := [_]) (M := [_]) ⟨i + 1, _, _, addG ks l[i].page, rfl, by omega, by rw [wadd1 (by omega)], addG_nodup hnd, fun n => ?_, rfl⟩⟩
        rw [hsn, hc, mem_addG, hks]; simp
      · simp [hm, hin]
        rw [show (V.int IntKind.i64 l[i].page) = V.int .i64 (iE l[i].page) from rfl, app_G hin, updG_tB]
        refine ⟨l.length - (i + 1), by omega, GhostV.keep (L := [_]) (M := [_]) ⟨i + 1, _, _, addG ks l[i].page, rfl, by omega, by rw [wadd1 (by omega)], addG_nodup hnd, fun n => ?_, rfl⟩⟩
        rw [hsn, hc, mem_addG, hks]; simp
  · rw [List.take_of_length_le (by omega)] at hks
    simp [hlt]
    have hkept0 : kept (chgPages l) ps 0 ks := ⟨hnd, fun n => by rw [hks]; simp⟩
    refine ⟨CkB ps l, ⟨ps.length, GhostV.refl ⟨0, _, ep, ks, by simp, by simp, ?_, by simp, hkept0, rfl⟩⟩, ?_⟩
    · simp [pagesOk]; omega
    clear hkept0
    rintro k2 v9 v35 st ⟨i, nv, ep, ks, rfl, hi, rfl, rfl, hkp, rfl⟩
    by_cases hlt : i < ps.length
    · have hsn := pagesOk_snoc (ps := ps) (l := l) (i := i)
      have hti : togI ps l i = togAt ps l i ps[i] := by simp [togI, hlt]
      obtain ⟨b, hb⟩ : ∃ b, b = (decide (ps.length ≤ 32) && pagesOk ps l i) := ⟨_, rfl⟩
      rw [← hb]
      have hnx : (decide (ps.length ≤ 32) && pagesOk ps l (i + 1)) = (b && togAt ps l i ps[i]) := by rw [hsn, hti, hb, Bool.and_assoc]
      have hm : mfind (.one .int) (.int .i64 ps[i].num) (ks.map (entG .i64 iE tB)) 0 = _ := mfind_G (κ := .i64) (e := iE) (fun a b h => h) (f := tB) ps[i].num ks
      have hkn : kept (chgPages l) ps (i + 1) (ks.erase ps[i].num) := by
        refine ⟨hkp.1.erase _, fun n => ?_⟩
        rw [hkp.1.mem_erase_iff, hkp.2, take_snoc hlt]
        simp only [List.map_append, List.map_cons, List.map_nil, List.mem_append, List.mem_singleton, not_or]
        exact ⟨fun ⟨a, b, c⟩ => ⟨b, c, a⟩, fun ⟨a, b, c⟩ => ⟨c, a, b⟩⟩
      have fin : ∀ {b' : Bool} {nv' ep' : Nat} {M : List (Option (Nat × Obj))}, (b && togAt ps l i ps[i]) = b' → ∃ j, j < ps.length - i ∧ GhostV [.bool b', .int .i64 (IntKind.i64.wrap ((i : Int) + 1))] ⟨[some (0, .map ep' ((ks.erase ps[i].num).map (entG .i64 iE tB)))] ++ M, nv'⟩ (app (n := 2) (CkB ps l j)) := fun hbb =>
        ⟨ps.length - (i + 1), by omega, GhostV.keep ⟨i + 1, _, _, _, rfl, by omega, by rw [hnx, hbb], by rw [wadd1 (by omega)], hkn, rfl⟩⟩
      have her : ∀ hq : ps[i].num ∈ ks, (ks.map (entG .i64 iE tB)).eraseIdx (ks.idxOf ps[i].num) = (ks.erase ps[i].num).map (entG .i64 iE tB) := fun hq => erase_G hq
      have hne : ∀ hq : ps[i].num ∉ ks, ks.erase ps[i].num = ks := fun hq => List.erase_of_not_mem hq
      cases b
      · by_cases hin : ps[i].num ∈ ks
        · simp [hlt, hm, hin, her hin]
          exact fin (b' := false) (by simp)
        · have fin' := @fin
          rw [hne hin] at fin'
          simp [hlt, hm, hin]
          exact fin' (b' := false) (by simp)
      simp [hlt]
      refine inv_p (PCheck h.toPagR ps[i]) rfl (by simp [pureL, V.pure, pureLL]) ?_
      rintro _ rfl
      cases hpo : pageOk ps[i]
      · have hv : togAt ps l i ps[i] = false := by simp [togAt, hpo]
        by_cases hin : ps[i].num ∈ ks
        · simp [hm, hin, her hin]
          exact fin (b' := false) (by simp [hv])
        · have fin' := @fin
          rw [hne hin] at fin'
          simp [hm, hin]
          exact fin' (b' := false) (by simp [hv])
      have hb2 : pagesOk ps l i = true := by
        have := hb.symm
        simp only [Bool.and_eq_true] at this
        exact this.2
      -- do they rise?
      have hrc : (i = 0 ∨ (ps[i - 1]'(by omega)).num < ps[i].num) ∨ (¬ i = 0 ∧ ¬ (ps[i - 1]'(by omega)).num < ps[i].num) := by
        by_cases q : i = 0
        · exact .inl (.inl q)
        · by_cases q2 : (ps[i - 1]'(by omega)).num < ps[i].num
          · exact .inl (.inr q2)
          · exact .inr ⟨q, q2⟩
      have hpi : i - 1 < ps.length := by omega
      rcases hrc with hrise | ⟨h0, hnr⟩
      case inr =>
        have hv : togAt ps l i ps[i] = false := by simp [togAt, h0, hpi, hnr]
        have hws := wsub1 (x := i) (by omega) (by omega)
        by_cases hin : ps[i].num ∈ ks
        · simp [h0, hws, hpi, hnr, hm, hin, her hin]
          exact fin (b' := false) (by simp [hv])
        · have fin' := @fin
          rw [hne hin] at fin'
          simp [h0, hws, hpi, hnr, hm, hin]
          exact fin' (b' := false) (by simp [hv])
      have hfr := fresh_num hb2 hlt hrise
      have hmem : ps[i].num ∈ ks ↔ ps[i].num ∈ chgPages l := by rw [hkp.2]; exact ⟨fun q => q.1, fun q => ⟨q, hfr⟩⟩
      have hri2 : (decide (i = 0) || decide (((ps[i - 1]?).map (·.num)).getD 0 < ps[i].num)) = true := by
        rcases hrise with q | q
        · simp [q]
        · simp [hpi, q]
      have hval : togAt ps l i ps[i] = !(decide (ps[i].num ∈ chgPages l) && decide (lastLsn l < ps[i].lsn)) := by
        unfold togAt; rw [hpo, hri2]; rfl
      have hsplit : i = 0 ∨ ¬ i = 0 ∧ (ps[i - 1]'(by omega)).num < ps[i].num := by
        by_cases q : i = 0
        · exact .inl q
        · exact .inr ⟨q, hrise.resolve_left q⟩
      rcases hsplit with h0 | ⟨h0, hr1⟩
      all_goals
        by_cases hin : ps[i].num ∈ ks
        · first
            | simp [h0, wsub1 (x := i) (by omega) (by omega), hpi, hr1, hm, hin, tB]
            | simp [eq_true h0, hm, hin, tB]
          refine inv_p (End_R h l hl) rfl (by simp [pureL, V.pure, pureLL]) ?_
          rintro _ rfl
          by_cases hls : lastLsn l < ps[i].lsn
          · simp [hm, hin, her hin, hls]
            exact fin (b' := false) (by rw [hval]; simp [hmem.1 hin, hls])
          · simp [hm, hin, her hin, hls]
            exact fin (b' := true) (by rw [hval]; simp [hls])
        · have fin' := @fin
          rw [hne hin] at fin'
          first
            | simp [h0, wsub1 (x := i) (by omega) (by omega), hpi, hr1, hm, hin, tB]
            | simp [eq_true h0, hm, hin, tB]
          exact fin' (b' := true) (by rw [hval]; have q2 : ¬ ps[i].num ∈ chgPages l := fun q => hin (hmem.2 q); simp [q2])
    · obtain rfl : i = ps.length := by omega
      have hto : togP ps l = (decide (ps.length ≤ 32) && pagesOk ps l ps.length && decide (ks = [])) := by
        unfold togP
        congr 1
        rw [Bool.eq_iff_iff]
        simp only [List.all_eq_true, decide_eq_true_eq]
        constructor
        · intro hall
          refine List.eq_nil_iff_forall_not_mem.2 (fun n hn => ?_)
          have := (hkp.2 n).1 hn
          rw [List.take_length] at this
          exact this.2 (hall n this.1)
        · intro hk n hn
          refine Classical.byContradiction fun q => ?_
          have : n ∈ ks := (hkp.2 n).2 ⟨hn, by rw [List.take_length]; exact q⟩
          rw [hk] at this; cases this
      obtain ⟨b, hb⟩ : ∃ b, b = (decide (ps.length ≤ 32) && pagesOk ps l ps.length) := ⟨_, rfl⟩
      rw [← hb] at hto ⊢
      cases b
      · simp [hlt]
        exact GhostV.refl ⟨rfl, by simp [checkR, hrow, hto]⟩
      · simp [hlt]
        by_cases hk : ks = []
        · simp [hk]
          exact GhostV.refl ⟨rfl, by simp [checkR, hrow, hto, hk]⟩
        · have : 0 < ks.length := List.length_pos_iff.2 hk
          simp [this]
          exact GhostV.refl ⟨rfl, by simp [checkR, hrow, hto, hk]⟩
end Go.Proofs.Ytmbhgjekjpkigaa.AM

namespace Go.Proofs.Ytmbhgjekjpkigaa.AM
open Go
set_option linter.unusedVariables false
set_option linter.unusedSimpArgs false
variable {P : Program}

structure OpnR (P : Program) : Prop extends TogR P, Rising_boolR P, Rising_OpenR P where
  opn : R_redo_Open P
  rtxns : R_gazetteerref12_Txns P
  ropen : R_gazetteerref12_Open P

structure OpenT where
  (txn last next : Nat)
  deriving DecidableEq
@[simp] def cOpen (x : OpenT) : List V := [.int .u64 x.txn, .int .u64 x.last, .int .u64 x.next]
@[simp] theorem p_open (l : List OpenT) : pureLL (l.map cOpen) = true := pureLL_map (fun _ => rfl) l
def nextOf (r : RecT) : Nat := if r.kind = 2 then r.next else r.lsn
def openOf (l : List RecT) (t : Nat) : OpenT := l.foldl (fun a r => if r.txn = t then ⟨t, r.lsn, nextOf r⟩ else a) ⟨t, 0, 0⟩
theorem openOf_snoc {l : List RecT} {i t : Nat} (h : i < l.length) : openOf (l.take (i + 1)) t = if l[i].txn = t then ⟨t, l[i].lsn, nextOf l[i]⟩ else openOf (l.take i) t := by
  unfold openOf
  rw [take_snoc h, List.foldl_append]; rfl
def overT (l : List RecT) (t : Nat) : Bool := l.any fun r => decide (r.txn = t) && !chgR r
theorem overT_snoc {l : List RecT} {i t : Nat} (h : i < l.length) : overT (l.take (i + 1)) t = (overT (l.take i) t || decide (l[i].txn = t) && !chgR l[i]) := by
  unfold overT
  rw [take_snoc h, List.any_append]; simp
/-- Rows that rise, with the same numbers, are the same. -/
theorem rise_ext : ∀ {a b : List Nat}, a.Pairwise (· < ·) → b.Pairwise (· < ·) → (∀ x, x ∈ a ↔ x ∈ b) → a = b := by
  intro a b ha hb h
  refine List.Perm.eq_of_pairwise (le := fun x y : Nat => x < y) (fun x y _ _ h1 h2 => by omega) ha hb ?_
  exact (List.perm_ext_iff_of_nodup (ha.imp (fun h => Nat.ne_of_lt h)) (hb.imp (fun h => Nat.ne_of_lt h))).2 h
theorem sortL_rise {ks : List Nat} (h : ks.Nodup) : (sortL ks).Pairwise (· < ·) := by
  have h1 : (sortL ks).Pairwise (· ≤ ·) := sortL_sorted ks
  have h2 : (sortL ks).Nodup := by
    rw [sortL_eq]; exact (List.mergeSort_perm _ _).nodup_iff.2 h
  exact (List.pairwise_and_iff.2 ⟨h1, h2⟩).imp (fun {a b} ⟨p, q⟩ => Nat.lt_of_le_of_ne p q)
theorem mem_sortL {ks : List Nat} {x : Nat} : x ∈ sortL ks ↔ x ∈ ks := by
  rw [sortL_eq]; exact (List.mergeSort_perm _ _).mem_iff
/-- The transactions of records, rising. -/
def txnsL (l : List RecT) : List Nat := sortL ((l.map (·.txn)).foldl addG [])
theorem foldl_addG {xs ks : List Nat} (h : ks.Nodup) : (xs.foldl addG ks).Nodup ∧ ∀ x, x ∈ xs.foldl addG ks ↔ x ∈ ks ∨ x ∈ xs := by
  induction xs generalizing ks with
  | nil => exact ⟨h, fun x => by simp⟩
  | cons a xs ih =>
    have := ih (addG_nodup (x := a) h)
    refine ⟨this.1, fun x => ?_⟩
    rw [List.foldl_cons, this.2, mem_addG, List.mem_cons, or_assoc]
theorem txnsL_rise (l : List RecT) : (txnsL l).Pairwise (· < ·) := sortL_rise (foldl_addG List.nodup_nil).1
theorem mem_txnsL {l : List RecT} {t : Nat} : t ∈ txnsL l ↔ ∃ r ∈ l, r.txn = t := by
  unfold txnsL
  rw [mem_sortL, (foldl_addG List.nodup_nil).2]
  simp
def openL (l : List RecT) : List OpenT := ((txnsL l).filter fun t => !overT l t).map (openOf l)
abbrev uE : Nat → Int := fun n => (n : Int)
theorem uE_inj : ∀ a b : Nat, uE a = uE b → a = b := fun a b h => by simp only [uE] at h; omega
def tU (_ : Nat) : V := .bool true
theorem updG_tU {x : Nat} : updG tU x (.bool true) = tU := by funext k; simp [updG, tU]
theorem entG_F {f : Nat → V} : entG .u64 uE f = entF f := rfl
theorem rowErr_len {l : List RecT} (h : rowErr l = 0) : l.length ≤ 64 := by
  unfold rowErr at h
  split at h
  · omega
  · omega
end Go.Proofs.Ytmbhgjekjpkigaa.AM

namespace Go.Proofs.Ytmbhgjekjpkigaa.AM
open Go
set_option linter.unusedVariables false
set_option linter.unusedSimpArgs false
variable {P : Program}

def fO (l : List RecT) (t : Nat) : V := .agg (cOpen (openOf l t))
theorem updG_fO {l : List RecT} {i : Nat} (h : i < l.length) : updG (fO (l.take i)) l[i].txn (.agg (cOpen ⟨l[i].txn, l[i].lsn, nextOf l[i]⟩)) = fO (l.take (i + 1)) := by
  funext t
  simp only [updG, fO, openOf_snoc h]
  by_cases e : t = l[i].txn
  · subst e; simp
  · rw [if_neg e, if_neg (fun q => e q.symm)]
def oMap (ver ep : Nat) (ks : List Nat) (f : Nat → V) : Option (Nat × Obj) := some (ver, .map ep (ks.map (entF f)))
def OpI (l : List RecT) (k : Nat) (v : V) (st : St) : Prop :=
  ∃ (i nv ep ep2 : Nat) (ks ks2 : List Nat), k = l.length - i ∧ i ≤ l.length ∧ v = .int .i64 ((i : Nat) : Int) ∧ ks.Nodup ∧ ks.length ≤ i ∧ (∀ n, n ∈ ks ↔ ∃ r ∈ l.take i, r.txn = n) ∧ ks2.Nodup ∧ (∀ n, n ∈ ks2 ↔ overT (l.take i) n = true) ∧
    st = ⟨[oMap 0 ep ks (fO (l.take i)), oMap 2 ep2 ks2 tU], nv⟩
def OpJ (l : List RecT) (i nv ep : Nat) (r : RecT) (ks : List Nat) (st : St) : Prop :=
  ∃ (nv' ep2 : Nat) (ks2 : List Nat), ks2.Nodup ∧ (∀ n, n ∈ ks2 ↔ overT (l.take (i + 1)) n = true) ∧
    st = ⟨[oMap 0 ep ks (fO (l.take i)), oMap 2 ep2 ks2 tU, some (nv, .mem 9 [cRec r]), some (nv + 1, .mem 3 [[.int .u64 r.txn, .int .u64 r.lsn, .int .u64 (nextOf r)]])], nv'⟩
def OpK (l : List RecT) (M : List (Option (Nat × Obj))) (ts : List Nat) (k : Nat) (v10 v54 : V) (st : St) : Prop :=
  ∃ (i va nv : Nat) (out : List OpenT), k = ts.length - i ∧ i ≤ ts.length ∧ v54 = .int .i64 ((i : Nat) : Int) ∧ out = ((ts.take i).filter fun t => !overT l t).map (openOf l) ∧ v10 = .msl M.length va 0 out.length ∧ st = ⟨M ++ [some (va, .mem 3 (out.map cOpen))], nv⟩
def openR (l : List RecT) : V := if rowErr l = 0 then .tup [.sl .unk 3 ((openL l).map cOpen) [], .int .i64 0] else .tup [.sl .unk 3 [] [], .int .i64 (rowErr l)]
theorem rowErr_ok {l : List RecT} (h : rowErr l = 0) : ∀ r ∈ l, recOk r = true := by
  have h64 := rowErr_len h
  unfold rowErr at h
  rw [if_neg (by omega)] at h
  cases hq : rowOk l
  · rw [hq] at h; simp at h
  · intro r hr
    obtain ⟨i, hi, rfl⟩ := List.getElem_of_mem hr
    have := rowOk_iff.1 hq i hi
    rw [okAt_eq hi] at this
    simp only [okB, Bool.and_eq_true] at this
    exact this.1.1
set_option maxHeartbeats 4000000 in
theorem Open_R (h : OpnR P) (l : List RecT) (hl : l.length < 2 ^ 40) (hw : rowW l) : PCalls P n_redo_Open [.sl .unk 9 (l.map cRec) []] (fun v => v = openR l) := by
  refine A_redo_Open h.opn ?_
  unfold F_redo_Open
  simp [st0]
  refine inv_p (CheckRow_R h.toRowR l hl hw) rfl (by simp [pureL, V.pure, pureLL]) ?_
  rintro _ rfl
  by_cases hrow : rowErr l = 0
  case neg =>
    simp [hrow]
    exact GhostV.le (LeVs.cons (.nil _ 3) (LeVs.refl _)) ⟨by simp [V.pure, pureL, pureLL], by simp [openR, hrow]⟩
  have h64 := rowErr_len hrow
  have hrec := rowErr_ok hrow
  simp [hrow]
  refine ⟨OpI l, ⟨l.length, GhostV.refl ⟨0, _, 1, 3, [], [], by simp, by simp, by simp, by simp, by simp, by simp, by simp, by simp [overT], rfl⟩⟩, ?_⟩
  rintro k1 v22 st ⟨i, nv, ep, ep2, ks, ks2, rfl, hi, rfl, hnd, hkl, hks, hnd2, hks2, rfl⟩
  by_cases hlt : i < l.length
  · have hsn := fun t => overT_snoc (t := t) hlt
    have hal := addG_len (ks := ks) (x := l[i].txn)
    have hok := hrec l[i] (List.getElem_mem hlt)
    have hkind : l[i].kind = 1 ∨ l[i].kind = 2 ∨ l[i].kind = 3 ∨ l[i].kind = 4 := by simp only [recOk, decide_eq_true_eq] at hok; omega
    simp [hlt, oMap]
    refine ⟨OpJ l i nv ep l[i] ks, ?_, ?_⟩
    · have hm2 : mfind (.one .int) (.int .u64 ((l[i].txn : Nat) : Int)) (ks2.map (entF tU)) 0 = _ := mfind_G (κ := .u64) uE_inj (f := tU) l[i].txn ks2
      have hover : chgR l[i] = false → ∀ n, n ∈ addG ks2 l[i].txn ↔ overT (l.take (i + 1)) n = true := by
        intro hc n
        rw [hsn, mem_addG, hks2, hc]; simp only [Bool.not_false, Bool.and_true, Bool.or_eq_true, decide_eq_true_eq]; exact or_congr Iff.rfl eq_comm
      have hsame : chgR l[i] = true → ∀ n, n ∈ ks2 ↔ overT (l.take (i + 1)) n = true := by
        intro hc n
        rw [hsn, hks2, hc]; simp
      rcases hkind with hk | hk | hk | hk
      · simp [hk]
        exact GhostV.refl ⟨nv + 1 + 1, ep2, ks2, hnd2, hsame (by simp [chgR, hk]), by simp [oMap, nextOf, hk]⟩
      · simp [hk]
        exact GhostV.refl ⟨nv + 1 + 1, ep2, ks2, hnd2, hsame (by simp [chgR, hk]), by simp [oMap, nextOf, hk]⟩
      all_goals
        have hc : chgR l[i] = false := by simp [chgR, hk]
        by_cases hin : l[i].txn ∈ ks2
        · have e := set_G (κ := .u64) (e := uE) (f := tU) hin hnd2 (.bool true)
          rw [updG_tU, entG_F] at e
          simp only [uE] at e
          simp [hk, hm2, hin, e]
          exact GhostV.refl ⟨nv + 1 + 1, ep2, addG ks2 l[i].txn, addG_nodup hnd2, hover hc, by simp [oMap, nextOf, hk]⟩
        · have e := app_G (κ := .u64) (e := uE) (f := tU) hin (.bool true)
          rw [updG_tU, entG_F] at e
          simp only [uE] at e
          simp [hk, hm2, hin, e]
          exact GhostV.refl ⟨nv + 1 + 1 + 1, nv + 1 + 1, addG ks2 l[i].txn, addG_nodup hnd2, hover hc, by simp [oMap, nextOf, hk]⟩
    · rintro st ⟨nv', ep2, ks2, hnd2, hks2, rfl⟩
      have hm : mfind (.one .int) (.int .u64 ((l[i].txn : Nat) : Int)) (ks.map (entF (fO (l.take i)))) 0 = _ := mfind_G (κ := .u64) uE_inj (f := fO (l.take i)) l[i].txn ks
      have hks' : ∀ n, n ∈ addG ks l[i].txn ↔ ∃ r ∈ l.take (i + 1), r.txn = n := by
        intro n
        rw [mem_addG, hks, take_snoc hlt]
        simp only [List.mem_append, List.mem_singleton]
        constructor
        · rintro (⟨r, h1, h2⟩ | rfl)
          · exact ⟨r, .inl h1, h2⟩
          · exact ⟨_, .inr rfl, rfl⟩
        · rintro ⟨r, h1 | rfl, h2⟩
          · exact .inl ⟨r, h1, h2⟩
          · exact .inr h2.symm
      by_cases hin : l[i].txn ∈ ks
      · have e := set_G (κ := .u64) (e := uE) (f := fO (l.take i)) hin hnd (.agg (cOpen ⟨l[i].txn, l[i].lsn, nextOf l[i]⟩))
        rw [updG_fO hlt, entG_F] at e
        simp only [uE, cOpen] at e
        simp [oMap, hm, hin, e]
        exact ⟨l.length - (i + 1), by omega, GhostV.keep (L := [_, _]) (M := [_, _]) ⟨i + 1, _, _, _, addG ks l[i].txn, ks2, rfl, by omega, by rw [wadd1 (by omega)], addG_nodup hnd, by omega, hks', hnd2, hks2, rfl⟩⟩
      · have e := app_G (κ := .u64) (e := uE) (f := fO (l.take i)) hin (.agg (cOpen ⟨l[i].txn, l[i].lsn, nextOf l[i]⟩))
        rw [updG_fO hlt, entG_F] at e
        simp only [uE, cOpen] at e
        simp [oMap, hm, hin, e]
        exact ⟨l.length - (i + 1), by omega, GhostV.keep (L := [_, _]) (M := [_, _]) ⟨i + 1, _, _, _, addG ks l[i].txn, ks2, rfl, by omega, by rw [wadd1 (by omega)], addG_nodup hnd, by omega, hks', hnd2, hks2, rfl⟩⟩
  · rw [List.take_of_length_le (by omega)] at hks hks2 ⊢
    simp [hlt]
    refine inv_f0 (rising_Open h.toRising_OpenR ks (fO l) (id := 0) (ver := 0) (ep := ep) hnd (by omega) rfl (fun nv' => ?_))
    have e : sortL ks = txnsL l := rise_ext (sortL_rise hnd) (txnsL_rise l) (fun x => by rw [mem_sortL, hks, mem_txnsL])
    rw [e]
    have htl : (txnsL l).length < 2 ^ 40 := by rw [← e, sortL_len]; omega
    obtain ⟨ts, hts⟩ : ∃ ts, ts = txnsL l := ⟨_, rfl⟩
    have hmt : ∀ t ∈ ts, t ∈ ks := fun t ht => by rw [hts, mem_txnsL] at ht; rw [hks]; exact ht
    rw [← hts] at htl ⊢
    simp
    obtain ⟨M, hM⟩ : ∃ M : List (Option (Nat × Obj)), M = [oMap 0 ep ks (fO l), oMap 2 ep2 ks2 tU] := ⟨_, rfl⟩
    refine ⟨OpK l M ts, ⟨ts.length, ?_⟩, ?_⟩
    · refine GhostV.nilr 3 (by decide) ⟨0, nv', nv' + 1, [], by simp, by simp, by simp, by simp, by simp [hM], by simp [hM]⟩
    rintro k3 v10 v54 st ⟨j, va, nv, out, rfl, hj, rfl, hout, rfl, rfl⟩
    have hol : out.length ≤ j := by
      rw [hout, List.length_map]
      exact Nat.le_trans (List.length_filter_le _ _) (by simp; omega)
    by_cases hjt : j < ts.length
    · have htk := hmt ts[j] (List.getElem_mem hjt)
      have hm : mfind (.one .int) (.int .u64 ((ts[j] : Nat) : Int)) (ks.map (entF (fO l))) 0 = _ := mfind_G (κ := .u64) uE_inj (f := fO l) ts[j] ks
      have hm2 : mfind (.one .int) (.int .u64 ((ts[j] : Nat) : Int)) (ks2.map (entF tU)) 0 = _ := mfind_G (κ := .u64) uE_inj (f := tU) ts[j] ks2
      have hsn : ((ts.take (j + 1)).filter fun t => !overT l t).map (openOf l) = out ++ (if overT l ts[j] then [] else [openOf l ts[j]]) := by
        rw [take_snoc hjt, List.filter_append, List.map_append, ← hout]
        congr 1
        cases ho : overT l ts[j] <;> simp [ho]
      by_cases hin : ts[j] ∈ ks2
      · have ho : overT l ts[j] = true := (hks2 _).1 hin
        rw [hM]
        simp [hjt, oMap, hm2, hin, tU]
        exact ⟨ts.length - (j + 1), by omega, GhostV.refl ⟨j + 1, va, nv, out, rfl, by omega, by rw [wadd1 (by omega)], by rw [hsn, ho]; simp, by simp [hM], by simp [hM, oMap]⟩⟩
      · have ho : overT l ts[j] = false := by
          cases hq : overT l ts[j]
          · rfl
          · exact absurd ((hks2 _).2 hq) hin
        rw [hM]
        simp [hjt, oMap, hm2, hin, tU, hm, htk, fO]
        refine ⟨by omega, ts.length - (j + 1), by omega, GhostV.keep (L := [_, _, _]) ⟨j + 1, _, _, out ++ [openOf l ts[j]], rfl, by omega, by rw [wadd1 (by omega)], by rw [hsn, ho]; simp, by simp [hM]; rfl, by simp [hM, oMap]; rfl⟩⟩
    · rw [List.take_of_length_le (by omega)] at hout
      rw [hM]
      simp [hjt]
      refine GhostV.rowk (L := []) (sz := 3) (es := out.map cOpen) (by simp) (by simp) (by simp) ?_
      rw [List.drop_zero, take_map_len]
      exact ⟨by simp [V.pure, pureL, pureLL], by simp [openR, hrow, openL, hout, hts]⟩
end Go.Proofs.Ytmbhgjekjpkigaa.AM

namespace Go.Proofs.Ytmbhgjekjpkigaa.AM
open Go
set_option linter.unusedVariables false
set_option linter.unusedSimpArgs false
variable {P : Program}

def bestOf (l : List RecT) (m : Nat) : Nat := l.foldl (fun b r => if m < r.txn ∧ (b = 0 ∨ r.txn < b) then r.txn else b) 0
theorem bestOf_snoc {l : List RecT} {i m : Nat} (h : i < l.length) : bestOf (l.take (i + 1)) m = if m < l[i].txn ∧ (bestOf (l.take i) m = 0 ∨ l[i].txn < bestOf (l.take i) m) then l[i].txn else bestOf (l.take i) m := by
  unfold bestOf
  rw [take_snoc h, List.foldl_append]; rfl
theorem bestOf_spec {l : List RecT} {m : Nat} : ∀ {i : Nat}, i ≤ l.length → (bestOf (l.take i) m = 0 → ∀ r ∈ l.take i, r.txn ≤ m) ∧ (bestOf (l.take i) m ≠ 0 → (∃ r ∈ l.take i, r.txn = bestOf (l.take i) m) ∧ m < bestOf (l.take i) m ∧ ∀ r ∈ l.take i, m < r.txn → bestOf (l.take i) m ≤ r.txn)
  | 0, _ => by simp [bestOf]
  | i + 1, h => by
    obtain ⟨h1, h2⟩ := bestOf_spec (l := l) (m := m) (i := i) (by omega)
    have hlt : i < l.length := by omega
    rw [bestOf_snoc hlt]
    have hmem : ∀ r, r ∈ l.take (i + 1) ↔ r ∈ l.take i ∨ r = l[i] := fun r => by rw [take_snoc hlt]; simp only [List.mem_append, List.mem_singleton]
    by_cases hb : bestOf (l.take i) m = 0
    · by_cases hm : m < l[i].txn
      · rw [if_pos ⟨hm, .inl hb⟩]
        refine ⟨fun q => by omega, fun _ => ⟨⟨l[i], (hmem _).2 (.inr rfl), rfl⟩, hm, fun r hr hmr => ?_⟩⟩
        rcases (hmem r).1 hr with q | rfl
        · have := h1 hb r q; omega
        · exact Nat.le_refl _
      · rw [if_neg (fun q => hm q.1)]
        refine ⟨fun _ r hr => ?_, fun q => absurd hb q⟩
        rcases (hmem r).1 hr with q | rfl
        · exact h1 hb r q
        · omega
    · obtain ⟨⟨r0, hr0, he⟩, hmb, hle⟩ := h2 hb
      by_cases hm : m < l[i].txn ∧ l[i].txn < bestOf (l.take i) m
      · rw [if_pos ⟨hm.1, .inr hm.2⟩]
        refine ⟨fun q => by omega, fun _ => ⟨⟨l[i], (hmem _).2 (.inr rfl), rfl⟩, hm.1, fun r hr hmr => ?_⟩⟩
        rcases (hmem r).1 hr with q | rfl
        · have := hle r q hmr; omega
        · exact Nat.le_refl _
      · rw [if_neg (fun q => hm ⟨q.1, q.2.resolve_left hb⟩)]
        refine ⟨fun q => absurd q hb, fun _ => ⟨⟨r0, (hmem _).2 (.inl hr0), he⟩, hmb, fun r hr hmr => ?_⟩⟩
        rcases (hmem r).1 hr with q | rfl
        · exact hle r q hmr
        · omega
def lastN (ts : List Nat) : Nat := ts.getLast?.getD 0
theorem lastN_take {ts : List Nat} {i : Nat} (h : i < ts.length) : lastN (ts.take (i + 1)) = ts[i] := by
  unfold lastN; rw [take_snoc h, List.getLast?_concat]; rfl
theorem rise_get {ts : List Nat} (h : ts.Pairwise (· < ·)) {i j : Nat} (hij : i < j) (hj : j < ts.length) : ts[i] < ts[j] := List.pairwise_iff_getElem.1 h i j (by omega) hj hij
/-- The least one behind the last one. -/
theorem bestOf_txns {l : List RecT} (hp : ∀ r ∈ l, 0 < r.txn) {i : Nat} (hi : i ≤ (txnsL l).length) : bestOf l (lastN ((txnsL l).take i)) = ((txnsL l)[i]?).getD 0 := by
  have hs := bestOf_spec (l := l) (m := lastN ((txnsL l).take i)) (i := l.length) (Nat.le_refl _)
  rw [List.take_length] at hs
  have hr := txnsL_rise l
  have hlast : ∀ k (hk : k < (txnsL l).length), lastN ((txnsL l).take i) < (txnsL l)[k] ↔ i ≤ k := by
    intro k hk
    by_cases h0 : i = 0
    · subst h0
      have : 0 < (txnsL l)[k] := by
        obtain ⟨r, h1, h2⟩ := mem_txnsL.1 (List.getElem_mem hk)
        have := hp r h1; omega
      simp [lastN]; exact this
    · obtain ⟨j, rfl⟩ : ∃ j, i = j + 1 := ⟨i - 1, by omega⟩
      rw [lastN_take (by omega)]
      constructor
      · intro h
        refine Classical.byContradiction fun q => ?_
        by_cases e : k = j
        · subst e; omega
        · have := rise_get hr (i := k) (j := j) (by omega) (by omega); omega
      · intro h
        exact rise_get hr (by omega) hk
  by_cases hlt : i < (txnsL l).length
  · rw [List.getElem?_eq_getElem hlt]
    simp only [Option.getD_some]
    obtain ⟨r, h1, h2⟩ := mem_txnsL.1 (List.getElem_mem hlt)
    have hm := (hlast i hlt).2 (Nat.le_refl _)
    have hb : bestOf l (lastN ((txnsL l).take i)) ≠ 0 := by
      intro q
      have := hs.1 q r h1; omega
    obtain ⟨⟨r0, hr0, he⟩, hmb, hle⟩ := hs.2 hb
    have hin : bestOf l (lastN ((txnsL l).take i)) ∈ txnsL l := mem_txnsL.2 ⟨r0, hr0, he⟩
    obtain ⟨k, hk, hke⟩ := List.getElem_of_mem hin
    have hik : i ≤ k := (hlast k hk).1 (by rw [hke]; exact hmb)
    have h3 := hle r h1 (by omega)
    by_cases e : i = k
    · subst e; exact hke.symm
    · have := rise_get hr (i := i) (j := k) (by omega) hk; omega
  · rw [List.getElem?_eq_none (by omega)]
    simp only [Option.getD_none]
    refine Classical.byContradiction fun hb => ?_
    obtain ⟨⟨r0, hr0, he⟩, hmb, hle⟩ := hs.2 hb
    have hin : bestOf l (lastN ((txnsL l).take i)) ∈ txnsL l := mem_txnsL.2 ⟨r0, hr0, he⟩
    obtain ⟨k, hk, hke⟩ := List.getElem_of_mem hin
    have := (hlast k hk).1 (by rw [hke]; exact hmb)
    omega
theorem addG_foldl_len (xs : List Nat) : ∀ (ks : List Nat), (xs.foldl addG ks).length ≤ ks.length + xs.length := by
  induction xs with
  | nil => intro ks; simp
  | cons a xs ih =>
    intro ks
    have := ih (addG ks a)
    have := addG_len (ks := ks) (x := a)
    simp only [List.foldl_cons, List.length_cons]; omega
theorem txnsL_len (l : List RecT) : (txnsL l).length ≤ l.length := by
  have := addG_foldl_len (l.map (·.txn)) []
  unfold txnsL
  rw [sortL_len]
  simpa using this
abbrev outN (va : Nat) (out : List Nat) : Option (Nat × Obj) := some (va, .mem 1 (out.map cN))
def TxI (l : List RecT) (k : Nat) (v3 v9 : V) (st : St) : Prop :=
  ∃ (i va nv : Nat), k = l.length - i ∧ i ≤ l.length ∧ i ≤ (txnsL l).length ∧ v3 = .msl 0 va 0 i ∧ v9 = .int .i64 ((i : Nat) : Int) ∧ st = ⟨[outN va ((txnsL l).take i)], nv⟩
def TxJ (l : List RecT) (m : Nat) (L : List (Option (Nat × Obj))) (k : Nat) (v4 v13 : V) (st : St) : Prop :=
  ∃ (j nv : Nat), k = l.length - j ∧ j ≤ l.length ∧ v4 = .int .u64 (bestOf (l.take j) m) ∧ v13 = .int .i64 ((j : Nat) : Int) ∧ st = ⟨L, nv⟩
set_option maxHeartbeats 4000000 in
theorem rTxns (h : OpnR P) (l : List RecT) (hl : l.length < 2 ^ 40) (hp : ∀ r ∈ l, 0 < r.txn) : PCalls P n_gazetteerref12_Txns [.sl .unk 9 (l.map cRec) []] (fun v => v = .sl .unk 1 ((txnsL l).map cN) []) := by
  refine A_gazetteerref12_Txns h.rtxns ?_
  unfold F_gazetteerref12_Txns
  simp [st0]
  have htl := txnsL_len l
  have fin : ∀ {va nv : Nat}, GhostV [.msl 0 va 0 (txnsL l).length] ⟨[outN va (txnsL l)], nv⟩ fun vs st => (mkres vs).pure = true ∧ mkres vs = .sl .unk 1 ((txnsL l).map cN) [] := by
    intro va nv
    refine GhostV.rowk (L := []) (sz := 1) (es := (txnsL l).map cN) (by simp) (by simp) (by simp) ?_
    rw [List.drop_zero, take_map_len]
    exact ⟨by simp [V.pure, pureL, pureLL], by simp⟩
  refine ⟨TxI l, ⟨l.length, GhostV.nilr 1 (by decide) ⟨0, 0, 1, by simp, by simp, by simp, by simp, by simp, by simp⟩⟩, ?_⟩
  rintro k1 v3 v9 st ⟨i, va, nv, rfl, hi, hit, rfl, rfl, rfl⟩
  by_cases hlt : i < l.length
  · simp [hlt]
    obtain ⟨L, hL⟩ : ∃ L, L = [outN va ((txnsL l).take i)] := ⟨_, rfl⟩
    obtain ⟨m, hm⟩ : ∃ m, m = lastN ((txnsL l).take i) := ⟨_, rfl⟩
    refine ⟨TxJ l m L, ⟨l.length, GhostV.refl ⟨0, _, by simp, by simp, by simp [bestOf], by simp, by rw [hL]⟩⟩, ?_⟩
    rintro k2 v4 v13 st ⟨j, nv2, rfl, hj, rfl, rfl, rfl⟩
    by_cases hjl : j < l.length
    · have hsn := bestOf_snoc (m := m) hjl
      have hpj := hp l[j] (List.getElem_mem hjl)
      obtain ⟨b, hb⟩ : ∃ b, b = bestOf (l.take j) m := ⟨_, rfl⟩
      rw [← hb] at hsn ⊢
      have go : ∀ {b' nv' : Nat} {M : List (Option (Nat × Obj))}, bestOf (l.take (j + 1)) m = b' → ∃ k, k < l.length - j ∧ GhostV [.int .u64 ((b' : Nat) : Int), .int .i64 (IntKind.i64.wrap ((j : Int) + 1))] ⟨L ++ M, nv'⟩ (app (n := 2) (TxJ l m L k)) := fun hbb =>
        ⟨l.length - (j + 1), by omega, GhostV.keep ⟨j + 1, _, rfl, by omega, by rw [hbb], by rw [wadd1 (by omega)], rfl⟩⟩
      have hmv : i = 0 ∧ m < l[j].txn ∨ ∃ (h0 : 0 < i) (hq : i - 1 < (txnsL l).length), m = (txnsL l)[i - 1] := by
        by_cases h0 : i = 0
        · refine .inl ⟨h0, ?_⟩
          rw [hm, h0]; simp [lastN]; exact hpj
        · obtain ⟨q, rfl⟩ : ∃ q, i = q + 1 := ⟨i - 1, by omega⟩
          exact .inr ⟨by omega, by simp; omega, by rw [hm, lastN_take (by omega)]; simp⟩
      rw [hL] at go ⊢
      rcases hmv with ⟨h0, c1⟩ | ⟨h0, hq, hme⟩
      · subst h0
        by_cases b0 : b = 0
        · simp [hjl, b0]
          exact go (b' := l[j].txn) (by rw [hsn, if_pos ⟨c1, .inl b0⟩])
        · by_cases b1 : l[j].txn < b
          · simp [hjl, b0, b1]
            exact go (b' := l[j].txn) (by rw [hsn, if_pos ⟨c1, .inr b1⟩])
          · simp [hjl, b0, b1]
            exact go (b' := b) (by rw [hsn, if_neg (fun q => b1 (q.2.resolve_left b0))])
      · have hws := wsub1 (x := i) (by omega) h0
        have hti : ((txnsL l).take i)[i - 1]? = some ((txnsL l)[i - 1]) := by rw [List.getElem?_take, if_pos (by omega), List.getElem?_eq_getElem hq]
        by_cases c1 : (txnsL l)[i - 1] < l[j].txn
        · by_cases b0 : b = 0
          · simp [hjl, show ¬ i = 0 by omega, hws, show i - 1 < i by omega, show i ≤ (txnsL l).length from hit, hq, c1, b0]
            exact go (b' := l[j].txn) (by rw [hsn, if_pos ⟨by rw [hme]; exact c1, .inl b0⟩])
          · by_cases b1 : l[j].txn < b
            · simp [hjl, show ¬ i = 0 by omega, hws, show i - 1 < i by omega, show i ≤ (txnsL l).length from hit, hq, c1, b0, b1]
              exact go (b' := l[j].txn) (by rw [hsn, if_pos ⟨by rw [hme]; exact c1, .inr b1⟩])
            · simp [hjl, show ¬ i = 0 by omega, hws, show i - 1 < i by omega, show i ≤ (txnsL l).length from hit, hq, c1, b0, b1]
              exact go (b' := b) (by rw [hsn, if_neg (fun q => b1 (q.2.resolve_left b0))])
        · simp [hjl, show ¬ i = 0 by omega, hws, show i - 1 < i by omega, show i ≤ (txnsL l).length from hit, hq, c1]
          exact go (b' := b) (by rw [hsn, if_neg (fun q => c1 (by rw [← hme]; exact q.1))])
    · rw [List.take_of_length_le (by omega)]
      have hbt := bestOf_txns hp hit
      rw [← hm] at hbt
      rw [hL]
      by_cases hti : i < (txnsL l).length
      · rw [List.getElem?_eq_getElem hti] at hbt
        simp only [Option.getD_some] at hbt
        have h0 : ¬ (txnsL l)[i] = 0 := by
          obtain ⟨r, h1, h2⟩ := mem_txnsL.1 (List.getElem_mem hti)
          have := hp r h1; omega
        rw [hbt]
        simp [hjl, h0, show i ≤ (txnsL l).length from hit]
        refine ⟨by omega, l.length - (i + 1), by omega, GhostV.keep (L := [_]) ⟨i + 1, _, _, rfl, by omega, by omega, rfl, by rw [wadd1 (by omega)], by rw [take_snoc hti, outN, List.map_append, List.map_take]; rfl⟩⟩
      · rw [List.getElem?_eq_none (by omega)] at hbt
        simp only [Option.getD_none] at hbt
        rw [hbt]
        simp [hjl]
        obtain rfl : i = (txnsL l).length := by omega
        rw [List.take_length]
        exact fin
  · simp [hlt]
    obtain rfl : i = (txnsL l).length := by omega
    rw [List.take_length]
    exact fin
end Go.Proofs.Ytmbhgjekjpkigaa.AM

namespace Go.Proofs.Ytmbhgjekjpkigaa.AM
open Go
set_option linter.unusedVariables false
set_option linter.unusedSimpArgs false
variable {P : Program}

theorem eq_open (x y : OpenT) : (decide (x.txn = y.txn) && (decide (x.last = y.last) && decide (x.next = y.next))) = decide (x = y) := by
  obtain ⟨a, b, c⟩ := x
  obtain ⟨d, e, f⟩ := y
  rw [Bool.eq_iff_iff]; simp
def RoI (l : List RecT) (ts : List Nat) (k : Nat) (v3 v13 : V) (st : St) : Prop :=
  ∃ (i va nv : Nat) (out : List OpenT), k = ts.length - i ∧ i ≤ ts.length ∧ out = ((ts.take i).filter fun t => !overT l t).map (openOf l) ∧ v3 = .msl 0 va 0 out.length ∧ v13 = .int .i64 ((i : Nat) : Int) ∧ st = ⟨[some (va, .mem 3 (out.map cOpen))], nv⟩
def RoJ (l : List RecT) (t nx va : Nat) (out : List OpenT) (k : Nat) (v7 v21 : V) (st : St) : Prop :=
  ∃ (j nv : Nat), k = l.length - j ∧ j ≤ l.length ∧ v7 = .bool (overT (l.take j) t) ∧ v21 = .int .i64 ((j : Nat) : Int) ∧ st = ⟨[some (va, .mem 3 (out.map cOpen)), some (nx, .mem 3 [cOpen (openOf (l.take j) t)])], nv⟩
theorem openOf_txn (l : List RecT) (t : Nat) : (openOf l t).txn = t := by
  have : ∀ (l : List RecT) (a : OpenT), a.txn = t → (l.foldl (fun a r => if r.txn = t then ⟨t, r.lsn, nextOf r⟩ else a) a).txn = t := by
    intro l
    induction l with
    | nil => intro a h; exact h
    | cons r l ih =>
      intro a h
      rw [List.foldl_cons]
      apply ih
      split
      · rfl
      · exact h
  exact this l _ rfl
set_option maxHeartbeats 4000000 in
theorem rOpen12 (h : OpnR P) (l : List RecT) (hl : l.length < 2 ^ 40) (hp : ∀ r ∈ l, 0 < r.txn) : PCalls P n_gazetteerref12_Open [.sl .unk 9 (l.map cRec) []] (fun v => v = .sl .unk 3 ((openL l).map cOpen) []) := by
  refine A_gazetteerref12_Open h.ropen ?_
  unfold F_gazetteerref12_Open
  simp [st0]
  refine inv_p (rTxns h l hl hp) rfl (by simp [pureL, V.pure, pureLL]) ?_
  rintro _ rfl
  have htl := txnsL_len l
  obtain ⟨ts, hts⟩ : ∃ ts, ts = txnsL l := ⟨_, rfl⟩
  rw [← hts] at htl ⊢
  simp
  refine ⟨RoI l ts, ⟨ts.length, GhostV.nilr 3 (by decide) ⟨0, 0, 1, [], by simp, by simp, by simp, by simp, by simp, by simp⟩⟩, ?_⟩
  rintro k1 v3 v13 st ⟨i, va, nv, out, rfl, hi, hout, rfl, rfl, rfl⟩
  have hol : out.length ≤ i := by
    rw [hout, List.length_map]; exact Nat.le_trans (List.length_filter_le _ _) (by simp; omega)
  by_cases hlt : i < ts.length
  · have hsn : ((ts.take (i + 1)).filter fun t => !overT l t).map (openOf l) = out ++ (if overT l ts[i] then [] else [openOf l ts[i]]) := by
      rw [take_snoc hlt, List.filter_append, List.map_append, ← hout]
      congr 1
      cases ho : overT l ts[i] <;> simp [ho]
    simp [hlt]
    refine ⟨RoJ l ts[i] nv va out, ⟨l.length, GhostV.refl ⟨0, _, by simp, by simp, by simp [overT], by simp, by simp [openOf]; rfl⟩⟩, ?_⟩
    rintro k2 v7 v21 st ⟨j, nv2, rfl, hj, rfl, rfl, rfl⟩
    by_cases hjl : j < l.length
    · have hos := overT_snoc (t := ts[i]) hjl
      have hpn := openOf_snoc (t := ts[i]) hjl
      have htx := openOf_txn (l.take j) ts[i]
      obtain ⟨b, hb⟩ : ∃ b, b = overT (l.take j) ts[i] := ⟨_, rfl⟩
      rw [← hb] at hos ⊢
      by_cases ht : l[j].txn = ts[i]
      · have hpe : openOf (l.take (j + 1)) ts[i] = ⟨ts[i], l[j].lsn, nextOf l[j]⟩ := by rw [hpn, if_pos ht]
        have go : ∀ {b' : Bool} {nv' : Nat} {M : List (Option (Nat × Obj))}, overT (l.take (j + 1)) ts[i] = b' → ∃ k, k < l.length - j ∧ GhostV [.bool b', .int .i64 (IntKind.i64.wrap ((j : Int) + 1))] ⟨[some (va, Obj.mem 3 (out.map cOpen)), some (nv, Obj.mem 3 [[.int .u64 ((ts[i] : Nat) : Int), .int .u64 ((l[j].lsn : Nat) : Int), .int .u64 ((nextOf l[j] : Nat) : Int)]])] ++ M, nv'⟩ (app (n := 2) (RoJ l ts[i] nv va out k)) := fun hbb =>
          ⟨l.length - (j + 1), by omega, GhostV.keep ⟨j + 1, _, rfl, by omega, by rw [hbb], by rw [wadd1 (by omega)], by rw [hpe]; rfl⟩⟩
        have hte : (l[j].txn = ts[i]) = True := eq_true ht
        cases b
        · simp [hjl, hte]
          refine inv_p (rChg_R h.toTogR l[j]) rfl (by simp [pureL, V.pure, pureLL]) ?_
          rintro _ rfl
          by_cases hk : l[j].kind = 2
          · simp [htx, hk]
            have := @go (!chgR l[j]) nv2 [] (by rw [hos]; simp [ht])
            simp only [nextOf, hk, if_true] at go
            exact go (b' := !chgR l[j]) (by rw [hos]; simp [ht])
          · simp [htx, hk]
            simp only [nextOf, hk, if_false] at go
            exact go (b' := !chgR l[j]) (by rw [hos]; simp [ht])
        · by_cases hk : l[j].kind = 2
          · simp [hjl, hte, htx, hk]
            simp only [nextOf, hk, if_true] at go
            exact go (b' := true) (by rw [hos]; simp)
          · simp [hjl, hte, htx, hk]
            simp only [nextOf, hk, if_false] at go
            exact go (b' := true) (by rw [hos]; simp)
      · simp [hjl, ht]
        exact ⟨l.length - (j + 1), by omega, GhostV.keep (L := [_, _]) ⟨j + 1, _, rfl, by omega, by rw [hos]; simp [ht], by rw [wadd1 (by omega)], by rw [hpn, if_neg ht]; rfl⟩⟩
    · rw [List.take_of_length_le (by omega)]
      obtain ⟨b, hb⟩ : ∃ b, b = overT l ts[i] := ⟨_, rfl⟩
      rw [← hb] at hsn ⊢
      cases b
      · simp [hjl]
        exact ⟨by omega, ts.length - (i + 1), by omega, GhostV.keep (L := [_]) ⟨i + 1, _, _, out ++ [openOf l ts[i]], rfl, by omega, by rw [hsn]; rfl, by simp; rfl, by rw [wadd1 (by omega)], by simp; rfl⟩⟩
      · simp [hjl]
        exact ⟨ts.length - (i + 1), by omega, GhostV.keep (L := [_]) ⟨i + 1, _, _, out, rfl, by omega, by rw [hsn]; simp, rfl, by rw [wadd1 (by omega)], rfl⟩⟩
  · rw [List.take_of_length_le (by omega)] at hout
    simp [hlt]
    refine GhostV.rowk (L := []) (sz := 3) (es := out.map cOpen) (by simp) (by simp) (by simp) ?_
    rw [List.drop_zero, take_map_len]
    exact ⟨by simp [V.pure, pureL, pureLL], by simp [openL, hout, hts]⟩
end Go.Proofs.Ytmbhgjekjpkigaa.AM

namespace Go.Proofs.Ytmbhgjekjpkigaa.AM
open Go
set_option linter.unusedVariables false
set_option linter.unusedSimpArgs false
variable {P : Program}

def cmpN (a b : Nat) : Int := if a < b then -1 else if b < a then 1 else 0
def cmpI (a b : Int) : Int := if a < b then -1 else if b < a then 1 else 0
def orI : List Int → Int
  | [] => 0
  | x :: r => if x ≠ 0 then x else orI r
structure CmpR (P : Program) : Prop where
  n64 : R_cmp_isNaN_uint64 P
  ni : R_cmp_isNaN_int P
  c64 : R_cmp_Compare_uint64 P
  ci : R_cmp_Compare_int P
  or : R_cmp_Or_int P
theorem isNaN_u64 (hR : R_cmp_isNaN_uint64 P) (a : Nat) : PCalls P n_cmp_isNaN_uint64 [.int .u64 a] (fun r => r = .bool false) := by
  refine A_cmp_isNaN_uint64 hR ?_
  unfold F_cmp_isNaN_uint64
  simp
  exact GhostV.refl (by simp)
theorem isNaN_i (hR : R_cmp_isNaN_int P) (a : Int) : PCalls P n_cmp_isNaN_int [.int .i64 a] (fun r => r = .bool false) := by
  refine A_cmp_isNaN_int hR ?_
  unfold F_cmp_isNaN_int
  simp
  exact GhostV.refl (by simp)
theorem Compare_u64 (h : CmpR P) (a b : Nat) : PCalls P n_cmp_Compare_uint64 [.int .u64 a, .int .u64 b] (fun r => r = .int .i64 (cmpN a b)) := by
  refine A_cmp_Compare_uint64 h.c64 ?_
  unfold F_cmp_Compare_uint64
  simp
  refine inv_p (isNaN_u64 h.n64 a) rfl rfl ?_
  rintro _ rfl
  simp
  refine inv_p (isNaN_u64 h.n64 b) rfl rfl ?_
  rintro _ rfl
  simp
  repeat' ((first | refine cd (fun h => ?_) (fun h => ?_)); all_goals simp [h])
  all_goals (refine GhostV.refl ?_; simp_all [cmpN])
  all_goals omega
theorem Compare_i (h : CmpR P) (a b : Int) : PCalls P n_cmp_Compare_int [.int .i64 a, .int .i64 b] (fun r => r = .int .i64 (cmpI a b)) := by
  refine A_cmp_Compare_int h.ci ?_
  unfold F_cmp_Compare_int
  simp
  refine inv_p (isNaN_i h.ni a) rfl rfl ?_
  rintro _ rfl
  simp
  refine inv_p (isNaN_i h.ni b) rfl rfl ?_
  rintro _ rfl
  simp
  repeat' ((first | refine cd (fun h => ?_) (fun h => ?_)); all_goals simp [h])
  all_goals (refine GhostV.refl ?_; simp_all [cmpI])
  all_goals omega
@[simp] def cI (n : Int) : List V := [.int .i64 n]
def OrI (l : List Int) (k : Nat) (v : V) (st : St) : Prop := ∃ i nv, k = l.length - i ∧ i ≤ l.length ∧ v = .int .i64 i ∧ st = ⟨[], nv⟩ ∧ orI l = orI (l.drop i)
theorem Or_int (h : CmpR P) (l : List Int) (hl : l.length < 2 ^ 40) : PCalls P n_cmp_Or_int [.sl .unk 1 (l.map cI) []] (fun r => r = .int .i64 (orI l)) := by
  refine A_cmp_Or_int h.or ?_
  unfold F_cmp_Or_int
  simp [st0]
  refine ⟨OrI l, ⟨l.length, GhostV.refl ⟨0, 0, by simp, by simp, by simp, by simp, by simp⟩⟩, ?_⟩
  rintro k1 v8 st ⟨i, nv, rfl, hi, rfl, rfl, hn⟩
  by_cases hlt : i < l.length
  · have hd : l.drop i = l[i] :: l.drop (i + 1) := List.drop_eq_getElem_cons hlt
    simp [hlt]
    by_cases h0 : l[i] = 0
    · have e2 : IntKind.i64.wrap ((i : Int) + 1) = ((i + 1 : Nat) : Int) := by rw [wrap_i64 (by omega)]; omega
      simp [h0]
      exact ⟨l.length - (i + 1), by omega, GhostV.refl ⟨i + 1, nv, rfl, by omega, by rw [e2], rfl, by rw [hn, hd]; simp [orI, h0]⟩⟩
    · simp [h0]
      refine GhostV.refl ⟨rfl, ?_⟩
      rw [hn, hd]; simp [orI, h0]
  · simp [hlt]
    refine GhostV.refl ⟨rfl, ?_⟩
    rw [hn, List.drop_of_length_le (by omega)]; rfl
theorem Bor.rowG {α : Type} {st : St} {id ver sz : Nat} {l : List α} {c : α → List V} (hc : ∀ x, (c x).length = sz) {rows : List (List V)} (h : st.get id ver = some (.mem sz rows)) (ht : rows.take l.length = l.map c) (hl : l.length ≤ rows.length) : Bor st (.msl id ver 0 l.length) (.sl .unk sz (l.map c) []) :=
  .msl id ver 0 l.length sz rows (l.map c) h (by simpa using hl) (by simp) (fun i hi => by rw [getD_map _ _ _ hi]; exact hc _) (fun i j hi hj => by
    have : rows.getD i [] = (l.map c).getD i [] := by rw [← ht]; simp [List.getD, List.getElem?_take, hi]
    rw [Nat.zero_add, this]; exact .refl _)

structure UndR (P : Program) : Prop extends OpnR P, CmpR P where
  before : R_redo_before P
  minF : R_slices_MinFunc_Open_Open P
  idx : R_slices_Index_Open_Open P
  del : R_slices_Delete_Open_Open P
  cloneO : R_slices_Clone_Open_Open P
  undo : R_redo_Undo P

def befO (a b : OpenT) : Int := if a.next = 0 ∨ b.next = 0 then orI [cmpN (min a.next 1) (min b.next 1), cmpN a.txn b.txn] else cmpN b.next a.next
theorem min1 (x : Nat) : (if (1 : Int) < (x : Int) then (1 : Int) else (x : Int)) = ((min x 1 : Nat) : Int) := by
  split <;> omega
set_option maxHeartbeats 1000000 in
theorem Before_R (h : UndR P) (a b : OpenT) : PCalls P n_redo_before [.agg (cOpen a), .agg (cOpen b)] (fun r => r = .int .i64 (befO a b)) := by
  refine A_redo_before h.before ?_
  unfold F_redo_before
  simp [st0]
  by_cases h0 : a.next = 0 ∨ b.next = 0
  · have e : befO a b = orI [cmpN (min a.next 1) (min b.next 1), cmpN a.txn b.txn] := by simp [befO, h0]
    have orl : ∀ (x y : Int) {st : St} {id ver : Nat} {K : V → St → Prop}, st.get id ver = some (.mem 1 [[.int .i64 x], [.int .i64 y]]) → K (.int .i64 (orI [x, y])) st → @inv P (.fn (.func n_cmp_Or_int) [] []) [.msl id ver 0 2] st ⟨K⟩ := by
      intro x y st id ver K ho hk
      refine inv_look (Or_int h.toCmpR [x, y] (by simp)) (Bors.cons (a := .msl id ver 0 [x, y].length) (Bor.rowG (sz := 1) (l := [x, y]) (c := cI) (rows := [x, y].map cI) (fun _ => rfl) ho (List.take_of_length_le (by rw [List.length_map]; exact Nat.le_refl _)) (by rw [List.length_map]; exact Nat.le_refl _)) Bors.nil) (by simp [pureL, pureLL, V.pure]) ?_
      rintro _ rfl
      exact ⟨rfl, hk⟩
    by_cases ha : a.next = 0
    · simp [ha]
      rw [min1]
      refine inv_p (Compare_u64 h.toCmpR 0 (min b.next 1)) rfl rfl ?_
      rintro _ rfl
      simp
      refine inv_p (Compare_u64 h.toCmpR a.txn b.txn) rfl rfl ?_
      rintro _ rfl
      simp
      refine orl (cmpN 0 (min b.next 1)) (cmpN a.txn b.txn) (by simp [St.get]) ?_
      exact GhostV.refl ⟨rfl, by rw [e, ha]; rfl⟩
    · have hb := h0.resolve_left ha
      simp [ha, hb]
      rw [min1]
      refine inv_p (Compare_u64 h.toCmpR (min a.next 1) 0) rfl rfl ?_
      rintro _ rfl
      simp
      refine inv_p (Compare_u64 h.toCmpR a.txn b.txn) rfl rfl ?_
      rintro _ rfl
      simp
      refine orl (cmpN (min a.next 1) 0) (cmpN a.txn b.txn) (by simp [St.get]) ?_
      exact GhostV.refl ⟨rfl, by rw [e, hb]; rfl⟩
  · have h1 : ¬ a.next = 0 := fun q => h0 (.inl q)
    have h2 : ¬ b.next = 0 := fun q => h0 (.inr q)
    simp [h1, h2]
    refine inv_p (Compare_u64 h.toCmpR b.next a.next) rfl rfl ?_
    rintro _ rfl
    exact GhostV.refl ⟨rfl, by simp [befO, h1, h2]⟩

/-- The one that comes first. -/
def minO : List OpenT → OpenT
  | [] => ⟨0, 0, 0⟩
  | x :: l => l.foldl (fun m y => if befO y m < 0 then y else m) x
def minT (l : List OpenT) (i : Nat) : OpenT := minO (l.take i)
theorem minT_snoc {l : List OpenT} {i : Nat} (h0 : 0 < i) (h : i < l.length) : minT l (i + 1) = if befO l[i] (minT l i) < 0 then l[i] else minT l i := by
  unfold minT
  rw [take_snoc h]
  cases l with
  | nil => simp at h
  | cons x l =>
    obtain ⟨j, rfl⟩ : ∃ j, i = j + 1 := ⟨i - 1, by omega⟩
    simp only [List.take_succ_cons, List.cons_append, minO, List.foldl_append, List.foldl_cons, List.foldl_nil]
    rfl
def MnI (l : List OpenT) (k : Nat) (v : V) (st : St) : Prop :=
  ∃ (i nv : Nat), k = l.length - i ∧ 0 < i ∧ i ≤ l.length ∧ v = .int .i64 ((i : Nat) : Int) ∧ st = ⟨[some (0, .mem 3 [[.int .u64 0, .int .u64 0, .int .u64 0]]), some (1, .mem 3 [cOpen (minT l i)])], nv⟩
theorem MinFunc_R (h : UndR P) (l : List OpenT) (hl : l.length < 2 ^ 40) (h0 : l ≠ []) : PCalls P n_slices_MinFunc_Open_Open [.sl .unk 3 (l.map cOpen) [], .fn (.func n_redo_before) [] []] (fun r => r = .agg (cOpen (minO l))) := by
  refine A_slices_MinFunc_Open_Open h.minF ?_
  unfold F_slices_MinFunc_Open_Open
  have hp : 0 < l.length := List.length_pos_iff.2 h0
  simp [st0]
  refine ⟨fun st => st = ⟨[some (0, .mem 3 [[.int .u64 0, .int .u64 0, .int .u64 0]])], 1⟩, ?_, ?_⟩
  · have h1 : ¬ (l.length : Int) < 1 := by omega
    simp [h1, h0]
    exact GhostV.refl rfl
  rintro st rfl
  simp [hp]
  refine ⟨MnI l, ⟨l.length - 1, GhostV.refl ⟨1, 2, by simp, by simp, by omega, by simp, ?_⟩⟩, ?_⟩
  · have : minT l 1 = l[0] := by
      cases l with
      | nil => simp at hp
      | cons x l => rfl
    rw [this]; rfl
  rintro k v st ⟨i, nv, rfl, hi0, hi, rfl, rfl⟩
  by_cases hlt : i < l.length
  · have hsn := minT_snoc hi0 hlt
    simp [hlt]
    refine inv_p (Before_R h l[i] (minT l i)) rfl (by simp [pureL, V.pure]) ?_
    rintro _ rfl
    by_cases hb : befO l[i] (minT l i) < 0
    · rw [if_pos hb] at hsn
      simp [hb, hlt]
      exact ⟨l.length - (i + 1), by omega, GhostV.refl ⟨i + 1, _, rfl, by omega, by omega, by rw [wadd1 (by omega)], by rw [hsn]; rfl⟩⟩
    · rw [if_neg hb] at hsn
      simp [hb]
      exact ⟨l.length - (i + 1), by omega, GhostV.refl ⟨i + 1, _, rfl, by omega, by omega, by rw [wadd1 (by omega)], by rw [hsn]; rfl⟩⟩
  · simp [hlt]
    have : minT l i = minO l := by unfold minT; rw [List.take_of_length_le (by omega)]
    rw [this]
    exact GhostV.refl ⟨by simp [V.pure, pureL], by simp⟩
theorem minO_mem {l : List OpenT} (h : l ≠ []) : minO l ∈ l := by
  cases l with
  | nil => exact absurd rfl h
  | cons x l =>
    have : ∀ (l : List OpenT) (m : OpenT), l.foldl (fun m y => if befO y m < 0 then y else m) m ∈ m :: l := by
      intro l
      induction l with
      | nil => intro m; simp
      | cons y l ih =>
        intro m
        rw [List.foldl_cons]
        have := ih (if befO y m < 0 then y else m)
        rcases List.mem_cons.1 this with q | q
        · rw [q]; split <;> simp
        · exact List.mem_cons_of_mem _ (List.mem_cons_of_mem _ q)
    exact this l x
def IdI (l : List OpenT) (x : OpenT) (k : Nat) (v : V) (st : St) : Prop :=
  ∃ (i nv : Nat), k = l.length - i ∧ i ≤ l.length ∧ v = .int .i64 ((i : Nat) : Int) ∧ x ∉ l.take i ∧ st = ⟨[some (0, .mem 3 [cOpen x])], nv⟩
theorem Index_R (h : UndR P) (l : List OpenT) (x : OpenT) (hl : l.length < 2 ^ 40) (hx : x ∈ l) : PCalls P n_slices_Index_Open_Open [.sl .unk 3 (l.map cOpen) [], .agg (cOpen x)] (fun r => r = .int .i64 ((l.idxOf x : Nat) : Int)) := by
  refine A_slices_Index_Open_Open h.idx ?_
  unfold F_slices_Index_Open_Open
  simp [st0]
  refine ⟨IdI l x, ⟨l.length, GhostV.refl ⟨0, _, by simp, by simp, by simp, by simp, rfl⟩⟩, ?_⟩
  rintro k v st ⟨i, nv, rfl, hi, rfl, hn, rfl⟩
  by_cases hlt : i < l.length
  · have he2 := eq_open x l[i]
    by_cases he : x = l[i]
    · have : l.idxOf x = i := by
        have h1 : l.idxOf x ≤ i := by
          refine Classical.byContradiction fun q => ?_
          have hq : i < l.idxOf x := by omega
          have := List.not_of_lt_findIdx (p := (· == x)) hq
          simp [he] at this
        refine Nat.le_antisymm h1 (Nat.le_of_not_lt fun q => ?_)
        have hxl : l.idxOf x < l.length := List.idxOf_lt_length_iff.2 hx
        apply hn
        have : (l.take i)[l.idxOf x]'(by simp; omega) = x := by simp
        rw [← this]; exact List.getElem_mem _
      simp [hlt, ← he]
      exact GhostV.refl ⟨rfl, by rw [this]; rfl⟩
    · have hnx : x ∉ l.take (i + 1) := by
        rw [take_snoc hlt]; simp only [List.mem_append, List.mem_singleton, not_or]; exact ⟨hn, he⟩
      have go : ∀ {nv : Nat}, ∃ j, j < l.length - i ∧ GhostV [.int .i64 (IntKind.i64.wrap ((i : Int) + 1))] ⟨[some (0, .mem 3 [cOpen x])], nv⟩ (app (n := 1) (IdI l x j)) := fun {nv} =>
        ⟨l.length - (i + 1), by omega, GhostV.refl ⟨i + 1, _, rfl, by omega, by rw [wadd1 (by omega)], hnx, rfl⟩⟩
      simp only [he, decide_false] at he2
      by_cases e1 : x.txn = l[i].txn
      · by_cases e2 : x.last = l[i].last
        · by_cases e3 : x.next = l[i].next
          · simp [e1, e2, e3] at he2
          · simp [hlt, eq_true e1, eq_true e2, e3]
            exact go
        · simp [hlt, eq_true e1, e2]
          exact go
      · simp [hlt, e1]
        exact go
  · exfalso
    rw [List.take_of_length_le (by omega)] at hn
    exact hn hx
end Go.Proofs.Ytmbhgjekjpkigaa.AM

namespace Go.Proofs.Ytmbhgjekjpkigaa.AM
open Go
set_option linter.unusedVariables false
set_option linter.unusedSimpArgs false
variable {P : Program}

theorem CloneO_R (h : UndR P) (l : List OpenT) (hl : l.length < 2 ^ 40) {L : List (Option (Nat × Obj))} {nv : Nat} {K : V → St → Prop}
    (hk : ∀ ver nv', K (.msl L.length ver 0 l.length) ⟨L ++ [some (ver, .mem 3 (l.map cOpen))], nv'⟩) :
    ACalls P n_slices_Clone_Open_Open [.sl .unk 3 (l.map cOpen) []] ⟨L, nv⟩ K := by
  refine A_slices_Clone_Open_Open h.cloneO ?_
  unfold F_slices_Clone_Open_Open
  cases l with
  | nil =>
    simp
    exact ⟨GhostV.refl (by simpa using hk (nv + 1) (nv + 2)), GhostV.nilr 3 (by decide) (by simpa using hk nv (nv + 1))⟩
  | cons x l =>
    simp
    refine ⟨by simp at hl; omega, ?_⟩
    exact GhostV.refl (by simpa using hk (nv + 1) (nv + 2))
theorem Delete_R (h : UndR P) (l : List OpenT) (i : Nat) (hi : i < l.length) (hl : l.length < 2 ^ 40) {L : List (Option (Nat × Obj))} {id ver nv : Nat} {T : List (List V)} (ho : L[id]? = some (some (ver, .mem 3 (l.map cOpen ++ T)))) {K : V → St → Prop}
    (hk : ∀ T', K (.msl id ver 0 (l.eraseIdx i).length) ⟨L.set id (some (ver, .mem 3 ((l.eraseIdx i).map cOpen ++ T'))), nv⟩) :
    ACalls P n_slices_Delete_Open_Open [.msl id ver 0 l.length, .int .i64 ((i : Nat) : Int), .int .i64 ((i + 1 : Nat) : Int)] ⟨L, nv⟩ K := by
  refine A_slices_Delete_Open_Open h.del ?_
  unfold F_slices_Delete_Open_Open
  have hid : id < L.length := (List.getElem?_eq_some_iff.1 ho).1
  have hs : sliceV ⟨L, nv⟩ 3 (.msl id ver 0 l.length) (some (.int .i64 (i : Int))) (some (.int .i64 ((i : Int) + 1))) (some (.int .i64 (l.length : Int))) = some .junk := by
    have e1 : (0 : Int) ≤ (i : Int) + 1 := by omega
    have e2 : (i : Int) + 1 ≤ ((l.length : Nat) : Int) := by omega
    have e3 : (i : Int) + 1 ≤ (max (l.length : Int) 0) := by omega
    simp [sliceV, St.get, ho, bounds, V.asInt]
    omega
  have hne : ¬ ((i : Int) = (i : Int) + 1) := by omega
  have hy : List.take (l.length - (i + 1)) (List.drop (i + 1) (l.map cOpen ++ T)) = (l.drop (i + 1)).map cOpen := by
    rw [List.drop_append_of_le_length (by simp; omega), List.take_append_of_le_length (by simp), List.take_of_length_le (by simp), List.map_drop]
  have hyl : ((l.drop (i + 1)).map cOpen).length = l.length - (i + 1) := by simp
  have htk : List.take i (l.map cOpen ++ T) = (l.take i).map cOpen := by
    rw [List.take_append_of_le_length (by simp; omega), List.map_take]
  have her : (l.take i).map cOpen ++ (l.drop (i + 1)).map cOpen = (l.eraseIdx i).map cOpen := by
    rw [List.eraseIdx_eq_take_drop_succ, List.map_append]
  have hel : (l.eraseIdx i).length = l.length - 1 := by rw [List.length_eraseIdx, if_pos hi]
  simp [ho, hs, hne]
  refine ⟨by omega, ⟨by omega, by omega, by omega⟩, ?_⟩
  rw [if_pos (by omega)]
  simp only [hy, hyl, htk]
  rw [if_pos ⟨by omega, by omega⟩, if_neg (by omega), if_pos (by omega)]
  have hcnt : i + (l.length - (i + 1)) = l.length - 1 := by omega
  rw [hcnt, ← List.append_assoc, her]
  obtain ⟨T', hT'⟩ : ∃ T', T' = List.drop (l.length - 1) (l.map cOpen ++ T) := ⟨_, rfl⟩
  have hTl : T'.length = T.length + 1 := by rw [hT']; simp; omega
  rw [← hT']
  simp [hid]
  rw [if_pos (by omega), if_pos (by omega), show l.length - (l.length - 1) = 1 by omega]
  simp [hid]
  refine ⟨by omega, GhostV.refl ?_⟩
  have e : List.take (l.length - 1) ((l.eraseIdx i).map cOpen ++ T') = (l.eraseIdx i).map cOpen := by
    rw [List.take_append_of_le_length (by simp [hel]), List.take_of_length_le (by simp [hel])]
  rw [e]
  have := hk ([V.int IntKind.u64 0, V.int IntKind.u64 0, V.int IntKind.u64 0] :: List.drop (l.length - 1 + 1) ((l.eraseIdx i).map cOpen ++ T'))
  rw [hel] at this
  simpa using this
end Go.Proofs.Ytmbhgjekjpkigaa.AM
