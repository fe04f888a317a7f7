/- Redo: undoing, doing again, all of it, walked. -/
import Derived.Test.YtmbhgjekjpkigaaRB
namespace Go.Proofs.Ytmbhgjekjpkigaa.AM
open Go
set_option linter.unusedVariables false
set_option linter.unusedSimpArgs false
variable {P : Program}

def recAt (l : List RecT) (n : Nat) : Option RecT := l.foldl (fun a r => if r.lsn = n then some r else a) none
theorem recAt_snoc {l : List RecT} {i n : Nat} (h : i < l.length) : recAt (l.take (i + 1)) n = if l[i].lsn = n then some l[i] else recAt (l.take i) n := by
  unfold recAt
  rw [take_snoc h, List.foldl_append]; rfl
theorem recAt_some {l : List RecT} {n : Nat} {r : RecT} : ∀ {i : Nat}, i ≤ l.length → recAt (l.take i) n = some r → r ∈ l ∧ r.lsn = n
  | 0, _, h => by simp [recAt] at h
  | i + 1, hi, h => by
    rw [recAt_snoc (by omega)] at h
    split at h
    · rename_i e
      obtain rfl := Option.some.inj h
      exact ⟨List.getElem_mem _, e⟩
    · exact recAt_some (by omega) h
theorem recAt_mem {l : List RecT} {n : Nat} {r : RecT} (h : recAt l n = some r) : r ∈ l ∧ r.lsn = n := recAt_some (i := l.length) (Nat.le_refl _) (by rw [List.take_length]; exact h)

structure US where
  next : Nat
  left : List OpenT
  out : List RecT
def emitU (s : US) (left' : List OpenT) (m : RecT) : US ⊕ Int := if s.out.length = 64 ∨ s.next = 0 then .inr 3 else .inl ⟨if s.next + 1 = 2 ^ 64 then 0 else s.next + 1, left', s.out ++ [m]⟩
def endRec (s : US) (x : OpenT) : RecT := ⟨s.next, 4, x.txn, x.last, 0, 0, [], [], 0⟩
def undRec (s : US) (x : OpenT) (r : RecT) : RecT := ⟨s.next, 2, x.txn, x.last, r.page, r.slot, [], r.old, r.back⟩
def undoS (l : List RecT) (s : US) : US ⊕ Int :=
  let x := minO s.left
  let i := s.left.idxOf x
  if x.next = 0 then emitU s (s.left.eraseIdx i) (endRec s x)
  else match recAt l x.next with
    | none => .inr 220
    | some r =>
      if r.txn ≠ x.txn ∨ chgR r = false then .inr 220
      else if r.kind = 2 then .inl ⟨s.next, s.left.set i ⟨x.txn, x.last, r.next⟩, s.out⟩
      else emitU s (s.left.set i ⟨x.txn, s.next, r.back⟩) (undRec s x r)
def undoF (l : List RecT) : Nat → US → List RecT × Int
  | 0, s => if s.left = [] then (s.out, 0) else ([], 0)
  | k + 1, s => if s.left = [] then (s.out, 0) else match undoS l s with
    | .inr e => ([], e)
    | .inl s' => undoF l k s'
def muO (l : List OpenT) : Nat := (l.map fun x => x.next + 1).sum
theorem muO_set {l : List OpenT} {i : Nat} (h : i < l.length) (y : OpenT) : muO (l.set i y) + (l[i].next + 1) = muO l + (y.next + 1) := by
  unfold muO
  induction l generalizing i with
  | nil => simp at h
  | cons a l ih =>
    cases i with
    | zero => simp; omega
    | succ i =>
      simp only [List.length_cons] at h
      have := ih (i := i) (by omega)
      simp only [List.set_cons_succ, List.map_cons, List.sum_cons, List.getElem_cons_succ]
      omega
theorem muO_erase {l : List OpenT} {i : Nat} (h : i < l.length) : muO (l.eraseIdx i) + (l[i].next + 1) = muO l := by
  unfold muO
  induction l generalizing i with
  | nil => simp at h
  | cons a l ih =>
    cases i with
    | zero => simp; omega
    | succ i =>
      simp only [List.length_cons] at h
      have := ih (i := i) (by omega)
      simp only [List.eraseIdx_cons_succ, List.map_cons, List.sum_cons, List.getElem_cons_succ]
      omega
theorem muO_pos {l : List OpenT} (h : l ≠ []) : 0 < muO l := by
  cases l with
  | nil => exact absurd rfl h
  | cons a l => unfold muO; simp; omega
def rightAt (l : List RecT) (op : List OpenT) (i : Nat) (x : OpenT) : Bool :=
  (match recAt l x.last with | some r => decide (r.txn = x.txn) | none => false) && decide (x.next ≤ x.last) && (decide (i = 0) || decide (((op[i - 1]?).map (·.txn)).getD 0 < x.txn))
def rightI (l : List RecT) (op : List OpenT) (i : Nat) : Bool := match op[i]? with | some x => rightAt l op i x | none => true
def rightTo (l : List RecT) (op : List OpenT) (n : Nat) : Bool := (List.range n).all (rightI l op)
def rightO (l : List RecT) (op : List OpenT) : Bool := rightTo l op op.length
theorem rightTo_snoc {l : List RecT} {op : List OpenT} {i : Nat} : rightTo l op (i + 1) = (rightTo l op i && rightI l op i) := by
  unfold rightTo; rw [List.range_succ, List.all_append]; simp
theorem rightO_false {l : List RecT} {op : List OpenT} {i : Nat} (hi : i < op.length) (h : rightI l op i = false) : rightO l op = false := by
  cases hq : rightO l op
  · rfl
  · simp only [rightO, rightTo, List.all_eq_true, List.mem_range] at hq
    rw [hq i hi] at h; cases h
def undoP (l : List RecT) (op : List OpenT) (next : Nat) : List RecT × Int :=
  if rowErr l ≠ 0 then ([], rowErr l)
  else if next = 0 ∨ next ≤ lastLsn l then ([], 2)
  else if rightO l op = false then ([], 220)
  else undoF l (muO op) ⟨next, op, []⟩
def undoR (l : List RecT) (op : List OpenT) (next : Nat) : V := .tup [.sl .unk 9 ((undoP l op next).1.map cRec) [], .int .i64 (undoP l op next).2]

def fR (l : List RecT) (n : Nat) : V := match recAt l n with | some r => .agg (cRec r) | none => .junk
theorem updG_fR {l : List RecT} {i : Nat} (h : i < l.length) : updG (fR (l.take i)) l[i].lsn (.agg (cRec l[i])) = fR (l.take (i + 1)) := by
  funext n
  simp only [updG, fR, recAt_snoc h]
  by_cases e : n = l[i].lsn
  · subst e; simp
  · rw [if_neg e, if_neg (fun q => e q.symm)]
def UnI (l : List RecT) (k : Nat) (v : V) (st : St) : Prop :=
  ∃ (i nv ep : Nat) (ks : List Nat), k = l.length - i ∧ i ≤ l.length ∧ v = .int .i64 ((i : Nat) : Int) ∧ ks.Nodup ∧ (∀ n, n ∈ ks ↔ (recAt (l.take i) n).isSome = true) ∧ st = ⟨[oMap 0 ep ks (fR (l.take i))], nv⟩
def UnJ (l : List RecT) (op : List OpenT) (ep : Nat) (ks : List Nat) (k : Nat) (v : V) (st : St) : Prop :=
  ∃ (i nv : Nat), k = op.length - i ∧ i ≤ op.length ∧ v = .int .i64 ((i : Nat) : Int) ∧ rightTo l op i = true ∧ st = ⟨[oMap 0 ep ks (fR l)], nv⟩
/-- A record whose old bytes, and maybe new ones, are none. -/
@[simp] def nRec (r : RecT) : List V := [.int .u64 r.lsn, .int .i64 r.kind, .int .u64 r.txn, .int .u64 r.back, .int .i64 r.page, .int .i64 r.slot, .sl .nil 0 [] [], if r.kind = 4 then .sl .nil 0 [] [] else vB r.new, .int .u64 r.next]
def UnK (l : List RecT) (ep : Nat) (ks : List Nat) (R : List RecT × Int) (k : Nat) (v2 v16 v17 : V) (st : St) : Prop :=
  ∃ (s : US) (va vb nv : Nat) (T : List (List V)), muO s.left ≤ k ∧ undoF l k s = R ∧ (∀ r ∈ s.out, r.old = [] ∧ (r.kind = 4 → r.new = [])) ∧ s.out.length ≤ 64 ∧ s.next < 2 ^ 64 ∧ s.left.length < 2 ^ 40 ∧
    v2 = .int .u64 ((s.next : Nat) : Int) ∧ v16 = .msl 1 va 0 s.left.length ∧ v17 = .msl 2 vb 0 s.out.length ∧
    st = ⟨[oMap 0 ep ks (fR l), some (va, .mem 3 (s.left.map cOpen ++ T)), some (vb, .mem 9 (s.out.map nRec))], nv⟩
end Go.Proofs.Ytmbhgjekjpkigaa.AM

namespace Go.Proofs.Ytmbhgjekjpkigaa.AM
open Go
set_option linter.unusedVariables false
set_option linter.unusedSimpArgs false
variable {P : Program}

theorem nRec_le {out : List RecT} (h : ∀ r ∈ out, r.old = [] ∧ (r.kind = 4 → r.new = [])) : LeV (.sl .unk 9 (out.map nRec) []) (.sl .unk 9 (out.map cRec) []) := by
  refine .sl .unk 9 _ _ _ (by simp) (fun i hi => ?_) (fun i j hi => ?_)
  · simp only [List.length_map] at hi
    rw [getD_map _ _ _ hi, getD_map _ _ _ hi]; rfl
  · simp only [List.length_map] at hi
    obtain ⟨h1, h2⟩ := h out[i] (List.getElem_mem hi)
    rw [getD_map _ _ _ hi, getD_map _ _ _ hi]
    match j with
    | 0 => exact .refl _
    | 1 => exact .refl _
    | 2 => exact .refl _
    | 3 => exact .refl _
    | 4 => exact .refl _
    | 5 => exact .refl _
    | 6 =>
      show LeV (.sl .nil 0 [] []) (vB out[i].old)
      rw [h1]; exact .nil _ _
    | 7 =>
      show LeV (if out[i].kind = 4 then .sl .nil 0 [] [] else vB out[i].new) (vB out[i].new)
      split
      · rename_i h4
        rw [h2 h4]; exact .nil _ _
      · exact .refl _
    | 8 => exact .refl _
    | j + 9 => exact .refl _
def UnL (l : List RecT) (s : US) (ep vb nvm : Nat) (ks : List Nat) (v : V) (st : St) : Prop :=
  ∃ (left' : List OpenT) (m : RecT) (va' nv' : Nat) (T' : List (List V)) (o3 o4 : Option (Nat × Obj)), undoS l s = emitU s left' m ∧ m.old = [] ∧ (m.kind = 4 → m.new = []) ∧ muO left' < muO s.left ∧ left'.length ≤ s.left.length ∧
    v = .msl 1 va' 0 left'.length ∧ st = ⟨[oMap 0 ep ks (fR l), some (va', .mem 3 (left'.map cOpen ++ T')), some (vb, .mem 9 (s.out.map nRec)), o3, o4, some (nvm, .mem 9 [nRec m])], nv'⟩
theorem GhostV.nil3 {a b : V} {st : St} {K : List V → St → Prop} (sz : Nat) (h0 : 0 < sz) (hk : K [a, b, .msl st.objs.length st.nv 0 0] ⟨st.objs ++ [some (st.nv, .mem sz [])], st.nv + 1⟩) : GhostV [a, b, .sl .nil 0 [] []] st K :=
  GhostV.nils (vs' := [a, b, .msl st.objs.length st.nv 0 0]) (st' := st.push (.mem sz [])) h0 rfl rfl (fun i => by
    match i with
    | 0 => exact .refl _
    | 1 => exact .refl _
    | 2 => exact .nil _
    | i + 3 => exact .refl _) hk
set_option maxHeartbeats 8000000 in
theorem Undo_R (h : UndR P) (l : List RecT) (op : List OpenT) (next : Nat) (hl : l.length < 2 ^ 40) (hw : rowW l) (hop : op.length < 2 ^ 40) (hnx : next < 2 ^ 64) (hxw : ∀ x ∈ op, x.txn < 2 ^ 64) :
    PCalls P n_redo_Undo [.sl .unk 9 (l.map cRec) [], .sl .unk 3 (op.map cOpen) [], .int .u64 next] (fun v => v = undoR l op next) := by
  refine A_redo_Undo h.undo ?_
  unfold F_redo_Undo
  simp [st0]
  refine inv_p (CheckRow_R h.toRowR l hl hw) rfl (by simp [pureL, V.pure, pureLL]) ?_
  rintro _ rfl
  have err : ∀ {e : Int} {st : St}, undoP l op next = ([], e) → GhostV [.sl .nil 0 [] [], .int .i64 e] st fun vs st => (mkres vs).pure = true ∧ mkres vs = undoR l op next := fun {e st} he =>
    GhostV.le (LeVs.cons (.nil _ 9) (LeVs.refl _)) ⟨by simp [V.pure, pureL, pureLL], by simp [undoR, he]⟩
  by_cases hrow : rowErr l = 0
  case neg =>
    simp [hrow]
    exact err (by simp [undoP, hrow])
  have h64 := rowErr_len hrow
  have hrec := rowErr_ok hrow
  simp [hrow]
  by_cases hn0 : next = 0
  · simp [eq_true hn0]
    exact err (e := 2) (by simp [undoP, hrow, hn0])
  simp [hn0]
  refine inv_p (End_R h.toTogR l hl) rfl (by simp [pureL, V.pure, pureLL]) ?_
  rintro _ rfl
  by_cases hnl : next ≤ lastLsn l
  · simp [hn0, hnl]
    exact err (e := 2) (by simp [undoP, hrow, hn0, hnl])
  simp [hn0, hnl]
  have hP : undoP l op next = if rightO l op = false then ([], 220) else undoF l (muO op) ⟨next, op, []⟩ := by simp [undoP, hrow, hn0, hnl]
  refine ⟨UnI l, ⟨l.length, GhostV.refl ⟨0, _, 1, [], by simp, by simp, by simp, by simp, by simp [recAt], rfl⟩⟩, ?_⟩
  rintro k1 v39 st ⟨i, nv, ep, ks, rfl, hi, rfl, hnd, hks, rfl⟩
  by_cases hlt : i < l.length
  · have hm : mfind (.one .int) (.int .u64 ((l[i].lsn : Nat) : Int)) (ks.map (entF (fR (l.take i)))) 0 = _ := mfind_G (κ := .u64) uE_inj (f := fR (l.take i)) l[i].lsn ks
    have hks' : ∀ n, n ∈ addG ks l[i].lsn ↔ (recAt (l.take (i + 1)) n).isSome = true := by
      intro n
      rw [mem_addG, hks, recAt_snoc hlt]
      by_cases e : l[i].lsn = n
      · simp [e]
      · simp [e]
        intro q; exact absurd q.symm e
    by_cases hin : l[i].lsn ∈ ks
    · have e := set_G (κ := .u64) (e := uE) (f := fR (l.take i)) hin hnd (.agg (cRec l[i]))
      rw [updG_fR hlt, entG_F] at e
      simp only [uE, cRec] at e
      simp [hlt, oMap, hm, hin, e]
      exact ⟨l.length - (i + 1), by omega, GhostV.keep (L := [_]) (M := [_]) ⟨i + 1, _, _, addG ks l[i].lsn, rfl, by omega, by rw [wadd1 (by omega)], addG_nodup hnd, hks', rfl⟩⟩
    · have e := app_G (κ := .u64) (e := uE) (f := fR (l.take i)) hin (.agg (cRec l[i]))
      rw [updG_fR hlt, entG_F] at e
      simp only [uE, cRec] at e
      simp [hlt, oMap, hm, hin, e]
      exact ⟨l.length - (i + 1), by omega, GhostV.keep (L := [_]) (M := [_]) ⟨i + 1, _, _, addG ks l[i].lsn, rfl, by omega, by rw [wadd1 (by omega)], addG_nodup hnd, hks', rfl⟩⟩
  rw [List.take_of_length_le (by omega)] at hks ⊢
  simp [hlt]
  refine ⟨UnJ l op ep ks, ⟨op.length, GhostV.refl ⟨0, _, by simp, by simp, by simp, by simp [rightTo], rfl⟩⟩, ?_⟩
  rintro k2 v50 st ⟨i, nv, rfl, hi, rfl, hrt, rfl⟩
  by_cases hlt2 : i < op.length
  · have hm : mfind (.one .int) (.int .u64 ((op[i].last : Nat) : Int)) (ks.map (entF (fR l))) 0 = _ := mfind_G (κ := .u64) uE_inj (f := fR l) op[i].last ks
    have hri : rightI l op i = rightAt l op i op[i] := by simp [rightI, hlt2]
    have bad : rightAt l op i op[i] = false → ∀ {st : St}, GhostV [.sl .nil 0 [] [], .int .i64 220] st fun vs st => (mkres vs).pure = true ∧ mkres vs = undoR l op next := fun hb st => err (by rw [hP, if_pos (rightO_false hlt2 (by rw [hri]; exact hb))])
    cases hrc : recAt l op[i].last with
    | none =>
      have hin : op[i].last ∉ ks := fun q => by rw [hks, hrc] at q; cases q
      simp [hlt2, oMap, hm, hin]
      exact bad (by simp [rightAt, hrc])
    | some r =>
      have hin : op[i].last ∈ ks := by rw [hks, hrc]; rfl
      have hfr : fR l op[i].last = .agg (cRec r) := by simp [fR, hrc]
      by_cases c1 : r.txn = op[i].txn
      case neg =>
        simp [hlt2, oMap, hm, hin, hfr, c1]
        exact bad (by simp [rightAt, hrc, c1])
      by_cases c2 : op[i].last < op[i].next
      · simp [hlt2, oMap, hm, hin, hfr, eq_true c1, c2]
        exact bad (by simp [rightAt, hrc, c1]; omega)
      have c2' : op[i].next ≤ op[i].last := by omega
      have good : (decide (i = 0) || decide (((op[i - 1]?).map (·.txn)).getD 0 < op[i].txn)) = true → ∀ {M : List (Option (Nat × Obj))} {nv' : Nat}, ∃ j, j < op.length - i ∧ GhostV [.int .i64 (IntKind.i64.wrap ((i : Int) + 1))] ⟨[oMap 0 ep ks (fR l)] ++ M, nv'⟩ (app (n := 1) (UnJ l op ep ks j)) := fun hq {M nv'} =>
        ⟨op.length - (i + 1), by omega, GhostV.keep ⟨i + 1, _, rfl, by omega, by rw [wadd1 (by omega)], by rw [rightTo_snoc, hrt, hri]; simp only [rightAt, hrc, c1, c2', hq]; simp, rfl⟩⟩
      by_cases h0 : i = 0
      · simp [hlt2, oMap, hm, hin, hfr, eq_true c1, c2, show ¬ 0 < i by omega]
        exact good (by simp [h0])
      · have hws := wsub1 (x := i) (by omega) (by omega)
        have hpi : i - 1 < op.length := by omega
        by_cases c3 : op[i].txn ≤ (op[i - 1]'hpi).txn
        · simp [hlt2, oMap, hm, hin, hfr, eq_true c1, c2, show 0 < i by omega, hws, hpi, c3]
          exact bad (by simp [rightAt, hrc, c1, h0, hpi]; omega)
        · simp [hlt2, oMap, hm, hin, hfr, eq_true c1, c2, show 0 < i by omega, hws, hpi, c3]
          exact good (by simp [hpi]; omega)
  simp [hlt2]
  refine inv_f0 (CloneO_R h op hop (fun ver nv' => ?_))
  have hro : rightO l op = true := by unfold rightO; rw [show op.length = i by omega]; exact hrt
  rw [hro] at hP
  simp only [Bool.true_eq_false, if_false] at hP
  obtain ⟨R, hR⟩ : ∃ R, R = undoF l (muO op) ⟨next, op, []⟩ := ⟨_, rfl⟩
  rw [← hR] at hP
  refine ⟨UnK l ep ks R, ⟨muO op, GhostV.nil3 9 (by decide) ⟨⟨next, op, []⟩, ver, nv', nv' + 1, [], by simp, by simp [hR], by simp, by simp, hnx, hop, rfl, rfl, by simp, by simp⟩⟩, ?_⟩
  rintro k3 v2 v16 v17 st ⟨s, va, vb, nv2, T, hmu, hF, hout, hol, hsn, hsl, rfl, rfl, rfl, rfl⟩
  by_cases hle : s.left = []
  · simp [hle]
    have hfin : R = (s.out, 0) := by
      rw [← hF]
      cases k3 <;> simp [undoF, hle]
    refine GhostV.trans (K := fun vs st => vs = [.sl .unk 9 (s.out.map nRec) [], .int .i64 0]) (GhostV.rowk (L := []) (sz := 9) (es := s.out.map nRec) (by simp) (by simp) (by simp) ?_) ?_
    · rw [List.drop_zero, List.take_of_length_le (by simp)]
    · rintro _ st rfl
      refine GhostV.le (LeVs.cons (nRec_le hout) (LeVs.refl _)) ⟨by simp [V.pure, pureL, pureLL], by simp [undoR, hP, hfin]⟩
  have hlp : 0 < s.left.length := List.length_pos_iff.2 hle
  simp [hlp]
  obtain ⟨M, hM⟩ : ∃ M : List (Option (Nat × Obj)), M = [oMap 0 ep ks (fR l), some (va, Obj.mem 3 (s.left.map cOpen ++ T)), some (vb, Obj.mem 9 (s.out.map nRec))] := ⟨_, rfl⟩
  have hbor : ∀ {M' : List (Option (Nat × Obj))} {nv'' : Nat}, Bor ⟨M ++ M', nv''⟩ (.msl 1 va 0 s.left.length) (.sl .unk 3 (s.left.map cOpen) []) := fun {M' nv''} => Bor.rowG (sz := 3) (l := s.left) (c := cOpen) (rows := s.left.map cOpen ++ T) (fun _ => rfl) (by rw [hM]; simp [St.get]) (List.take_left' (by simp)) (by simp)
  have hbor0 := @hbor [] nv2
  rw [List.append_nil] at hbor0
  rw [← hM]
  refine inv_look (MinFunc_R h s.left hsl hle) (Bors.cons hbor0 Bors.refl) (by simp [pureL, V.pure, pureLL]) ?_
  rintro _ rfl
  refine ⟨rfl, ?_⟩
  obtain ⟨x, hx⟩ : ∃ x, x = minO s.left := ⟨_, rfl⟩
  have hxm : x ∈ s.left := by rw [hx]; exact minO_mem hle
  rw [← hx]
  have hML : M.length = 3 := by rw [hM]; rfl
  simp [hML]
  refine inv_look (Index_R h s.left x hsl hxm) (Bors.cons hbor Bors.refl) (by simp [pureL, V.pure, pureLL]) ?_
  rintro _ rfl
  refine ⟨rfl, ?_⟩
  obtain ⟨j, hj⟩ : ∃ j, j = s.left.idxOf x := ⟨_, rfl⟩
  have hjl : j < s.left.length := by rw [hj]; exact List.idxOf_lt_length_iff.2 hxm
  have hjx : s.left[j] = x := by subst hj; simp
  rw [← hj]
  have hm : mfind (.one .int) (.int .u64 ((x.next : Nat) : Int)) (ks.map (entF (fR l))) 0 = _ := mfind_G (κ := .u64) uE_inj (f := fR l) x.next ks
  have hS : undoS l s = if x.next = 0 then emitU s (s.left.eraseIdx j) (endRec s x) else match recAt l x.next with
    | none => .inr 220
    | some r =>
      if r.txn ≠ x.txn ∨ chgR r = false then .inr 220
      else if r.kind = 2 then .inl ⟨s.next, s.left.set j ⟨x.txn, x.last, r.next⟩, s.out⟩
      else emitU s (s.left.set j ⟨x.txn, s.next, r.back⟩) (undRec s x r) := by unfold undoS; dsimp only; (rw [← hx, ← hj]) <;> rfl
  clear hbor hbor0
  rw [hM]
  have hFs : ∀ e, undoS l s = .inr e → R = ([], e) := by
    intro e he
    rw [← hF]
    have := muO_pos hle
    obtain ⟨k, rfl⟩ : ∃ k, k3 = k + 1 := ⟨k3 - 1, by omega⟩
    simp [undoF, hle, he]
  have hFn : ∀ s', undoS l s = .inl s' → muO s'.left < muO s.left → ∃ k, k < k3 ∧ muO s'.left ≤ k ∧ undoF l k s' = R := by
    intro s' he hmm
    have := muO_pos hle
    obtain ⟨k, rfl⟩ : ∃ k, k3 = k + 1 := ⟨k3 - 1, by omega⟩
    refine ⟨k, by omega, by omega, ?_⟩
    rw [← hF]; simp [undoF, hle, he]
  simp [oMap]
  rw [hm]
  cases hrc : recAt l x.next with
  | none =>
    have hin : x.next ∉ ks := fun q => by rw [hks, hrc] at q; cases q
    simp [hin]
    refine ⟨UnL l s ep vb (nv2 + 2) ks, ?_, ?_⟩
    · by_cases hx0 : x.next = 0
      · -- it is over
        simp [hx0]
        rw [wadd1 (by omega)]
        refine inv_f0 (Delete_R h s.left j hjl hsl (id := 1) (ver := va) (T := T) rfl (fun T' => ?_))
        have hme := muO_erase hjl
        exact GhostV.refl ⟨s.left.eraseIdx j, endRec s x, va, _, T', _, _, by rw [hS, if_pos hx0], rfl, fun _ => rfl, by omega, by rw [List.length_eraseIdx, if_pos hjl]; omega, rfl, by simp [oMap, endRec]; exact ⟨⟨rfl, rfl⟩, rfl⟩⟩
      · simp [hx0]
        have := hFs 220 (by rw [hS, if_neg hx0, hrc])
        exact err (e := 220) (by rw [hP, this])
    · rintro v16_1 st ⟨left', m, va', nv', T', o3, o4, hE, hmo, hm4, hmu', hll, rfl, rfl⟩
      by_cases hoc : ((s.out.length : Nat) : Int) = 64
      · have hout64 : s.out.length = 64 := by omega
        simp [oMap, hoc]
        have := hFs 3 (by rw [hE]; simp [emitU, hout64])
        exact err (e := 3) (by rw [hP, this])
      have hout64 : ¬ s.out.length = 64 := by omega
      by_cases hnx0 : s.next = 0
      · simp [oMap, hoc, hnx0]
        have := hFs 3 (by rw [hE]; simp [emitU, hnx0])
        exact err (e := 3) (by rw [hP, this])
      simp [oMap, hoc, hnx0]
      obtain ⟨k, hk1, hk2, hk3⟩ := hFn ⟨if s.next + 1 = 2 ^ 64 then 0 else s.next + 1, left', s.out ++ [m]⟩ (by rw [hE]; simp [emitU, hout64, hnx0]) hmu'
      refine ⟨by omega, k, hk1, GhostV.keep (L := [_, _, _]) ⟨⟨if s.next + 1 = 2 ^ 64 then 0 else s.next + 1, left', s.out ++ [m]⟩, va', _, _, T', hk2, hk3, ?_, by simp; omega, ?_, by dsimp only; omega, ?_, rfl, by simp; rfl, by simp [oMap]; rfl⟩⟩
      · intro r hr
        rcases List.mem_append.1 hr with q | q
        · exact hout r q
        · obtain rfl : r = m := by simpa using q
          exact ⟨hmo, hm4⟩
      · dsimp only; split <;> omega
      · rw [u64add1 hsn]; dsimp only; split <;> rfl
  | some r =>
    have hin : x.next ∈ ks := by rw [hks, hrc]; rfl
    have hfr : fR l x.next = .agg (cRec r) := by simp [fR, hrc]
    obtain ⟨hrm, hrl⟩ := recAt_mem hrc
    have hok := hrec r hrm
    have hbk : r.back < x.next ∧ r.next ≤ r.back ∧ r.old.length ≤ 52 ∧ (chgR r = true → r.kind = 1 ∨ r.kind = 2) := by
      simp only [recOk, decide_eq_true_eq] at hok
      refine ⟨by omega, by omega, by omega, fun hc => ?_⟩
      simp only [chgR, Bool.or_eq_true, decide_eq_true_eq] at hc
      exact hc
    have hg : (s.left.map cOpen ++ T)[j]? = some (cOpen x) := by
      rw [List.getElem?_append_left (by simpa using hjl), List.getElem?_map, List.getElem?_eq_getElem hjl, hjx]; rfl
    have hset : ∀ y : OpenT, (s.left.map cOpen).set j [V.int .u64 ((y.txn : Nat) : Int), V.int .u64 ((y.last : Nat) : Int), V.int .u64 ((y.next : Nat) : Int)] = (s.left.set j y).map cOpen := fun y => List.map_set.symm
    simp [hin, hfr]
    refine ⟨UnL l s ep vb (nv2 + 2) ks, ?_, ?_⟩
    · by_cases hx0 : x.next = 0
      · -- it is over
        simp [hx0]
        rw [wadd1 (by omega)]
        refine inv_f0 (Delete_R h s.left j hjl hsl (id := 1) (ver := va) (T := T) rfl (fun T' => ?_))
        have hme := muO_erase hjl
        exact GhostV.refl ⟨s.left.eraseIdx j, endRec s x, va, _, T', _, _, by rw [hS, if_pos hx0], rfl, fun _ => rfl, by omega, by rw [List.length_eraseIdx, if_pos hjl]; omega, rfl, by simp [oMap, endRec]; exact ⟨⟨rfl, rfl⟩, rfl⟩⟩
      by_cases c1 : r.txn = x.txn
      case neg =>
        simp [hx0, c1]
        have := hFs 220 (by rw [hS, if_neg hx0, hrc]; simp [c1])
        exact err (e := 220) (by rw [hP, this])
      have c1e : (r.txn = x.txn) = True := eq_true c1
      simp [hx0, c1e]
      refine inv_p (Chg_R h.toTogR r) rfl (by simp [pureL, V.pure, pureLL]) ?_
      rintro _ rfl
      cases c2 : chgR r
      · simp [c1e]
        have := hFs 220 (by rw [hS, if_neg hx0, hrc]; simp [c2])
        exact err (e := 220) (by rw [hP, this])
      by_cases c3 : r.kind = 2
      · simp [c1e, c3, hjl]
        obtain ⟨k, hk1, hk2, hk3⟩ := hFn ⟨s.next, s.left.set j ⟨x.txn, x.last, r.next⟩, s.out⟩ (by rw [hS, if_neg hx0, hrc]; simp [c1, c2, c3]) (by
          have := muO_set hjl ⟨x.txn, x.last, r.next⟩
          rw [hjx] at this
          dsimp only at this ⊢; omega)
        rw [hg]
        simp
        rw [hset ⟨x.txn, x.last, r.next⟩]
        exact ⟨k, hk1, GhostV.keep (L := [_, _, _]) ⟨⟨s.next, s.left.set j ⟨x.txn, x.last, r.next⟩, s.out⟩, va, vb, _, T, hk2, hk3, hout, hol, hsn, by simpa using hsl, rfl, by simp, rfl, by simp [oMap]; rfl⟩⟩
      · simp [c1e, c3]
        refine inv_p (SClone h.toPagR r.old (by omega)) rfl (by simp [pureL, V.pure]) ?_
        rintro _ rfl
        simp [vB]
        refine ⟨hjl, ?_⟩
        rw [hg]
        simp [hjl, List.set_append_left]
        have hg2 : ((s.left.map cOpen).set j [V.int .u64 ((x.txn : Nat) : Int), V.int .u64 ((s.next : Nat) : Int), V.int .u64 ((x.next : Nat) : Int)] ++ T)[j]? = some [V.int .u64 ((x.txn : Nat) : Int), V.int .u64 ((s.next : Nat) : Int), V.int .u64 ((x.next : Nat) : Int)] := by
          rw [List.getElem?_append_left (by simpa using hjl), List.getElem?_set_self (by simpa using hjl)]
        rw [hg2]
        simp
        rw [hset ⟨x.txn, s.next, r.back⟩]
        have hmu2 := muO_set hjl ⟨x.txn, s.next, r.back⟩
        rw [hjx] at hmu2
        dsimp only at hmu2
        exact GhostV.refl ⟨s.left.set j ⟨x.txn, s.next, r.back⟩, undRec s x r, va, _, T, _, _, by rw [hS, if_neg hx0, hrc]; simp [c1, c2, c3], rfl, fun q => by simp [undRec] at q, by omega, by simp, by simp, by simp [oMap, undRec]; exact ⟨⟨rfl, rfl⟩, rfl⟩⟩
    · rintro v16_1 st ⟨left', m, va', nv', T', o3, o4, hE, hmo, hm4, hmu', hll, rfl, rfl⟩
      by_cases hoc : ((s.out.length : Nat) : Int) = 64
      · have hout64 : s.out.length = 64 := by omega
        simp [oMap, hoc]
        have := hFs 3 (by rw [hE]; simp [emitU, hout64])
        exact err (e := 3) (by rw [hP, this])
      have hout64 : ¬ s.out.length = 64 := by omega
      by_cases hnx0 : s.next = 0
      · simp [oMap, hoc, hnx0]
        have := hFs 3 (by rw [hE]; simp [emitU, hnx0])
        exact err (e := 3) (by rw [hP, this])
      simp [oMap, hoc, hnx0]
      obtain ⟨k, hk1, hk2, hk3⟩ := hFn ⟨if s.next + 1 = 2 ^ 64 then 0 else s.next + 1, left', s.out ++ [m]⟩ (by rw [hE]; simp [emitU, hout64, hnx0]) hmu'
      refine ⟨by omega, k, hk1, GhostV.keep (L := [_, _, _]) ⟨⟨if s.next + 1 = 2 ^ 64 then 0 else s.next + 1, left', s.out ++ [m]⟩, va', _, _, T', hk2, hk3, ?_, by simp; omega, ?_, by dsimp only; omega, ?_, rfl, by simp; rfl, by simp [oMap]; rfl⟩⟩
      · intro r hr
        rcases List.mem_append.1 hr with q | q
        · exact hout r q
        · obtain rfl : r = m := by simpa using q
          exact ⟨hmo, hm4⟩
      · dsimp only; split <;> omega
      · rw [u64add1 hsn]; dsimp only; split <;> rfl
end Go.Proofs.Ytmbhgjekjpkigaa.AM

namespace Go.Proofs.Ytmbhgjekjpkigaa.AM
open Go
set_option linter.unusedVariables false
set_option linter.unusedSimpArgs false
variable {P : Program}

structure AgnR (P : Program) : Prop extends UndR P where
  bs : R_slices_BinarySearchFunc_Page_Page_int P
  ag1 : R_redo_again_1 P
  cloneP : R_slices_Clone_Page_Page P
  again : R_redo_again P

theorem Ag1_R (h : AgnR P) (p : PageT) (n : Int) : PCalls P n_redo_again_1 [.agg (cPage p), .int .i64 n] (fun r => r = .int .i64 (cmpI p.num n)) := by
  refine A_redo_again_1 h.ag1 ?_
  unfold F_redo_again_1
  simp [st0]
  refine inv_p (Compare_i h.toCmpR p.num n) rfl rfl ?_
  rintro _ rfl
  exact GhostV.refl ⟨rfl, rfl⟩
theorem cmpI_lt {a b : Int} : cmpI a b < 0 ↔ a < b := by unfold cmpI; repeat' split; all_goals omega
theorem cmpI_eq {a b : Int} : cmpI a b = 0 ↔ a = b := by unfold cmpI; repeat' split; all_goals omega

def BsG (l : List PageT) (n : Int) (i : Nat) : Prop := i ≤ l.length ∧ (∀ q, (h : q < l.length) → q + 1 = i → (l[q]).num < n) ∧ ∀ h : i < l.length, n ≤ (l[i]).num
def fndG (l : List PageT) (i : Nat) (n : Int) : Bool := match l[i]? with | some y => decide (y.num = n) | none => false
def BsIG (l : List PageT) (n : Int) (k : Nat) (v9 v10 : V) (st : St) : Prop :=
  ∃ i j : Nat, k = j - i ∧ i ≤ j ∧ j ≤ l.length ∧ v9 = .int .i64 i ∧ v10 = .int .i64 j ∧ st = ⟨[], 0⟩ ∧ (∀ q, (h : q < l.length) → q + 1 = i → (l[q]).num < n) ∧ ∀ h : j < l.length, n ≤ (l[j]).num
theorem bsG (h : AgnR P) (l : List PageT) (n : Int) (hl : l.length < 2 ^ 40) :
    PCalls P n_slices_BinarySearchFunc_Page_Page_int [.sl .unk 6 (l.map cPage) [], .int .i64 n, .fn (.func n_redo_again_1) [] []] (fun r => ∃ i : Nat, BsG l n i ∧ r = .tup [.int .i64 i, .bool (fndG l i n)]) := by
  refine A_slices_BinarySearchFunc_Page_Page_int h.bs ?_
  unfold F_slices_BinarySearchFunc_Page_Page_int
  simp [st0]
  refine ⟨BsIG l n, ⟨l.length, GhostV.refl ⟨0, l.length, by omega, by omega, by omega, by simp, by simp, rfl, by omega, by omega⟩⟩, ?_⟩
  rintro k1 v9 v10 st ⟨i, j, rfl, hij, hj, rfl, rfl, rfl, hlo, hhi⟩
  by_cases hlt : i < j
  · have e1 : IntKind.i64.wrap ((i : Int) + j) = (i : Int) + j := wrap_i64 (by omega)
    have e2 : IntKind.u64.wrap ((i : Int) + j) = (i : Int) + j := by simp [IntKind.wrap, IntKind.signed, IntKind.bits]; omega
    obtain ⟨m, hm0⟩ : ∃ m, m = (i + j) / 2 := ⟨_, rfl⟩
    have e3 : IntKind.i64.wrap (((i : Int) + j).fdiv 2) = m := by rw [Int.fdiv_eq_ediv_of_nonneg _ (by omega), wrap_i64 (by omega)]; omega
    have hm : m < l.length := by omega
    simp [hlt, e1, e2, e3, IntKind.bits, hm]
    refine inv_p (Ag1_R h l[m] n) (by simp) (by simp [pureL, V.pure, pureLL]) ?_
    rintro _ rfl
    by_cases hc : cmpI l[m].num n < 0
    · have e4 : IntKind.i64.wrap ((m : Int) + 1) = ((m + 1 : Nat) : Int) := by rw [wrap_i64 (by omega)]; omega
      simp [hc, e4]
      exact ⟨_, by omega, GhostV.refl ⟨m + 1, j, rfl, by omega, by omega, by simp, rfl, rfl, fun q hq hq' => by
        obtain rfl : q = m := by omega
        exact cmpI_lt.1 hc, hhi⟩⟩
    · simp [hc]
      exact ⟨_, by omega, GhostV.refl ⟨i, m, rfl, by omega, by omega, rfl, by simp, rfl, hlo, fun _ => by rw [cmpI_lt] at hc; omega⟩⟩
  · obtain rfl : i = j := by omega
    have fin : ∀ b : Bool, b = fndG l i n → GhostV [.int .i64 i, .bool b] ⟨[], 0⟩ fun vs st => (mkres vs).pure = true ∧ ∃ i, BsG l n i ∧ mkres vs = .tup [.int .i64 i, .bool (fndG l i n)] := by
      rintro _ rfl
      exact GhostV.refl ⟨by simp, i, ⟨hj, hlo, hhi⟩, by simp⟩
    by_cases hl2 : i < l.length
    · simp [hl2]
      refine inv_p (Ag1_R h l[i] n) (by simp) (by simp [pureL, V.pure, pureLL]) ?_
      rintro _ rfl
      simp
      refine fin _ ?_
      rw [Bool.eq_iff_iff]
      simp [fndG, hl2, cmpI_eq]
    · simp [hl2]
      exact fin _ (by simp [fndG, hl2])
def Rise (l : List PageT) : Prop := l.Pairwise fun a b => a.num < b.num
theorem Rise.get {l : List PageT} (h : Rise l) {i j : Nat} (hij : i < j) (hj : j < l.length) : (l[i]).num < (l[j]).num := List.pairwise_iff_getElem.1 h i j (by omega) hj hij
theorem BsG.found {l : List PageT} {n : Int} {i : Nat} (hs : Rise l) (h : BsG l n i) : fndG l i n = true ↔ ∃ p ∈ l, p.num = n := by
  obtain ⟨h1, h2, h3⟩ := h
  constructor
  · intro hf
    unfold fndG at hf
    split at hf
    · rename_i y hy
      exact ⟨y, List.mem_of_getElem? hy, by simpa using hf⟩
    · cases hf
  · rintro ⟨p, hp, rfl⟩
    obtain ⟨j, hj, rfl⟩ := List.getElem_of_mem hp
    have hji : j = i := by
      rcases Nat.lt_trichotomy j i with hlt | he | hgt
      · exfalso
        have a := h2 (i - 1) (by omega) (by omega)
        by_cases e : j = i - 1
        · subst e; omega
        · have b := hs.get (i := j) (j := i - 1) (by omega) (by omega); omega
      · exact he
      · exfalso
        have a := h3 (by omega)
        have b := hs.get hgt hj
        omega
    subst hji
    simp [fndG, hj]

/-! ### again -/
def setP (p : PageT) (r : RecT) : PageT := { p.put r.new r.slot.toNat with lsn := r.lsn }
def redo1 (ps : List PageT) (r : RecT) : List PageT := if chgR r then ps.map (fun p => if p.num = r.page ∧ p.lsn < r.lsn then setP p r else p) else ps
def againP (ps : List PageT) (l : List RecT) : List PageT := l.foldl redo1 ps
theorem againP_snoc {ps : List PageT} {l : List RecT} {i : Nat} (h : i < l.length) : againP ps (l.take (i + 1)) = redo1 (againP ps (l.take i)) l[i] := by
  unfold againP
  rw [take_snoc h, List.foldl_append]; rfl
theorem put_num (p : PageT) (b : List UInt8) (k : Nat) : (p.put b k).num = p.num := by
  match k with
  | 0 => rfl
  | 1 => rfl
  | 2 => rfl
  | k + 3 => rfl
theorem setP_num (p : PageT) (r : RecT) : (setP p r).num = p.num := put_num p _ _
theorem put_ok {p : PageT} {b : List UInt8} (k : Nat) (hp : pageOk p = true) (hb : b.length ≤ 52) : pageOk (p.put b k) = true := by
  simp only [pageOk, decide_eq_true_eq] at hp ⊢
  match k with
  | 0 => exact ⟨hp.1, hb, hp.2.2⟩
  | 1 => exact ⟨hp.1, hp.2.1, hb, hp.2.2.2⟩
  | 2 => exact ⟨hp.1, hp.2.1, hp.2.2.1, hb, hp.2.2.2.2⟩
  | k + 3 => exact ⟨hp.1, hp.2.1, hp.2.2.1, hp.2.2.2.1, hb⟩
theorem setP_ok {p : PageT} {r : RecT} (hp : pageOk p = true) (hb : r.new.length ≤ 52) : pageOk (setP p r) = true := put_ok r.slot.toNat hp hb
/-- Records that may be done again. -/
def agRec (r : RecT) : Prop := chgR r = true → 0 ≤ r.slot ∧ r.slot < 4 ∧ r.new.length ≤ 52
theorem redo1_num {ps : List PageT} {r : RecT} : (redo1 ps r).map (·.num) = ps.map (·.num) := by
  unfold redo1
  split
  · rw [List.map_map]
    apply List.map_congr_left
    intro p _
    simp only [Function.comp]
    split
    · exact setP_num p r
    · rfl
  · rfl
theorem redo1_ok {ps : List PageT} {r : RecT} (h : ∀ p ∈ ps, pageOk p = true) (hr : agRec r) : ∀ p ∈ redo1 ps r, pageOk p = true := by
  intro p hp
  unfold redo1 at hp
  split at hp
  · rename_i hc
    obtain ⟨q, hq, rfl⟩ := List.mem_map.1 hp
    split
    · exact setP_ok (h q hq) (hr hc).2.2
    · exact h q hq
  · exact h p hp
theorem rise_num {a b : List PageT} (h : a.map (·.num) = b.map (·.num)) (hb : Rise b) : Rise a := by
  have hb' : (b.map (·.num)).Pairwise (· < ·) := List.pairwise_map.2 hb
  rw [← h] at hb'
  exact List.pairwise_map.1 hb'
theorem againP_inv {ps : List PageT} {l : List RecT} (hr : Rise ps) (hok : ∀ p ∈ ps, pageOk p = true) (hl : ∀ r ∈ l, agRec r) : Rise (againP ps l) ∧ (∀ p ∈ againP ps l, pageOk p = true) ∧ (againP ps l).length = ps.length := by
  unfold againP
  induction l generalizing ps with
  | nil => exact ⟨hr, hok, rfl⟩
  | cons r l ih =>
    rw [List.foldl_cons]
    have hn := redo1_num (ps := ps) (r := r)
    have := ih (rise_num hn hr) (redo1_ok hok (hl r (by simp))) (fun r hr => hl r (by simp [hr]))
    refine ⟨this.1, this.2.1, this.2.2.trans ?_⟩
    have := congrArg List.length hn
    simpa using this
/-- What a record does at the place of its page. -/
theorem redo1_set {ps : List PageT} {r : RecT} {i : Nat} (hs : Rise ps) (hc : chgR r = true) (hi : i < ps.length) (hn : (ps[i]).num = r.page) : redo1 ps r = if (ps[i]).lsn < r.lsn then ps.set i (setP ps[i] r) else ps := by
  unfold redo1
  rw [if_pos hc]
  have hother : ∀ j (hj : j < ps.length), j ≠ i → (ps[j]).num ≠ r.page := by
    intro j hj hne e
    rcases Nat.lt_or_gt_of_ne hne with h1 | h1
    · have := hs.get h1 hi; omega
    · have := hs.get h1 hj; omega
  split
  · rename_i hl
    apply List.ext_getElem
    · simp
    · intro j h1 h2
      simp only [List.length_map] at h1
      rw [List.getElem_map]
      by_cases e : i = j
      · subst e; rw [List.getElem_set_self, if_pos ⟨hn, hl⟩]
      · rw [List.getElem_set_ne e, if_neg (fun q => hother j h1 (fun q => e q.symm) q.1)]
  · rename_i hl
    conv => rhs; rw [← List.map_id ps]
    apply List.map_congr_left
    intro p hp
    obtain ⟨j, hj, rfl⟩ := List.getElem_of_mem hp
    by_cases e : i = j
    · subst e; rw [if_neg (fun q => hl q.2)]; rfl
    · rw [if_neg (fun q => hother j hj (fun q => e q.symm) q.1)]; rfl
theorem redo1_none {ps : List PageT} {r : RecT} (h : ¬ ∃ p ∈ ps, p.num = r.page) : redo1 ps r = ps := by
  unfold redo1
  split
  · conv => rhs; rw [← List.map_id ps]
    apply List.map_congr_left
    intro p hp
    rw [if_neg (fun q => h ⟨p, hp, q.1⟩)]; rfl
  · rfl
theorem CloneP_R (h : AgnR P) (l : List PageT) (hl : l.length < 2 ^ 40) {L : List (Option (Nat × Obj))} {nv : Nat} {K : V → St → Prop}
    (hk : ∀ ver nv', K (.msl L.length ver 0 l.length) ⟨L ++ [some (ver, .mem 6 (l.map cPage))], nv'⟩) :
    ACalls P n_slices_Clone_Page_Page [.sl .unk 6 (l.map cPage) []] ⟨L, nv⟩ K := by
  refine A_slices_Clone_Page_Page h.cloneP ?_
  unfold F_slices_Clone_Page_Page
  cases l with
  | nil =>
    simp
    exact ⟨GhostV.refl (by simpa using hk (nv + 1) (nv + 2)), GhostV.nilr 6 (by decide) (by simpa using hk nv (nv + 1))⟩
  | cons x l =>
    simp
    refine ⟨by simp at hl; omega, ?_⟩
    exact GhostV.refl (by simpa using hk (nv + 1) (nv + 2))
end Go.Proofs.Ytmbhgjekjpkigaa.AM

namespace Go.Proofs.Ytmbhgjekjpkigaa.AM
open Go
set_option linter.unusedVariables false
set_option linter.unusedSimpArgs false
variable {P : Program}

abbrev oPg (va : Nat) (ps : List PageT) : Option (Nat × Obj) := some (va, .mem 6 (ps.map cPage))
def AgI (ps : List PageT) (va : Nat) (k : Nat) (v : V) (st : St) : Prop :=
  ∃ (i nv : Nat), k = ps.length - i ∧ i ≤ ps.length ∧ v = .int .i64 ((i : Nat) : Int) ∧ st = ⟨[oPg va ps], nv⟩
def AgJ (ps : List PageT) (va vp : Nat) (p : PageT) (k : Nat) (v : V) (st : St) : Prop :=
  ∃ (j nv : Nat), k = 4 - j ∧ j ≤ 4 ∧ v = .int .i64 ((j : Nat) : Int) ∧ st = ⟨[oPg va ps, some (vp, .mem 6 [cPage p])], nv⟩
def AgK (ps : List PageT) (l : List RecT) (va : Nat) (k : Nat) (v : V) (st : St) : Prop :=
  ∃ (i nv : Nat), k = l.length - i ∧ i ≤ l.length ∧ v = .int .i64 ((i : Nat) : Int) ∧ st = ⟨[oPg va (againP ps (l.take i))], nv⟩
set_option maxHeartbeats 8000000 in
theorem Again_R (h : AgnR P) (ps : List PageT) (l : List RecT) (hp : ps.length < 2 ^ 40) (hl : l.length < 2 ^ 40) (hr : Rise ps) (hok : ∀ p ∈ ps, pageOk p = true) (hag : ∀ r ∈ l, agRec r) :
    PCalls P n_redo_again [.sl .unk 6 (ps.map cPage) [], .sl .unk 9 (l.map cRec) []] (fun v => v = .sl .unk 6 ((againP ps l).map cPage) []) := by
  refine A_redo_again h.again ?_
  unfold F_redo_again
  simp [st0]
  refine inv_f0 (CloneP_R h ps hp (fun va nv0 => ?_))
  simp
  refine ⟨AgI ps va, ⟨ps.length, GhostV.refl ⟨0, _, by simp, by simp, by simp, rfl⟩⟩, ?_⟩
  rintro k1 v18 st ⟨i, nv, rfl, hi, rfl, rfl⟩
  by_cases hlt : i < ps.length
  · have hg : (ps.map cPage)[i]? = some (cPage ps[i]) := by simp [hlt]
    have hset : (ps.map cPage).set i (cPage ps[i]) = ps.map cPage := by
      apply List.ext_getElem?
      intro j
      by_cases e : i = j
      · subst e; rw [List.getElem?_set_self (by simpa using hlt), hg]
      · rw [List.getElem?_set_ne e]
    have hset' : (ps.map cPage).set i [V.int .i64 ps[i].num, V.int .u64 ((ps[i].lsn : Nat) : Int), V.sl .unk 1 (ps[i].s0.map c8) [], V.sl .unk 1 (ps[i].s1.map c8) [], V.sl .unk 1 (ps[i].s2.map c8) [], V.sl .unk 1 (ps[i].s3.map c8) []] = ps.map cPage := hset
    have hps := pageOk.short (hok ps[i] (List.getElem_mem hlt))
    simp [hlt]
    refine ⟨AgJ ps va nv ps[i], ⟨4, GhostV.refl ⟨0, _, by simp, by simp, by simp, rfl⟩⟩, ?_⟩
    rintro k2 v25 st ⟨j, nv2, rfl, hj, rfl, rfl⟩
    have step : ∀ {nv'} j, j < 4 → GhostV [.int .i64 (IntKind.i64.wrap ((j : Nat) + 1))] ⟨[oPg va ps, some (nv, .mem 6 [cPage ps[i]])], nv'⟩ (app (n := 1) (AgJ ps va nv ps[i] (4 - (j + 1)))) := fun {nv'} j hj => GhostV.refl ⟨j + 1, _, rfl, by omega, by rw [wadd1 (by omega)], rfl⟩
    rcases (by omega : j = 0 ∨ j = 1 ∨ j = 2 ∨ j = 3 ∨ j = 4) with rfl | rfl | rfl | rfl | rfl
    · simp [hlt]
      refine inv_p (SClone h.toPagR ps[i].s0 hps.1) rfl (by simp [pureL, V.pure]) ?_
      rintro _ rfl
      simp [vB, offV, hlt]
      rw [hset']
      exact ⟨3, by omega, by simpa using step 0 (by omega)⟩
    · simp [hlt]
      refine inv_p (SClone h.toPagR ps[i].s1 hps.2.1) rfl (by simp [pureL, V.pure]) ?_
      rintro _ rfl
      simp [vB, offV, hlt]
      rw [hset']
      exact ⟨2, by omega, by simpa using step 1 (by omega)⟩
    · simp [hlt]
      refine inv_p (SClone h.toPagR ps[i].s2 hps.2.2.1) rfl (by simp [pureL, V.pure]) ?_
      rintro _ rfl
      simp [vB, offV, hlt]
      rw [hset']
      exact ⟨1, by omega, by simpa using step 2 (by omega)⟩
    · simp [hlt]
      refine inv_p (SClone h.toPagR ps[i].s3 hps.2.2.2) rfl (by simp [pureL, V.pure]) ?_
      rintro _ rfl
      simp [vB, offV, hlt]
      rw [hset']
      simpa using step 3 (by omega)
    · simp
      exact ⟨ps.length - (i + 1), by omega, GhostV.keep (L := [_]) ⟨i + 1, _, rfl, by omega, by rw [wadd1 (by omega)], rfl⟩⟩
  simp [hlt]
  refine ⟨AgK ps l va, ⟨l.length, GhostV.refl ⟨0, _, by simp, by simp, by simp, rfl⟩⟩, ?_⟩
  rintro k3 v41 st ⟨i, nv, rfl, hi, rfl, rfl⟩
  obtain ⟨hr2, hok2, hlen2⟩ := againP_inv (l := l.take i) hr hok (fun r hr => hag r (List.mem_of_mem_take hr))
  obtain ⟨cur, hcur⟩ : ∃ cur, cur = againP ps (l.take i) := ⟨_, rfl⟩
  rw [← hcur] at hr2 hok2 hlen2 ⊢
  rw [← hlen2]
  by_cases hlt : i < l.length
  · have hsn := againP_snoc (ps := ps) hlt
    rw [← hcur] at hsn
    have hri := hag l[i] (List.getElem_mem hlt)
    have nx : ∀ {M : List (Option (Nat × Obj))} {nv' : Nat}, ∃ j, j < l.length - i ∧ GhostV [.int .i64 (IntKind.i64.wrap ((i : Int) + 1))] ⟨[oPg va (redo1 cur l[i])] ++ M, nv'⟩ (app (n := 1) (AgK ps l va j)) := fun {M nv'} =>
      ⟨l.length - (i + 1), by omega, GhostV.keep ⟨i + 1, _, rfl, by omega, by rw [wadd1 (by omega)], by rw [hsn]⟩⟩
    simp [hlt]
    refine inv_look (bsG h cur l[i].page (by omega)) (Bors.cons (Bor.rowG (sz := 6) (l := cur) (c := cPage) (rows := cur.map cPage) (fun _ => rfl) (by simp [St.get]) (List.take_of_length_le (by simp)) (by simp)) Bors.refl) (by simp [pureL, V.pure, pureLL]) ?_
    rintro _ ⟨q, hq, rfl⟩
    refine ⟨rfl, ?_⟩
    have hfd := hq.found hr2
    cases hf : fndG cur q l[i].page
    · have hno : ¬ ∃ p ∈ cur, p.num = l[i].page := fun e => by rw [hfd.2 e] at hf; cases hf
      rw [redo1_none hno] at nx
      simp
      exact nx
    have hql : q < cur.length := by
      unfold fndG at hf
      split at hf
      · rename_i y hy; exact (List.getElem?_eq_some_iff.1 hy).1
      · cases hf
    have hqn : (cur[q]).num = l[i].page := by simpa [fndG, hql] using hf
    simp
    refine inv_p (Chg_R h.toTogR l[i]) rfl (by simp [pureL, V.pure, pureLL]) ?_
    rintro _ rfl
    cases hc : chgR l[i]
    · have hno : redo1 cur l[i] = cur := by simp [redo1, hc]
      rw [hno] at nx
      simp
      exact nx
    have hrs := redo1_set hr2 hc hql hqn
    obtain ⟨hs0, hs4, hnl⟩ := hri hc
    simp [hql]
    by_cases hls : cur[q].lsn < l[i].lsn
    · rw [if_pos hls] at hrs
      simp [hls, hql]
      refine inv_p (Set_P h.toPagR cur[q] l[i].slot l[i].new l[i].lsn) rfl (by simp [pureL, V.pure, pureLL]) ?_
      rintro _ rfl
      have hset : setR cur[q] l[i].slot l[i].new l[i].lsn = .tup [.agg (cPage (setP cur[q] l[i])), .int .i64 0] := by
        simp [setR, hok2 _ (List.getElem_mem hql), hs0, hs4, hnl, setP]
      rw [hset]
      simp [hql]
      have e2 : (cur.map cPage).set q (cPage (setP cur[q] l[i])) = (cur.set q (setP cur[q] l[i])).map cPage := List.map_set.symm
      rw [hrs, oPg, ← e2] at nx
      exact nx
    · rw [if_neg hls] at hrs
      rw [hrs] at nx
      simp [hls]
      exact nx
  · simp [hlt]
    have e : cur = againP ps l := by rw [hcur, List.take_of_length_le (by omega)]
    refine GhostV.rowk (L := []) (sz := 6) (es := cur.map cPage) (by simp) (by simp) (by simp) ?_
    rw [List.drop_zero, take_map_len, e]
    exact ⟨by simp [V.pure, pureL, pureLL], by simp⟩
end Go.Proofs.Ytmbhgjekjpkigaa.AM

namespace Go.Proofs.Ytmbhgjekjpkigaa.AM
open Go
set_option linter.unusedVariables false
set_option linter.unusedSimpArgs false
variable {P : Program}

structure AllR (P : Program) : Prop extends AgnR P where
  all : R_redo_All P

theorem checkR_zero {ps : List PageT} {l : List RecT} (h : checkR ps l = 0) : rowErr l = 0 ∧ togP ps l = true := by
  unfold checkR at h
  split at h
  · rename_i h1
    refine ⟨h1, ?_⟩
    cases hq : togP ps l
    · rw [hq] at h; simp at h
    · rfl
  · rename_i h1; exact absurd h h1
theorem togP_pages {ps : List PageT} {l : List RecT} (h : togP ps l = true) : ps.length ≤ 32 ∧ Rise ps ∧ ∀ p ∈ ps, pageOk p = true := by
  simp only [togP, Bool.and_eq_true, decide_eq_true_eq] at h
  obtain ⟨⟨h1, h2⟩, _⟩ := h
  have hat : ∀ i (hi : i < ps.length), togAt ps l i ps[i] = true := by
    intro i hi
    simp only [pagesOk, List.all_eq_true, List.mem_range] at h2
    have := h2 i hi
    simpa [togI, hi] using this
  have hto : ∀ i, i ≤ ps.length → pagesOk ps l i = true := by
    intro i hi
    simp only [pagesOk, List.all_eq_true, List.mem_range] at h2 ⊢
    exact fun j hj => h2 j (by omega)
  refine ⟨h1, ?_, ?_⟩
  · refine List.pairwise_iff_getElem.2 (fun i j hi hj hij => ?_)
    have h3 := pagesOk_rise (hto j (by omega)) (by omega) i hij hi (by omega)
    have h4 := hat j hj
    simp only [togAt, Bool.and_eq_true] at h4
    have h5 := h4.1.2
    simp [show ¬ j = 0 by omega, List.getElem?_eq_getElem (show j - 1 < ps.length by omega)] at h5
    omega
  · intro p hp
    obtain ⟨i, hi, rfl⟩ := List.getElem_of_mem hp
    have h4 := hat i hi
    simp only [togAt, Bool.and_eq_true] at h4
    exact h4.1.1
theorem recOk_ag {r : RecT} (h : recOk r = true) : agRec r := by
  intro _
  simp only [recOk, decide_eq_true_eq] at h
  exact ⟨by omega, by omega, by omega⟩
theorem undoF_ag {l : List RecT} (hl : ∀ r ∈ l, recOk r = true) : ∀ (k : Nat) (s : US), (∀ m ∈ s.out, agRec m) → ∀ m ∈ (undoF l k s).1, agRec m
  | 0, s, hs => by
    unfold undoF
    split
    · exact hs
    · intro m hm; cases hm
  | k + 1, s, hs => by
    unfold undoF
    split
    · exact hs
    · split
      · intro m hm; cases hm
      · rename_i s' hs'
        refine undoF_ag hl k s' ?_
        have emit : ∀ (left' : List OpenT) (m : RecT), agRec m → emitU s left' m = .inl s' → ∀ q ∈ s'.out, agRec q := by
          intro left' m hm he
          unfold emitU at he
          split at he
          · cases he
          · simp only [Sum.inl.injEq] at he
            subst he
            intro q hq
            rcases List.mem_append.1 hq with h1 | h1
            · exact hs q h1
            · obtain rfl : q = m := by simpa using h1
              exact hm
        unfold undoS at hs'
        dsimp only at hs'
        split at hs'
        · exact emit _ _ (fun hc => by simp [endRec, chgR] at hc) hs'
        · split at hs'
          · cases hs'
          · rename_i r hr
            split at hs'
            · cases hs'
            · split at hs'
              · simp only [Sum.inl.injEq] at hs'
                subst hs'; exact hs
              · refine emit _ _ (fun _ => ?_) hs'
                have := hl r (recAt_mem hr).1
                simp only [recOk, decide_eq_true_eq] at this
                exact ⟨by simp only [undRec]; omega, by simp only [undRec]; omega, by simp only [undRec]; omega⟩
theorem undoP_ag {l : List RecT} {op : List OpenT} {next : Nat} (hl : ∀ r ∈ l, recOk r = true) : ∀ m ∈ (undoP l op next).1, agRec m := by
  unfold undoP
  split
  · intro m hm; cases hm
  · split
    · intro m hm; cases hm
    · split
      · intro m hm; cases hm
      · exact undoF_ag hl _ _ (fun m hm => by cases hm)
theorem undoF_len {l : List RecT} : ∀ (k : Nat) (s : US), s.out.length ≤ 64 → (undoF l k s).1.length ≤ 64
  | 0, s, hs => by
    unfold undoF
    split
    · exact hs
    · simp
  | k + 1, s, hs => by
    unfold undoF
    split
    · exact hs
    · split
      · simp
      · rename_i s' hs'
        refine undoF_len k s' ?_
        have emit : ∀ (left' : List OpenT) (m : RecT), emitU s left' m = .inl s' → s'.out.length ≤ 64 := by
          intro left' m he
          unfold emitU at he
          split at he
          · cases he
          · rename_i hq
            simp only [Sum.inl.injEq] at he
            subst he
            simp; omega
        unfold undoS at hs'
        dsimp only at hs'
        split at hs'
        · exact emit _ _ hs'
        · split at hs'
          · cases hs'
          · split at hs'
            · cases hs'
            · split at hs'
              · simp only [Sum.inl.injEq] at hs'
                subst hs'; exact hs
              · exact emit _ _ hs'
theorem undoP_len {l : List RecT} {op : List OpenT} {next : Nat} : (undoP l op next).1.length ≤ 64 := by
  unfold undoP
  split
  · simp
  · split
    · simp
    · split
      · simp
      · exact undoF_len _ _ (by simp)
theorem openL_len {l : List RecT} : (openL l).length ≤ l.length := by
  unfold openL
  rw [List.length_map]
  exact Nat.le_trans (List.length_filter_le _ _) (txnsL_len l)
def allP (ps : List PageT) (l : List RecT) (next : Nat) : List PageT × List RecT × Int :=
  if checkR ps l ≠ 0 then ([], [], checkR ps l)
  else if openL l = [] then (againP ps l, [], 0)
  else if (undoP l (openL l) next).2 ≠ 0 then ([], [], (undoP l (openL l) next).2)
  else (againP (againP ps l) (undoP l (openL l) next).1, (undoP l (openL l) next).1, 0)
def redoAllR (ps : List PageT) (l : List RecT) (next : Nat) : V := .tup [.sl .unk 6 ((allP ps l next).1.map cPage) [], .sl .unk 9 ((allP ps l next).2.1.map cRec) [], .int .i64 (allP ps l next).2.2]
set_option maxHeartbeats 2000000 in
theorem All_R (h : AllR P) (ps : List PageT) (l : List RecT) (next : Nat) (hp : ps.length < 2 ^ 40) (hl : l.length < 2 ^ 40) (hw : rowW l) (hnx : next < 2 ^ 64) :
    PCalls P n_redo_All [.sl .unk 6 (ps.map cPage) [], .sl .unk 9 (l.map cRec) [], .int .u64 next] (fun v => v = redoAllR ps l next) := by
  refine A_redo_All h.all ?_
  unfold F_redo_All
  simp [st0]
  refine inv_p (Check12 h.toTogR ps l hp hl hw) rfl (by simp [pureL, V.pure, pureLL]) ?_
  rintro _ rfl
  have err : ∀ {e : Int} {st : St}, allP ps l next = ([], [], e) → GhostV [.sl .nil 0 [] [], .sl .nil 0 [] [], .int .i64 e] st fun vs st => (mkres vs).pure = true ∧ mkres vs = redoAllR ps l next := fun {e st} he =>
    GhostV.le (LeVs.cons (.nil _ 6) (LeVs.cons (.nil _ 9) (LeVs.refl _))) ⟨by simp [V.pure, pureL, pureLL], by simp [redoAllR, he]⟩
  by_cases hc : checkR ps l = 0
  case neg =>
    simp [hc]
    exact err (by simp [allP, hc])
  obtain ⟨h1, h2⟩ := checkR_zero hc
  obtain ⟨q1, q2, q3⟩ := togP_pages h2
  have hrec := rowErr_ok h1
  obtain ⟨i1, i2, i3⟩ := againP_inv q2 q3 (fun r hr => recOk_ag (hrec r hr))
  simp [hc]
  refine inv_p (Open_R h.toOpnR l hl hw) rfl (by simp [pureL, V.pure, pureLL]) ?_
  rintro _ rfl
  have hol := openL_len (l := l)
  simp [openR, h1]
  by_cases ho : openL l = []
  · simp [ho]
    refine inv_p (Again_R h.toAgnR ps l hp hl q2 q3 (fun r hr => recOk_ag (hrec r hr))) rfl (by simp [pureL, V.pure, pureLL]) ?_
    rintro _ rfl
    simp
    have q := PCalls.le (LeVs.cons (LeV.refl _) (LeVs.cons (LeV.nil 0 9) (LeVs.refl []))) (Again_R h.toAgnR (againP ps l) [] (by omega) (by simp) i1 i2 (fun r hr => by cases hr))
    refine inv_p q rfl (by simp [pureL, V.pure, pureLL]) ?_
    rintro _ rfl
    simp
    exact GhostV.le (LeVs.cons (.refl _) (LeVs.cons (.nil _ 9) (LeVs.refl _))) ⟨by simp [V.pure, pureL, pureLL], by simp [redoAllR, allP, hc, ho, againP]⟩
  have hop : 0 < (openL l).length := List.length_pos_iff.2 ho
  simp [hop]
  refine inv_p (Undo_R h.toUndR l (openL l) next hl hw (by omega) hnx (fun x hx => ?_)) rfl (by simp [pureL, V.pure, pureLL]) ?_
  · unfold openL at hx
    obtain ⟨t, ht, rfl⟩ := List.mem_map.1 hx
    rw [openOf_txn]
    obtain ⟨r, hr, rfl⟩ := mem_txnsL.1 (List.mem_filter.1 ht).1
    exact (hw r hr).2.1
  rintro _ rfl
  simp [undoR]
  by_cases he : (undoP l (openL l) next).2 = 0
  case neg =>
    simp [he]
    exact err (by simp [allP, hc, ho, he])
  simp [he]
  refine inv_p (Again_R h.toAgnR ps l hp hl q2 q3 (fun r hr => recOk_ag (hrec r hr))) rfl (by simp [pureL, V.pure, pureLL]) ?_
  rintro _ rfl
  simp
  have hml := undoP_len (l := l) (op := openL l) (next := next)
  refine inv_p (Again_R h.toAgnR (againP ps l) (undoP l (openL l) next).1 (by omega) (by omega) i1 i2 (undoP_ag hrec)) rfl (by simp [pureL, V.pure, pureLL]) ?_
  rintro _ rfl
  simp
  exact GhostV.refl ⟨by simp [V.pure, pureL, pureLL], by simp [redoAllR, allP, hc, ho, he]⟩
end Go.Proofs.Ytmbhgjekjpkigaa.AM

namespace Go.Proofs.Ytmbhgjekjpkigaa.AM
open Go
set_option linter.unusedVariables false
set_option linter.unusedSimpArgs false
variable {P : Program}

structure RLawR (P : Program) : Prop extends AllR P where
  records : R_gazetteerlaw12_records P
  first : R_gazetteerlaw12_first P
  wakes : R_gazetteerlaw12_wakes P

def cutR (r : RecT) : RecT := { r with old := r.old.take 53, new := r.new.take 53 }
def recordsL (l : List RecT) : List RecT := (l.take 65).map cutR
def ReI (l : List RecT) (k : Nat) (v3 v8 : V) (st : St) : Prop :=
  ∃ (i va nv : Nat) (out : List RecT), k = l.length - i ∧ i ≤ l.length ∧ i ≤ 65 ∧ out = (l.take i).map cutR ∧ v3 = .msl 0 va 0 out.length ∧ v8 = .int .i64 ((i : Nat) : Int) ∧ st = ⟨[some (va, .mem 9 (out.map cRec))], nv⟩
theorem min53 (b : List UInt8) : (if (53 : Int) < (b.length : Int) then (53 : Int) else (b.length : Int)) = ((min b.length 53 : Nat) : Int) := by split <;> omega
theorem take53 (b : List UInt8) : (b.map c8).take (min b.length 53) = (b.take 53).map c8 := by
  rw [← List.map_take]
  congr 1
  rcases Nat.le_total b.length 53 with h | h
  · rw [Nat.min_eq_left h, List.take_length, List.take_of_length_le h]
  · rw [Nat.min_eq_right h]
theorem p_drop8 (b : List UInt8) (n : Nat) : pureLL ((b.map c8).drop n) = true := by rw [← List.map_drop]; exact p_c8 _
set_option maxHeartbeats 4000000 in
theorem Records_R (h : RLawR P) (l : List RecT) : PCalls P n_gazetteerlaw12_records [.sl .unk 9 (l.map cRec) []] (fun v => v = .sl .unk 9 ((recordsL l).map cRec) []) := by
  refine A_gazetteerlaw12_records h.records ?_
  unfold F_gazetteerlaw12_records
  simp [st0]
  have fin : ∀ {out : List RecT} {va nv : Nat} {M : List (Option (Nat × Obj))}, out = recordsL l → GhostV [.msl 0 va 0 out.length] ⟨[some (va, .mem 9 (out.map cRec))] ++ M, nv⟩ fun vs st => (mkres vs).pure = true ∧ mkres vs = .sl .unk 9 ((recordsL l).map cRec) [] := by
    rintro out va nv M rfl
    refine GhostV.rowk (L := []) (M := [some (va, .mem 9 ((recordsL l).map cRec))] ++ M) (id := 0) (ver := va) (off := 0) (len := (recordsL l).length) (sz := 9) (es := (recordsL l).map cRec) (by simp) (by simp) (by simp) ?_
    rw [List.drop_zero, take_map_len]
    exact ⟨by simp [V.pure, pureL, pureLL], by simp⟩
  refine ⟨ReI l, ⟨l.length, GhostV.nilr 9 (by decide) ⟨0, 0, 1, [], by simp, by simp, by simp, by simp, by simp, by simp, by simp⟩⟩, ?_⟩
  rintro k1 v3 v8 st ⟨i, va, nv, out, rfl, hi, hi65, hout, rfl, rfl, rfl⟩
  by_cases hlt : i < l.length
  · by_cases h65 : (i : Int) = 65
    · simp [hlt, eq_true h65]
      exact fin (M := [_]) (by rw [hout, show i = 65 by omega]; rfl)
    · simp [hlt, h65]
      rw [min53, Int.toNat_natCast, aop_appf2 (by rw [take53]; exact p_c8 _) (p_drop8 _ _) (by simp; omega), take53]
      refine ⟨⟨by omega, by omega⟩, ?_⟩
      simp
      rw [min53, Int.toNat_natCast, aop_appf2 (by rw [take53]; exact p_c8 _) (p_drop8 _ _) (by simp; omega), take53]
      refine ⟨⟨by omega, by omega⟩, ?_⟩
      have hol : out.length = i := by rw [hout]; simp; omega
      simp
      have e : out.map cRec ++ [[V.int .u64 ((l[i].lsn : Nat) : Int), V.int .i64 l[i].kind, V.int .u64 ((l[i].txn : Nat) : Int), V.int .u64 ((l[i].back : Nat) : Int), V.int .i64 l[i].page, V.int .i64 l[i].slot, V.sl .unk 1 (List.take 53 (l[i].old.map c8)) [], V.sl .unk 1 (List.take 53 (l[i].new.map c8)) [], V.int .u64 ((l[i].next : Nat) : Int)]] = (out ++ [cutR l[i]]).map cRec := by
        rw [List.map_append, ← List.map_take, ← List.map_take]; rfl
      rw [e]
      exact ⟨by omega, l.length - (i + 1), by omega, GhostV.keep (L := [_]) ⟨i + 1, _, _, out ++ [cutR l[i]], rfl, by omega, by omega, by rw [take_snoc hlt, List.map_append, ← hout]; rfl, by simp, by rw [wadd1 (by omega)], rfl⟩⟩
  · simp [hlt]
    exact fin (M := []) (by rw [hout]; unfold recordsL; rw [List.take_of_length_le (by omega), List.take_of_length_le (by omega)])

/-- The chapter's records, its page, and what comes of them. -/
def firstL : List RecT := [⟨1, 1, 1, 0, 0, 0, [], [7], 0⟩, ⟨2, 1, 2, 0, 0, 1, [], [8], 0⟩, ⟨3, 3, 1, 1, 0, 0, [], [], 0⟩]
theorem firstW : rowW firstL := by
  intro r hr
  simp only [firstL, List.mem_cons, List.not_mem_nil, or_false] at hr
  rcases hr with rfl | rfl | rfl <;> simp [recW]
end Go.Proofs.Ytmbhgjekjpkigaa.AM

namespace Go.Proofs.Ytmbhgjekjpkigaa.AM
open Go
set_option linter.unusedVariables false
set_option linter.unusedSimpArgs false
variable {P : Program}

/-- An array that is written no more: of an object's cells, one that held it becomes a row of values. -/
theorem OFrz.set {ver sz s id off len i j : Nat} {es rows : List (List V)} {row : List V} (hr : rows[i]? = some row) (hc : row[j]? = some (.msl id ver off len)) (h : off + len ≤ es.length) :
    OFrz ver sz es (.mem s rows) (.mem s (rows.set i (row.set j (.sl .unk sz ((es.drop off).take len) ((es.drop off).drop len))))) := by
  have hi : i < rows.length := (List.getElem?_eq_some_iff.1 hr).1
  have hj : j < row.length := (List.getElem?_eq_some_iff.1 hc).1
  have hre : rows[i] = row := (List.getElem?_eq_some_iff.1 hr).2
  refine .inr ⟨s, rows, _, rfl, rfl, by simp, fun k hk => ?_, fun k q hk => ?_⟩
  · by_cases e : i = k
    · subst e; simp [List.getD, hi, hre]
    · simp [List.getD, List.getElem?_set_ne e]
  · by_cases e : i = k
    · subst e
      by_cases e2 : j = q
      · subst e2
        have e1 : ((rows.getD i []).getD j .junk) = .msl id ver off len := by simp [List.getD, hr, hc]
        have e3 : (((rows.set i (row.set j (.sl .unk sz ((es.drop off).take len) ((es.drop off).drop len)))).getD i []).getD j .junk) = .sl .unk sz ((es.drop off).take len) ((es.drop off).drop len) := by simp [List.getD, hi, hj]
        rw [e1, e3]
        exact .msl id off len h
      · have : (((rows.set i (row.set j (.sl .unk sz ((es.drop off).take len) ((es.drop off).drop len)))).getD i []).getD q .junk) = ((rows.getD i []).getD q .junk) := by simp [List.getD, hi, hre, List.getElem?_set_ne e2]
        rw [this]; exact .refl _
    · have : ((rows.set i (row.set j (.sl .unk sz ((es.drop off).take len) ((es.drop off).drop len)))).getD k []) = rows.getD k [] := by simp [List.getD, List.getElem?_set_ne e]
      rw [this]; exact .refl _
theorem GhostV.frzO {L : List (Option (Nat × Obj))} {nv b id ver vb sz s off len i j : Nat} {es rows : List (List V)} {row : List V} {vs : List V} {K : List V → St → Prop} (hb : b ≠ id) (hB : L[b]? = some (some (vb, .mem s rows))) (ho : L[id]? = some (some (ver, .mem sz es))) (hr : rows[i]? = some row) (hc : row[j]? = some (.msl id ver off len)) (h : off + len ≤ es.length)
    (hk : GhostV vs ⟨(L.set id none).set b (some (vb, .mem s (rows.set i (row.set j (.sl .unk sz ((es.drop off).take len) ((es.drop off).drop len)))))), nv⟩ K) : GhostV vs ⟨L, nv⟩ K := by
  have hbl : b < L.length := (List.getElem?_eq_some_iff.1 hB).1
  have hil : id < L.length := (List.getElem?_eq_some_iff.1 ho).1
  refine GhostV.trans (K := fun vs' st' => vs' = vs ∧ st' = ⟨(L.set id none).set b (some (vb, .mem s (rows.set i (row.set j (.sl .unk sz ((es.drop off).take len) ((es.drop off).drop len)))))), nv⟩) ?_ (by rintro _ _ ⟨rfl, rfl⟩; exact hk)
  refine GhostV.freeze (vs' := vs) (st' := ⟨(L.set id none).set b (some (vb, .mem s (rows.set i (row.set j (.sl .unk sz ((es.drop off).take len) ((es.drop off).drop len)))))), nv⟩) (id := id) (ver := ver) (sz := sz) (es := es) (by simp [St.get, ho]) (by rfl) rfl (fun i => .refl _) (fun id1 ver1 o1 h1 => ?_) ⟨rfl, rfl⟩
  simp only at h1 ⊢
  by_cases e : b = id1
  · subst e
    rw [List.getElem?_set_self (by simpa using hbl)] at h1
    simp only [Option.some.injEq, Prod.mk.injEq] at h1
    obtain ⟨rfl, rfl⟩ := h1
    exact ⟨hb, _, hB, OFrz.set hr hc h⟩
  · rw [List.getElem?_set_ne e] at h1
    by_cases e2 : id = id1
    · subst e2
      rw [List.getElem?_set_self hil] at h1; cases h1
    · rw [List.getElem?_set_ne e2] at h1
      exact ⟨fun q => e2 q.symm, o1, h1, .inl rfl⟩
theorem nRows_le {rows rows' : List (List V)} {sz : Nat} (hl : rows.length = rows'.length) (hr : ∀ i, i < rows.length → (rows.getD i []).length = (rows'.getD i []).length) (h : ∀ i j, i < rows.length → LeV ((rows.getD i []).getD j .junk) ((rows'.getD i []).getD j .junk)) : LeV (.sl .unk sz rows []) (.sl .unk sz rows' []) := .sl .unk sz rows rows' [] hl hr h
set_option maxHeartbeats 2000000 in
theorem First_R (h : RLawR P) : PCalls P n_gazetteerlaw12_first [] (fun v => v = .sl .unk 9 (firstL.map cRec) []) := by
  refine A_gazetteerlaw12_first h.first ?_
  unfold F_gazetteerlaw12_first
  simp [st0]
  refine GhostV.frzO (b := 2) (id := 0) (i := 0) (j := 7) (by decide) rfl rfl rfl rfl (by simp) ?_
  refine GhostV.frzO (b := 2) (id := 1) (i := 1) (j := 7) (by decide) rfl rfl rfl rfl (by simp) ?_
  refine GhostV.trans (K := fun vs st => vs = [.sl .unk 9 [[V.int .u64 1, .int .i64 1, .int .u64 1, .int .u64 0, .int .i64 0, .int .i64 0, .sl .nil 0 [] [], vB [7], .int .u64 0], [V.int .u64 2, .int .i64 1, .int .u64 2, .int .u64 0, .int .i64 0, .int .i64 1, .sl .nil 0 [] [], vB [8], .int .u64 0], [V.int .u64 3, .int .i64 3, .int .u64 1, .int .u64 1, .int .i64 0, .int .i64 0, .sl .nil 0 [] [], .sl .nil 0 [] [], .int .u64 0]] []]) (GhostV.rowx (id := 2) rfl (by simp) (by simp)) ?_
  rintro _ st rfl
  refine GhostV.le (LeVs.cons (nRows_le (rows' := firstL.map cRec) rfl (fun i hi => ?_) (fun i j hi => ?_)) (LeVs.refl _)) ⟨by simp [V.pure, pureL, pureLL, firstL], by simp⟩
  · simp only [List.length_cons, List.length_nil] at hi
    rcases (by omega : i = 0 ∨ i = 1 ∨ i = 2) with rfl | rfl | rfl <;> rfl
  · simp only [List.length_cons, List.length_nil] at hi
    rcases (by omega : i = 0 ∨ i = 1 ∨ i = 2) with rfl | rfl | rfl
    all_goals
      match j with
      | 0 => exact .refl _
      | 1 => exact .refl _
      | 2 => exact .refl _
      | 3 => exact .refl _
      | 4 => exact .refl _
      | 5 => exact .refl _
      | 6 => exact .nil _ _
      | 7 => first | exact .refl _ | exact .nil _ _
      | 8 => exact .refl _
      | j + 9 => exact .refl _

theorem txns_first : txnsL firstL = [1, 2] := by
  refine rise_ext (txnsL_rise _) (by decide) (fun x => ?_)
  rw [mem_txnsL]
  constructor
  · rintro ⟨r, hr, rfl⟩
    simp only [firstL, List.mem_cons, List.not_mem_nil, or_false] at hr
    rcases hr with rfl | rfl | rfl <;> simp
  · intro hx
    simp only [List.mem_cons, List.not_mem_nil, or_false] at hx
    rcases hx with rfl | rfl
    · exact ⟨⟨1, 1, 1, 0, 0, 0, [], [7], 0⟩, by simp [firstL], rfl⟩
    · exact ⟨⟨2, 1, 2, 0, 0, 1, [], [8], 0⟩, by simp [firstL], rfl⟩
theorem open_first : openL firstL = [⟨2, 2, 2⟩] := by
  unfold openL
  rw [txns_first]
  decide
theorem all_first : allP [zeroP] firstL 4 = ([⟨0, 4, [7], [], [], []⟩], [⟨4, 2, 2, 2, 0, 1, [], [], 0⟩, ⟨5, 4, 2, 4, 0, 0, [], [], 0⟩], 0) := by
  unfold allP
  rw [open_first]
  decide

theorem zPage_le : LeV (.sl .unk 6 [zCells] []) (.sl .unk 6 ([zeroP].map cPage) []) := by
  refine nRows_le (rows := [zCells]) (rows' := [zeroP].map cPage) rfl (fun i hi => ?_) (fun i j hi => ?_)
  · obtain rfl : i = 0 := by simpa using hi
    rfl
  · obtain rfl : i = 0 := by simpa using hi
    match j with
    | 0 => exact .refl _
    | 1 => exact .refl _
    | 2 => exact .nil _ _
    | 3 => exact .nil _ _
    | 4 => exact .nil _ _
    | 5 => exact .nil _ _
    | j + 6 => exact .refl _
set_option maxHeartbeats 2000000 in
theorem Wakes_R (h : RLawR P) : PCalls P n_gazetteerlaw12_wakes [] (fun v => v = .bool true) := by
  refine A_gazetteerlaw12_wakes h.wakes ?_
  unfold F_gazetteerlaw12_wakes
  simp [st0]
  refine inv_p (First_R h) rfl rfl ?_
  rintro _ rfl
  simp
  have hall := All_R h.toAllR [zeroP] firstL 4 (by simp) (by simp [firstL]) firstW (by omega)
  refine inv_f0 (ACalls.gv hall.1 (GhostV.trans (K := fun vs st => vs = [.sl .unk 6 [zCells] [], .sl .unk 9 (firstL.map cRec) [], .int .u64 4]) (GhostV.rowx (id := 0) rfl (by simp) (by simp)) ?_))
  rintro _ st rfl
  refine GhostV.le (LeVs.cons zPage_le (LeVs.refl _)) ?_
  refine hall.at (by simp [V.pure, pureL, pureLL]) ?_
  rintro _ rfl
  simp [redoAllR, all_first, offV]
  exact GhostV.refl ⟨rfl, rfl⟩
end Go.Proofs.Ytmbhgjekjpkigaa.AM

namespace Go.Proofs.Ytmbhgjekjpkigaa.AM
open Go
set_option linter.unusedVariables false
set_option linter.unusedSimpArgs false
variable {P : Program}

def recN (r : RecT) : Prop := r.lsn < 2 ^ 64 ∧ r.txn < 2 ^ 64 ∧ r.back < 2 ^ 64 ∧ r.next < 2 ^ 64
theorem recordsW {l : List RecT} (h : ∀ r ∈ l, recN r) : rowW (recordsL l) := by
  intro r hr
  obtain ⟨q, hq, rfl⟩ := List.mem_map.1 hr
  obtain ⟨h1, h2, h3, h4⟩ := h q (List.mem_of_mem_take hq)
  exact ⟨h1, h2, h3, h4, by simp [cutR]; omega, by simp [cutR]; omega⟩
theorem recordsL_len (l : List RecT) : (recordsL l).length ≤ 65 := by simp [recordsL]; omega
end Go.Proofs.Ytmbhgjekjpkigaa.AM
