/- pred: what the statements need, walked. -/
import Derived.Test.YtmgkjbphlbpbfaaPA
namespace Go.Proofs.Ytmgkjbphlbpbfaa.AM
open Go
set_option linter.unusedVariables false
set_option linter.unusedSimpArgs false
variable {P : Program}

structure SplT where
  (old new : Nat)
  root : Bool
@[simp] def cSpl (x : SplT) : List V := [.int .u32 x.old, .int .u32 x.new, .bool x.root]
@[simp] theorem p_spl (l : List SplT) : pureLL (l.map cSpl) = true := pureLL_map (fun _ => rfl) l
def fIdxS (p : SplT → Bool) (l : List SplT) : Int := match l.findIdx? p with | some i => i | none => -1
def IdxSI (p : SplT → Bool) (l : List SplT) (k : Nat) (v : V) (st : St) : Prop := ∃ i nv, k = l.length - i ∧ i ≤ l.length ∧ v = .int .i64 i ∧ st = ⟨[], nv⟩ ∧ ∀ x ∈ l.take i, p x = false

theorem IndexSpl (hR : R_slices_IndexFunc_Split_Split P) {k : FuncId} {first cap : List V} {p : SplT → Bool} (l : List SplT) (hl : l.length < 2 ^ 43) (h1 : pureL first = true) (h2 : pureL cap = true)
    (hf : ∀ x, PCalls P k (first ++ [.agg (cSpl x)] ++ cap) (fun r => r = .bool (p x))) : PCalls P n_slices_IndexFunc_Split_Split [.sl .unk 3 (l.map cSpl) [], .fn (.func k) first cap] (fun r => r = .int .i64 (fIdxS p l)) := by
  refine A_slices_IndexFunc_Split_Split hR ?_
  unfold F_slices_IndexFunc_Split_Split
  simp [st0]
  refine ⟨IdxSI p l, ⟨l.length, GhostV.refl ⟨0, 0, by simp, by simp, by simp, by simp, by simp⟩⟩, ?_⟩
  rintro k1 v8 st ⟨i, nv, rfl, hi, rfl, rfl, hn⟩
  by_cases hlt : i < l.length
  · simp [hlt]
    refine inv_p (hf l[i]) (by simp) (by simp [pureL_append, h1, h2, pureL]) ?_
    rintro _ rfl
    cases hp : p l[i]
    · have e2 : IntKind.i64.wrap ((i : Int) + 1) = ((i + 1 : Nat) : Int) := by rw [wrap_i64 (by omega)]; omega
      simp
      exact ⟨l.length - (i + 1), by omega, GhostV.refl ⟨i + 1, nv, rfl, by omega, by rw [e2], rfl, fun x hx => by
        rw [take_snoc hlt, List.mem_append] at hx
        rcases hx with hx | hx
        · exact hn x hx
        · obtain rfl : x = l[i] := by simpa using hx
          exact hp⟩⟩
    · simp
      refine GhostV.refl ⟨rfl, ?_⟩
      have : l.findIdx? p = some i := by
        rw [List.findIdx?_eq_some_iff_getElem]
        exact ⟨hlt, hp, fun j hj => by
          have := hn l[j] (List.mem_take_iff_getElem.2 ⟨j, by omega, rfl⟩)
          simp [this]⟩
      simp [fIdxS, this]
  · simp [hlt]
    refine GhostV.refl ⟨rfl, ?_⟩
    have : l.findIdx? p = none := by
      rw [List.findIdx?_eq_none_iff]
      rwa [List.take_of_length_le (by omega)] at hn
    simp [fIdxS, this]


structure SplR (P : Program) : Prop extends MeetR P where
  idxs : R_slices_IndexFunc_Split_Split P
  cons : R_slices_ContainsFunc_Split_Split P
  sp1 : R_pred_Split_1 P
  sp2 : R_pred_Split_2 P
  spl : R_pred_Split P

def badS (x : SplT) : Bool := decide (x.old = 0) || decide (x.new = 0)
theorem Split_1 (h : SplR P) (x : SplT) : PCalls P n_pred_Split_1 ([] ++ [.agg (cSpl x)] ++ []) (fun r => r = .bool (badS x)) := by
  refine A_pred_Split_1 h.sp1 ?_
  unfold F_pred_Split_1
  simp [st0]
  by_cases h1 : x.old = 0
  · simp [h1]
    exact GhostV.refl ⟨rfl, by simp [badS, h1]⟩
  · simp [h1]
    exact GhostV.refl ⟨rfl, by simp [badS, h1]⟩
theorem fIdxS_pos {p : SplT → Bool} {l : List SplT} : decide (0 ≤ fIdxS p l) = l.any p := by
  unfold fIdxS
  cases hf : l.findIdx? p with
  | none =>
    rw [List.findIdx?_eq_none_iff] at hf
    have : l.any p = false := by rw [List.any_eq_false]; intro x hx; simp [hf x hx]
    simp [this]
  | some i =>
    obtain ⟨h1, h2, _⟩ := List.findIdx?_eq_some_iff_getElem.1 hf
    have : l.any p = true := List.any_eq_true.2 ⟨l[i], List.getElem_mem h1, h2⟩
    rw [this]
    simp
theorem ContainsSpl (h : SplR P) (l : List SplT) (hl : l.length < 2 ^ 40) : PCalls P n_slices_ContainsFunc_Split_Split [.sl .unk 3 (l.map cSpl) [], .fn (.func n_pred_Split_1) [] []] (fun r => r = .bool (l.any badS)) := by
  refine A_slices_ContainsFunc_Split_Split h.cons ?_
  unfold F_slices_ContainsFunc_Split_Split
  simp [st0]
  refine inv_p (IndexSpl h.idxs (first := []) (cap := []) (p := badS) l (by omega) rfl rfl (fun x => Split_1 h x)) rfl (by simp [pureL, pureLL]) ?_
  rintro _ rfl
  simp
  exact GhostV.refl ⟨rfl, by simp [fIdxS_pos]⟩

def spStep (s : SplT) (root : Nat) (acc : List PredT) (x : PredT) : List PredT :=
  if s.root then withP (withP acc { x with node := s.new }) { x with node := root } else withP acc { x with node := s.new }
def spOne (root : Nat) (acc : List PredT) (s : SplT) : List PredT := (atN acc s.old).foldl (spStep s root) acc
def splitS (l : List PredT) (sp : List SplT) (root : Nat) : List PredT := sp.foldl (spOne root) l
theorem spStep_srt {s : SplT} {root : Nat} {acc : List PredT} {x : PredT} (h : Srt acc) : Srt (spStep s root acc x) := by
  unfold spStep; split
  · exact h.withP.withP
  · exact h.withP
theorem spStep_len {s : SplT} {root : Nat} {acc : List PredT} {x : PredT} : (spStep s root acc x).length ≤ acc.length + 2 := by
  unfold spStep; split
  · have h1 := withP_len (l := withP acc { x with node := s.new }) (x := { x with node := root })
    have h2 := withP_len (l := acc) (x := { x with node := s.new })
    omega
  · have h2 := withP_len (l := acc) (x := { x with node := s.new })
    omega
theorem foldl_take {α β : Type} {f : β → α → β} {l : List α} {b : β} {j : Nat} (h : j < l.length) : (l.take (j + 1)).foldl f b = f ((l.take j).foldl f b) l[j] := by
  rw [take_snoc h, List.foldl_append]; rfl

def SpJ (B R : List (Option (Nat × Obj))) (i o vo : Nat) (s : SplT) (root : Nat) (acc ys : List PredT) (k : Nat) (v : V) (st : St) : Prop :=
  ∃ j va nv cur, k = ys.length - j ∧ j ≤ ys.length ∧ v = .int .i64 ((j : Nat) : Int) ∧ cur = (ys.take j).foldl (spStep s root) acc ∧ Srt cur ∧ cur.length ≤ acc.length + 2 * j ∧ st = ⟨outB B i o vo va cur ++ R, nv⟩
def SpI (B : List (Option (Nat × Obj))) (i o vo : Nat) (sp : List SplT) (root : Nat) (l : List PredT) (k : Nat) (v : V) (st : St) : Prop :=
  ∃ t va nv cur, k = sp.length - t ∧ t ≤ sp.length ∧ v = .int .i64 ((t : Nat) : Int) ∧ cur = (sp.take t).foldl (spOne root) l ∧ Srt cur ∧ cur.length ≤ 512 * 3 ^ t ∧ st = ⟨outB B i o vo va cur, nv⟩
theorem pow3 {t : Nat} (h : t ≤ 12) : 512 * 3 ^ t ≤ 272097792 := by
  have : 3 ^ t ≤ 3 ^ 12 := Nat.pow_le_pow_right (by decide) h
  have e : (3 : Nat) ^ 12 = 531441 := by decide
  omega

set_option maxHeartbeats 2000000 in
theorem Split_2 (h : SplR P) {L : List (Option (Nat × Obj))} {j vj r vr : Nat} {l : List PredT} {sp : List SplT} {root : Nat} (hj : L[j]? = some (some (vj, .mem 1 [[.sl .unk 3 (sp.map cSpl) []]]))) (hr : L[r]? = some (some (vr, .mem 1 [[.int .u32 root]])))
    (hs : Srt l) (hl : l.length ≤ 512) (hsp : sp.length ≤ 12) : DoesOk P n_pred_Split_2 [.ptr j vj 0 0, .ptr r vr 0 0] L l (splitS l sp root) := by
  intro B vo va nv K hB hBj hk
  have hjl : j < L.length := (List.getElem?_eq_some_iff.1 hj).1
  have hrl : r < L.length := (List.getElem?_eq_some_iff.1 hr).1
  obtain ⟨i, hi⟩ : ∃ i, i = L.length + 2 := ⟨_, rfl⟩
  obtain ⟨o, ho⟩ : ∃ o, o = L.length + 3 := ⟨_, rfl⟩
  rw [← hi, ← ho] at hk ⊢
  have hiB : i < B.length := by omega
  have hoB : o < B.length := by omega
  have hio : i ≠ o := by omega
  have gj : ∀ va l' R, (outB B i o vo va l' ++ R)[j]? = some (some (vj, .mem 1 [[.sl .unk 3 (sp.map cSpl) []]])) := fun va l' R => by
    rw [List.getElem?_append_left (by simp; omega), outB_j (by omega) (by omega), hBj j hjl]; exact hj
  have gr : ∀ va l' R, (outB B i o vo va l' ++ R)[r]? = some (some (vr, .mem 1 [[.int .u32 root]])) := fun va l' R => by
    rw [List.getElem?_append_left (by simp; omega), outB_j (by omega) (by omega), hBj r hrl]; exact hr
  have go : ∀ va l' R, (outB B i o vo va l' ++ R)[o]? = some (some (vo, .mem 1 [[.msl i va 0 l'.length]])) := fun va l' R => by
    rw [List.getElem?_append_left (by simp; omega)]; exact outB_o hoB
  have gi : ∀ va l' R, (outB B i o vo va l' ++ R)[i]? = some (some (va, .mem 6 (l'.map cPred))) := fun va l' R => by
    rw [List.getElem?_append_left (by simp; omega)]; exact outB_i hiB hio
  refine A_pred_Split_2 h.sp2 ?_
  unfold F_pred_Split_2
  have gj0 := gj va l []
  rw [List.append_nil] at gj0
  simp [gj0]
  refine ⟨SpI B i o vo sp root l, ⟨sp.length, GhostV.refl ⟨0, va, nv, l, by simp, by simp, by simp, by simp, hs, by simpa using hl, rfl⟩⟩, ?_⟩
  rintro k1 v12 st ⟨t, va1, nv1, acc, rfl, ht, rfl, hacc, hsa, hla, rfl⟩
  by_cases hlt : t < sp.length
  · have hp3 := pow3 (t := t) (by omega)
    have go1 := go va1 acc
    simp [hlt, go1]
    obtain ⟨s, hsS⟩ : ∃ s, s = sp[t] := ⟨_, rfl⟩
    rw [← hsS]
    refine inv_f0 (at_P h.toIterPR (rv := .msl i va1 0 acc.length) rfl ?_)
    simp
    refine inv_f0 (Collect_P h.toIterPR (L := outB B i o vo va1 acc ++ [some (nv1, .mem 3 [cSpl s]), some (nv1 + 1, .mem 1 [[.msl i va1 0 acc.length]]), some (nv1 + 1 + 1, .mem 1 [[.int .u32 s.old]])]) (fun M => ?_) (at_iterM h.toIterPR acc s.old (by omega) (d := i) (va := va1)) ?_ ?_)
    · refine ⟨?_, ?_, ?_⟩
      · rw [List.append_assoc, List.getElem?_append_right (by simp)]; simp
      · rw [List.append_assoc, List.getElem?_append_right (by simp; omega)]; simp [show B.length + 1 + 1 - B.length = 2 by omega]
      · rw [List.append_assoc]; exact gi _ _ _
    · intro ys rest hd
      have h1 := atN_le (l := acc) (n := s.old)
      rw [← hd] at h1; simp at h1; omega
    intro ys va2 nv2 M hys hM3 hM
    have hyl : ys.length ≤ acc.length := by rw [hys]; exact atN_le
    obtain ⟨R, hR⟩ : ∃ R, R = [some (nv1, Obj.mem 3 [cSpl s]), some (nv1 + 1, Obj.mem 1 [[.msl i va1 0 acc.length]]), some (nv1 + 1 + 1, Obj.mem 1 [[.int .u32 s.old]])] ++ M := ⟨_, rfl⟩
    have hRl : R.length = 6 := by rw [hR]; simp [hM3]
    have hix : (outB B i o vo va1 acc ++ [some (nv1, Obj.mem 3 [cSpl s]), some (nv1 + 1, Obj.mem 1 [[.msl i va1 0 acc.length]]), some (nv1 + 1 + 1, Obj.mem 1 [[.int .u32 s.old]])]).length + 2 = B.length + 5 := by simp
    rw [hix, List.append_assoc, ← hR]
    have gc : ∀ va l' S, (outB B i o vo va l' ++ R ++ S)[B.length + 5]? = some (some (va2, .mem 6 (ys.map cPred))) := fun va l' S => by
      rw [List.append_assoc, List.getElem?_append_right (by simp), List.getElem?_append_left (by simp [hRl]), hR]; simp [hM]
    have gs : ∀ va l' S, (outB B i o vo va l' ++ R ++ S)[B.length]? = some (some (nv1, .mem 3 [cSpl s])) := fun va l' S => by
      rw [List.append_assoc, List.getElem?_append_right (by simp), List.getElem?_append_left (by simp [hRl]), hR]; simp
    simp
    refine ⟨SpJ B R i o vo s root acc ys, ⟨ys.length, GhostV.refl ⟨0, va1, nv2, acc, by simp, by simp, by simp, by simp, hsa, by omega, rfl⟩⟩, ?_⟩
    rintro k2 v24 st ⟨q, va3, nv3, cur, rfl, hq, rfl, hcur, hsc, hlc, rfl⟩
    by_cases hlq : q < ys.length
    · obtain ⟨W, hW⟩ : ∃ W, W = outB B i o vo va3 cur ++ R := ⟨_, rfl⟩
      have gcW : ∀ S, (W ++ S)[B.length + 5]? = some (some (va2, .mem 6 (ys.map cPred))) := fun S => by rw [hW]; exact gc _ _ _
      have gsW : ∀ S, (W ++ S)[B.length]? = some (some (nv1, .mem 3 [cSpl s])) := fun S => by rw [hW]; exact gs _ _ _
      have gcW0 := gcW []
      rw [List.append_nil] at gcW0
      rw [← hW]
      simp [hlq, gcW0, gsW]
      obtain ⟨x1, hx1⟩ : ∃ x1 : PredT, x1 = { ys[q] with node := s.new } := ⟨_, rfl⟩
      obtain ⟨cell, hcell⟩ : ∃ cell, cell = some (nv3, Obj.mem 6 [cPred x1]) := ⟨_, rfl⟩
      have att := attach_out h.toAttR (B := B) (R := R ++ [cell]) (nv := nv3 + 1) (i := i) (o := o) (va := va3) (vo := vo) (l := cur) (x := x1) hiB hoB hio hsc (by omega)
        (K := fun r st => ∃ va' nv', r = .tup [] ∧ st = ⟨outB B i o vo va' (withP cur x1) ++ (R ++ [cell]), nv'⟩) (fun va' nv' => ⟨va', nv', rfl, rfl⟩)
      rw [← List.append_assoc, ← hW, hcell, hx1] at att
      refine inv_fn (first := []) (ACalls.mono ?_ att)
      rintro _ _ ⟨va', nv', rfl, rfl⟩
      rw [← hx1]
      obtain ⟨W', hW'⟩ : ∃ W', W' = outB B i o vo va' (withP cur x1) ++ R := ⟨_, rfl⟩
      have hWl : W.length = W'.length := by simp [hW, hW']
      have gsW' : ∀ S, (W' ++ S)[B.length]? = some (some (nv1, .mem 3 [cSpl s])) := fun S => by rw [hW']; exact gs _ _ _
      have grW' : ∀ S, (W' ++ S)[r]? = some (some (vr, .mem 1 [[.int .u32 root]])) := fun S => by rw [hW', List.append_assoc]; exact gr _ _ _
      rw [← List.append_assoc, ← hW', hWl]
      have hnext := foldl_take (f := spStep s root) (b := acc) hlq
      rw [← hcur] at hnext
      have hsc1 : Srt (withP cur x1) := hsc.withP
      have hl1 := withP_len (l := cur) (x := x1)
      cases hrt : s.root
      · simp [gsW', hrt]
        have e : spStep s root cur ys[q] = withP cur x1 := by rw [spStep, hrt, hx1]; rfl
        rw [e] at hnext
        exact ⟨ys.length - (q + 1), by omega, GhostV.keep ⟨q + 1, va', nv', withP cur x1, rfl, by omega, by rw [wadd1 (by omega)], hnext.symm, hsc1, by omega, by rw [hW']⟩⟩
      · simp [gsW', grW', hrt, hx1]
        obtain ⟨x2, hx2⟩ : ∃ x2 : PredT, x2 = { ys[q] with node := root } := ⟨_, rfl⟩
        have att2 := attach_out h.toAttR (B := B) (R := R ++ [some (nv3, Obj.mem 6 [cPred x2])]) (nv := nv') (i := i) (o := o) (va := va') (vo := vo) (l := withP cur x1) (x := x2) hiB hoB hio hsc1 (by omega)
          (K := fun r st => ∃ va' nv', r = .tup [] ∧ st = ⟨outB B i o vo va' (withP (withP cur x1) x2) ++ (R ++ [some (nv3, Obj.mem 6 [cPred x2])]), nv'⟩) (fun va' nv' => ⟨va', nv', rfl, rfl⟩)
        rw [← List.append_assoc, ← hW', hx2] at att2
        refine inv_fn (first := []) (ACalls.mono ?_ att2)
        rintro _ _ ⟨va'', nv'', rfl, rfl⟩
        rw [← hx2, ← List.append_assoc]
        simp
        have e : spStep s root cur ys[q] = withP (withP cur x1) x2 := by rw [spStep, hrt, hx1, hx2]; rfl
        rw [e] at hnext
        have hl2 := withP_len (l := withP cur x1) (x := x2)
        rw [← List.append_assoc]
        exact ⟨ys.length - (q + 1), by omega, GhostV.keep ⟨q + 1, va'', nv'', withP (withP cur x1) x2, rfl, by omega, by rw [wadd1 (by omega)], hnext.symm, hsc1.withP, by omega, rfl⟩⟩
    · simp [hlq]
      rw [List.take_of_length_le (by omega)] at hcur
      have hnext := foldl_take (f := spOne root) (b := l) hlt
      rw [← hacc, ← hsS] at hnext
      have e : spOne root acc s = cur := by rw [spOne, ← hys, hcur]
      rw [e] at hnext
      have hlc2 : cur.length ≤ 512 * 3 ^ (t + 1) := by
        rw [Nat.pow_succ]; omega
      exact ⟨sp.length - (t + 1), by omega, GhostV.keep ⟨t + 1, va3, nv3, cur, rfl, by omega, by rw [wadd1 (by omega)], hnext.symm, hsc, hlc2, rfl⟩⟩
  · simp [hlt]
    rw [List.take_of_length_le (by omega)] at hacc
    subst hacc
    exact GhostV.refl (hk _ _)
end Go.Proofs.Ytmgkjbphlbpbfaa.AM

namespace Go.Proofs.Ytmgkjbphlbpbfaa.AM
open Go
set_option linter.unusedVariables false
set_option linter.unusedSimpArgs false
variable {P : Program}

def splR (l : List PredT) (sp : List SplT) (root : Nat) : V := if rightP l then (if sp.any badS || decide (root = 0) then .tup [vP [], .int .i64 2] else changeR (splitS l sp root)) else .tup [vP [], .int .i64 250]
theorem Split_P (h : SplR P) (l : List PredT) (sp : List SplT) (root : Nat) (hl : l.length < 2 ^ 40) (hsp : sp.length ≤ 12) :
    PCalls P n_pred_Split [vP l, .sl .unk 3 (sp.map cSpl) [], .int .u32 root] (fun r => r = splR l sp root) := by
  refine A_pred_Split h.spl ?_
  unfold F_pred_Split
  simp [st0, vP]
  refine inv_p (ContainsSpl h sp (by omega)) rfl (by simp [pureL, pureLL]) ?_
  rintro _ rfl
  simp
  refine inv_p (pCheck h.toBoxR l hl) rfl (by simp [pureL, pureLL]) ?_
  rintro _ rfl
  cases hr : rightP l
  · simp [splR, hr, vP]
    exact nilG
  cases hb : sp.any badS
  · by_cases h0 : root = 0
    · simp [splR, hr, hb, h0, vP]
      exact nilG
    · simp [h0]
      refine inv_f0 (change_ok h.toChgR hl (Split_2 h (sp := sp) (root := root) (by simp) (by simp) (rightP_iff.1 hr).2.2 (rightP_iff.1 hr).1 hsp) (fun nv' => ?_))
      by_cases hc : 512 < (splitS l sp root).length
      · simp [hc, vP]
        exact GhostV.refl ⟨by simp [V.pure, pureL, pureLL], by simp [splR, hr, hb, h0, changeR, hc, vP]⟩
      · simp [hc, vP]
        exact GhostV.refl ⟨by simp [V.pure, pureL, pureLL], by simp [splR, hr, hb, h0, changeR, hc, vP]⟩
  · simp [splR, hr, hb, vP]
    exact nilG

structure LawR15 (P : Program) : Prop extends SplR P where
  copied : R_gazetteerlaw15_copied P
  told : R_gazetteerlaw15_told P
  eq : R_slices_Equal_Pred_Pred P
  same : R_pred_Same P
  rsame : R_gazetteerref15_Same P
  rwith : R_gazetteerref15_With P
  rwo : R_gazetteerref15_Without P
  rcopied : R_gazetteerref15_Copied P
  wakes : R_gazetteerlaw15_wakes P

theorem Copied15 (h : LawR15 P) (l : List PredT) (hl : l.length < 2 ^ 40) : PCalls P n_gazetteerlaw15_copied [vP l] (fun r => r = vP l) := by
  refine A_gazetteerlaw15_copied h.copied ?_
  unfold F_gazetteerlaw15_copied
  simp [st0, vP]
  refine ⟨by omega, ?_⟩
  refine GhostV.rowaI (L := []) (l := l) (id := 2) (ver := 3) (rows := l.map cPred) (by simp) (by simp) (List.take_of_length_le (by simp)) (by simp) ?_
  exact ⟨by simp [V.pure, pureL, pureLL, vP], by simp [vP]⟩

def SmI (a b : List PredT) (L : List (Option (Nat × Obj))) (k : Nat) (v : V) (st : St) : Prop := ∃ i nv, k = a.length - i ∧ i ≤ a.length ∧ v = .int .i64 ((i : Nat) : Int) ∧ a.take i = b.take i ∧ st = ⟨L, nv⟩
theorem pred_eta {x y : PredT} : (x.node = y.node ∧ x.txn = y.txn ∧ x.k.x0 = y.k.x0 ∧ x.k.x1 = y.k.x1 ∧ x.k.y0 = y.k.y0 ∧ x.k.y1 = y.k.y1) ↔ x = y := by
  obtain ⟨an, at', ⟨ax, ax', ay, ay'⟩⟩ := x
  obtain ⟨bn, bt, ⟨bx, bx', by', by''⟩⟩ := y
  simp only [PredT.mk.injEq, KeyT.mk.injEq]
theorem pred_eqb {x y : PredT} : (decide (x.node = y.node) && (decide (x.txn = y.txn) && (decide (x.k.x0 = y.k.x0) && (decide (x.k.x1 = y.k.x1) && (decide (x.k.y0 = y.k.y0) && decide (x.k.y1 = y.k.y1)))))) = decide (x = y) := by
  rw [Bool.eq_iff_iff]
  simp only [Bool.and_eq_true, decide_eq_true_eq]
  exact pred_eta
theorem pred_neqb {x y : PredT} : (!decide (x.node = y.node) || (!decide (x.txn = y.txn) || (!decide (x.k.x0 = y.k.x0) || (!decide (x.k.x1 = y.k.x1) || (!decide (x.k.y0 = y.k.y0) || !decide (x.k.y1 = y.k.y1)))))) = !decide (x = y) := by
  rw [← pred_eqb]
  simp only [Bool.not_and]
theorem Equal_P (h : LawR15 P) (a b : List PredT) (ha : a.length < 2 ^ 40) : PCalls P n_slices_Equal_Pred_Pred [.sl .unk 6 (a.map cPred) [], .sl .unk 6 (b.map cPred) []] (fun r => r = .bool (decide (a = b))) := by
  refine A_slices_Equal_Pred_Pred h.eq ?_
  unfold F_slices_Equal_Pred_Pred
  simp [st0]
  by_cases hlen : a.length = b.length
  · simp [hlen]
    refine ⟨SmI a b [], ⟨a.length, GhostV.refl ⟨0, 0, by simp, by simp, by simp, by simp, rfl⟩⟩, ?_⟩
    rintro k v st ⟨i, nv, rfl, hi, rfl, hn, rfl⟩
    by_cases hlt : i < b.length
    · have hla : i < a.length := by omega
      simp [hlt, hla]
      by_cases he : a[i] = b[i]
      · simp [he]
        exact ⟨b.length - (i + 1), by omega, GhostV.refl ⟨i + 1, nv, by rw [hlen], by omega, by rw [wadd1 (by omega)], by rw [take_snoc hla, take_snoc hlt, hn, he], rfl⟩⟩
      · rw [pred_neqb]
        simp [he]
        exact GhostV.refl ⟨rfl, by simp; intro e; subst e; exact he rfl⟩
    · simp [hlt]
      rw [List.take_of_length_le (by omega), List.take_of_length_le (by omega)] at hn
      exact GhostV.refl ⟨rfl, by simp [hn]⟩
  · simp [hlen]
    exact GhostV.refl ⟨rfl, by simp; intro e; exact hlen (by rw [e])⟩
theorem Same_P (h : LawR15 P) (a b : List PredT) (ha : a.length < 2 ^ 40) : PCalls P n_pred_Same [vP a, vP b] (fun r => r = .bool (decide (a = b))) := by
  refine A_pred_Same h.same ?_
  unfold F_pred_Same
  simp [st0, vP]
  refine inv_p (Equal_P h a b ha) rfl (by simp [pureL, pureLL]) ?_
  rintro _ rfl
  exact GhostV.refl ⟨rfl, rfl⟩
theorem rSame15 (h : LawR15 P) (a b : List PredT) (ha : a.length < 2 ^ 40) : PCalls P n_gazetteerref15_Same [vP a, vP b] (fun r => r = .bool (decide (a = b))) := by
  refine A_gazetteerref15_Same h.rsame ?_
  unfold F_gazetteerref15_Same
  simp [st0, vP]
  by_cases hlen : a.length = b.length
  · simp [hlen]
    refine ⟨SmI a b [some (0, .mem 1 [[.sl .unk 6 (a.map cPred) []]]), some (1, .mem 1 [[.sl .unk 6 (b.map cPred) []]])], ⟨a.length, GhostV.refl ⟨0, 2, by simp, by simp, by simp, by simp, rfl⟩⟩, ?_⟩
    rintro k v st ⟨i, nv, rfl, hi, rfl, hn, rfl⟩
    by_cases hlt : i < b.length
    · have hla : i < a.length := by omega
      simp [hlt, hla]
      by_cases he : a[i] = b[i]
      · simp [he]
        exact ⟨b.length - (i + 1), by omega, GhostV.refl ⟨i + 1, nv, by rw [hlen], by omega, by rw [wadd1 (by omega)], by rw [take_snoc hla, take_snoc hlt, hn, he], rfl⟩⟩
      · rw [pred_neqb]
        simp [he]
        exact GhostV.refl ⟨rfl, by simp; intro e; subst e; exact he rfl⟩
    · have hla : ¬ i < a.length := by omega
      simp [hla]
      rw [List.take_of_length_le (by omega), List.take_of_length_le (by omega)] at hn
      exact GhostV.refl ⟨rfl, by simp [hn]⟩
  · simp [hlen]
    exact GhostV.refl ⟨rfl, by simp; intro e; exact hlen (by rw [e])⟩

/-- What 'told' asks of an answer. -/
def toldB (got : List PredT) (e : Int) (ok : Bool) (want : List PredT) : Bool :=
  if !ok then decide (e = 2) && decide (got.length = 0) else if 512 < want.length then decide (e = 6) && decide (got.length = 0) else decide (e = 0) && decide (got = want)
theorem Told15 (h : LawR15 P) (got want : List PredT) (e : Int) (ok : Bool) (hg : got.length < 2 ^ 40) : PCalls P n_gazetteerlaw15_told [vP got, .int .i64 e, .bool ok, vP want] (fun r => r = .bool (toldB got e ok want)) := by
  refine A_gazetteerlaw15_told h.told ?_
  unfold F_gazetteerlaw15_told
  simp [st0, vP]
  cases ok
  · simp
    by_cases h2 : e = 2
    · simp [h2]
      exact GhostV.refl ⟨rfl, by simp [toldB, h2]⟩
    · simp [h2]
      exact GhostV.refl ⟨rfl, by simp [toldB, h2]⟩
  · simp
    by_cases hw : (512 : Int) < (want.length : Int)
    · have hw' : 512 < want.length := by omega
      simp [hw]
      by_cases h2 : e = 6
      · simp [h2]
        exact GhostV.refl ⟨rfl, by simp [toldB, h2, hw']⟩
      · simp [h2]
        exact GhostV.refl ⟨rfl, by simp [toldB, h2, hw']⟩
    · have hw' : ¬ 512 < want.length := by omega
      simp [hw]
      by_cases h2 : e = 0
      · simp [h2]
        refine inv_p (rSame15 h got want hg) rfl (by simp [pureL, pureLL, vP, V.pure]) ?_
        rintro _ rfl
        simp
        exact GhostV.refl ⟨rfl, by simp [toldB, h2, hw']⟩
      · simp [h2]
        exact GhostV.refl ⟨rfl, by simp [toldB, h2, hw']⟩
end Go.Proofs.Ytmgkjbphlbpbfaa.AM

namespace Go.Proofs.Ytmgkjbphlbpbfaa.AM
open Go
set_option linter.unusedVariables false
set_option linter.unusedSimpArgs false
variable {P : Program}

def withL (l : List PredT) (x : PredT) : List PredT := l.takeWhile (fun y => lessP y x) ++ x :: l.dropWhile (fun y => lessP y x)
theorem withP_out {l : List PredT} {x : PredT} (h : x ∉ l) : withP l x = withL l x := by simp [withP, withL, h]
theorem tw_all {p : PredT → Bool} : ∀ {l : List PredT}, (∀ y ∈ l, p y = true) → l.takeWhile p = l ∧ l.dropWhile p = []
  | [], _ => ⟨rfl, rfl⟩
  | a :: l, h => by
    have ha := h a (by simp)
    have ih := tw_all (l := l) (fun y hy => h y (by simp [hy]))
    simp [ha, ih]
theorem withL_all {l : List PredT} {x : PredT} (h : ∀ y ∈ l, lessP y x = true) : withL l x = l ++ [x] := by
  obtain ⟨h1, h2⟩ := tw_all (p := fun y => lessP y x) h
  rw [withL, h1, h2]
theorem withL_stop {l : List PredT} {x y : PredT} (h : ∀ y ∈ l, lessP y x = true) (hy : lessP y x = false) : withL (l ++ [y]) x = l ++ [x, y] := by
  unfold withL
  rw [List.takeWhile_append_of_pos h, List.dropWhile_append_of_pos h]
  simp [hy]
theorem withL_more {l : List PredT} {x y : PredT} (h : ∃ z ∈ l, lessP z x = false) : withL (l ++ [y]) x = withL l x ++ [y] := by
  have key : ∀ l : List PredT, (∃ z ∈ l, lessP z x = false) → (l ++ [y]).takeWhile (fun y => lessP y x) = l.takeWhile (fun y => lessP y x) ∧ (l ++ [y]).dropWhile (fun y => lessP y x) = l.dropWhile (fun y => lessP y x) ++ [y] := by
    intro l
    induction l with
    | nil => rintro ⟨z, hz, _⟩; cases hz
    | cons a l ih =>
      rintro ⟨z, hz, hl⟩
      cases ha : lessP a x
      · simp [ha]
      · have : ∃ z ∈ l, lessP z x = false := by
          rcases List.mem_cons.1 hz with rfl | hz
          · rw [ha] at hl; cases hl
          · exact ⟨z, hz, hl⟩
        simp [ha, ih this]
  obtain ⟨h1, h2⟩ := key l h
  unfold withL
  rw [h1, h2]; simp

def WiI15 (l : List PredT) (x : PredT) (k : Nat) (v6 v7 : V) (st : St) : Prop :=
  ∃ i va nv put out, k = l.length - i ∧ i ≤ l.length ∧ v6 = .bool put ∧ v7 = .int .i64 ((i : Nat) : Int) ∧ x ∉ l.take i ∧ out = (if put then withL (l.take i) x else l.take i) ∧
    (put = false → ∀ y ∈ l.take i, lessP y x = true) ∧ (put = true → ∃ z ∈ l.take i, lessP z x = false) ∧
    st = ⟨[some (0, .mem 1 [[.sl .unk 6 (l.map cPred) []]]), some (1, .mem 6 [cPred x]), some (2, .mem 1 [[.sl .nil 0 [] []]]), some (3, .mem 1 [[.msl 4 va 0 out.length]]), some (va, .mem 6 (out.map cPred))], nv⟩
theorem not_mem_snoc {l : List PredT} {i : Nat} {x : PredT} (h : i < l.length) (h1 : x ∉ l.take i) (h2 : l[i] ≠ x) : x ∉ l.take (i + 1) := by
  rw [take_snoc h, List.mem_append]
  rintro (h3 | h3)
  · exact h1 h3
  · exact h2 (List.mem_singleton.1 h3).symm
set_option maxHeartbeats 1000000 in
theorem rWith15 (h : LawR15 P) (l : List PredT) (x : PredT) (hl : l.length < 2 ^ 40) : PCalls P n_gazetteerref15_With [vP l, .agg (cPred x)] (fun r => r = vP (withP l x)) := by
  refine A_gazetteerref15_With h.rwith ?_
  unfold F_gazetteerref15_With
  simp [st0, vP]
  refine ⟨WiI15 l x, ⟨l.length, GhostV.ghost (ghost_nilbox (j := 3) (ver := 3) (s := 0) (sz := 6) (by decide) (by simp)) ⟨0, 4, 5, false, [], by simp, by simp, rfl, by simp, by simp, by simp, by simp, by simp, by simp⟩⟩, ?_⟩
  rintro k v6 v7 st ⟨i, va, nv, put, out, rfl, hi, rfl, rfl, hx, hout, hp0, hp1, rfl⟩
  have hol : out.length ≤ l.length + 1 := by
    rw [hout]; split
    · have := withP_len (l := l.take i) (x := x); rw [withP_out hx] at this; simp at this ⊢; omega
    · simp; omega
  by_cases hlt : i < l.length
  · simp [hlt]
    rw [pred_eqb]
    by_cases he : l[i] = x
    · simp [he]
      have : withP l x = l := by simp only [withP]; rw [if_pos (he ▸ List.getElem_mem hlt)]
      rw [this]
      exact GhostV.bare ⟨by simp [V.pure, pureL, pureLL], by simp [vP]⟩
    · have hx' := not_mem_snoc hlt hx he
      simp [he]
      cases put
      · simp only [Bool.false_eq_true, if_false] at hout
        simp [hlt]
        refine inv_p (rLess h.toBoxR x l[i]) (by simp) (by simp [pureL]) ?_
        rintro _ rfl
        cases hls : lessP x l[i]
        · have hlx := lessP_total hls (fun e => he e.symm)
          simp [hlt]
          refine ⟨by omega, l.length - (i + 1), by omega, GhostV.keep (L := [_, _, _, _, _]) ⟨i + 1, nv + 1, nv + 1 + 1, false, l.take (i + 1), rfl, by omega, rfl, by rw [wadd1 (by omega)], hx', by simp, fun _ y hy => ?_, by simp, ?_⟩⟩
          · rw [take_snoc hlt, List.mem_append] at hy
            rcases hy with hy | hy
            · exact hp0 rfl y hy
            · obtain rfl : y = l[i] := by simpa using hy
              exact hlx
          · rw [take_snoc hlt, ← hout]; simp
        · simp [hlt]
          have hq : withL (l.take (i + 1)) x = out ++ [x, l[i]] := by rw [take_snoc hlt, withL_stop (hp0 rfl) (lessP_asymm hls), hout]
          refine ⟨by omega, by omega, l.length - (i + 1), by omega, GhostV.keep (L := [_, _, _, _, _]) ⟨i + 1, nv + 1 + 1 + 1, nv + 1 + 1 + 1 + 1, true, out ++ [x, l[i]], rfl, by omega, rfl, by rw [wadd1 (by omega)], hx', by simp only [if_true]; exact hq.symm, by simp, fun _ => ⟨l[i], by rw [take_snoc hlt]; exact List.mem_append_right _ (List.mem_singleton.2 rfl), lessP_asymm hls⟩, by simp⟩⟩
      · simp only [if_true] at hout
        simp [hlt]
        refine ⟨by omega, l.length - (i + 1), by omega, GhostV.keep (L := [_, _, _, _, _]) ⟨i + 1, nv + 1, nv + 1 + 1, true, out ++ [l[i]], rfl, by omega, rfl, by rw [wadd1 (by omega)], hx', ?_, by simp, fun _ => ?_, by simp⟩⟩
        · rw [take_snoc hlt]; simp only [if_true]; rw [withL_more (hp1 rfl), hout]
        · obtain ⟨z, hz, hzl⟩ := hp1 rfl
          exact ⟨z, by rw [take_snoc hlt]; exact List.mem_append_left _ hz, hzl⟩
  · simp [hlt]
    rw [List.take_of_length_le (by omega)] at hx hout hp0 hp1
    have hw := withP_out hx
    cases put
    · simp only [Bool.false_eq_true, if_false] at hout
      subst hout
      have hq := withL_all (hp0 rfl)
      simp
      refine ⟨by omega, GhostV.rowaI (L := []) (l := withP out x) (id := 4) (ver := nv + 1) (rows := (withP out x).map cPred) (by simp) (by simp [hw, hq]) ?_ (by simp [hw, hq]) ?_⟩
      · exact List.take_of_length_le (by simp [hw, hq])
      · exact ⟨by simp [V.pure, pureL, pureLL, vP], by simp⟩
    · simp only [if_true] at hout
      simp
      refine GhostV.rowaI (L := []) (l := withP l x) (id := 4) (ver := va) (rows := out.map cPred) (by simp) (by simp) ?_ (by simp) ?_
      · rw [List.take_of_length_le (by simp), hout, hw]
      · exact ⟨by simp [V.pure, pureL, pureLL, vP], by simp⟩

def WoI15 (l : List PredT) (t : Nat) (k : Nat) (v6 : V) (st : St) : Prop :=
  ∃ i va nv out, k = l.length - i ∧ i ≤ l.length ∧ v6 = .int .i64 ((i : Nat) : Int) ∧ out = withoutP (l.take i) t ∧
    st = ⟨[some (0, .mem 1 [[.sl .unk 6 (l.map cPred) []]]), some (1, .mem 1 [[.sl .nil 0 [] []]]), some (2, .mem 1 [[.msl 3 va 0 out.length]]), some (va, .mem 6 (out.map cPred))], nv⟩
theorem withoutP_snoc {l : List PredT} {t i : Nat} (h : i < l.length) : withoutP (l.take (i + 1)) t = if l[i].txn = t then withoutP (l.take i) t else withoutP (l.take i) t ++ [l[i]] := by
  unfold withoutP
  rw [take_snoc h, List.filter_append]
  by_cases e : l[i].txn = t <;> simp [e]
set_option maxHeartbeats 1000000 in
theorem rWithout15 (h : LawR15 P) (l : List PredT) (t : Nat) (hl : l.length < 2 ^ 40) : PCalls P n_gazetteerref15_Without [vP l, .int .u64 t] (fun r => r = vP (withoutP l t)) := by
  refine A_gazetteerref15_Without h.rwo ?_
  unfold F_gazetteerref15_Without
  simp [st0, vP]
  refine ⟨WoI15 l t, ⟨l.length, GhostV.ghost (ghost_nilbox (j := 2) (ver := 2) (s := 0) (sz := 6) (by decide) (by simp)) ⟨0, 3, 4, [], by simp, by simp, by simp, by simp [withoutP], by simp⟩⟩, ?_⟩
  rintro k v6 st ⟨i, va, nv, out, rfl, hi, rfl, hout, rfl⟩
  have hol : out.length ≤ l.length := by rw [hout]; exact Nat.le_trans (List.length_filter_le _ _) (by simp; omega)
  by_cases hlt : i < l.length
  · have hs := withoutP_snoc (t := t) hlt
    simp [hlt]
    by_cases he : l[i].txn = t
    · simp [he]
      rw [if_pos he, ← hout] at hs
      exact ⟨l.length - (i + 1), by omega, GhostV.refl ⟨i + 1, va, nv, out, rfl, by omega, by rw [wadd1 (by omega)], hs.symm, rfl⟩⟩
    · simp [he, hlt]
      rw [if_neg he, ← hout] at hs
      exact ⟨by omega, l.length - (i + 1), by omega, GhostV.keep (L := [_, _, _, _]) ⟨i + 1, nv + 1, nv + 1 + 1, out ++ [l[i]], rfl, by omega, by rw [wadd1 (by omega)], hs.symm, by simp⟩⟩
  · simp [hlt]
    rw [List.take_of_length_le (by omega)] at hout
    refine GhostV.rowaI (L := []) (l := withoutP l t) (id := 3) (ver := va) (rows := out.map cPred) (by simp) (by simp) ?_ (by simp) ?_
    · rw [List.take_of_length_le (by simp), hout]
    · exact ⟨by simp [V.pure, pureL, pureLL, vP], by simp⟩
end Go.Proofs.Ytmgkjbphlbpbfaa.AM

namespace Go.Proofs.Ytmgkjbphlbpbfaa.AM
open Go
set_option linter.unusedVariables false
set_option linter.unusedSimpArgs false
variable {P : Program}

theorem PCalls.le {f : FuncId} {as bs : List V} {R : V → Prop} (hl : LeVs as bs) (h : PCalls P f bs R) : PCalls P f as R := ACalls.gv h.1 (GhostV.le hl h)
theorem LeV.nilP : LeV (.agg [.sl .nil 0 [] []]) (vP []) := .agg _ [.sl .unk 6 [] []] rfl (fun i => by
  cases i with
  | zero => exact .nil _ _
  | succ i => exact .refl _)
/-- An array is written no more ahead of a call. -/
theorem GhostV.rowx2 {L : List (Option (Nat × Obj))} {nv id ver sz off len : Nat} {es : List (List V)} {a : V} {rest : List V} {K : List V → St → Prop} (ho : L[id]? = some (some (ver, .mem sz es))) (h : off + len ≤ es.length)
    (hk : K (a :: .sl .unk sz ((es.drop off).take len) [] :: rest) ⟨L.set id none, nv⟩) : GhostV (a :: .msl id ver off len :: rest) ⟨L, nv⟩ K :=
  GhostV.trans (GhostV.freeze (vs' := a :: .sl .unk sz ((es.drop off).take len) ((es.drop off).drop len) :: rest) (st' := ⟨L.set id none, nv⟩) (K := fun vs st' => vs = a :: .sl .unk sz ((es.drop off).take len) ((es.drop off).drop len) :: rest ∧ st' = ⟨L.set id none, nv⟩) (id := id) (ver := ver) (sz := sz) (es := es) (by simp [St.get, ho]) rfl rfl (fun i => by
    match i with
    | 0 => exact Frz.refl _
    | 1 => exact .msl id off len h
    | i + 2 => simpa using Frz.refl _) (fun id1 ver1 o1 h1 => by
      by_cases e : id = id1
      · subst e
        simp only at h1
        rw [List.getElem?_set_self (List.getElem?_eq_some_iff.1 ho).1] at h1
        cases h1
      · simp only at h1
        rw [List.getElem?_set_ne e] at h1
        exact ⟨fun q => e q.symm, o1, h1, .inl rfl⟩) ⟨rfl, rfl⟩) (by rintro _ _ ⟨rfl, rfl⟩; exact GhostV.le (LeVs.cons (.refl _) (LeVs.cons .slk (LeVs.refl _))) hk)
theorem inv_pf {k : FuncId} {a : V} {rest : List V} {L : List (Option (Nat × Obj))} {nv id ver sz n : Nat} {es : List (List V)} {R : V → Prop} (h : PCalls P k (a :: .sl .unk sz es [] :: rest) R) (ho : L[id]? = some (some (ver, .mem sz es))) (hn : n = es.length) (hp : pureL (a :: .sl .unk sz es [] :: rest) = true) {K : V → St → Prop}
    (hk : ∀ r, R r → K r ⟨L.set id none, nv⟩) : @inv P (.fn (.func k) [] []) (a :: .msl id ver 0 n :: rest) ⟨L, nv⟩ ⟨K⟩ := by
  subst hn
  refine inv_f0 (ACalls.gv h.1 (GhostV.rowx2 ho (by simp) ?_))
  rw [List.drop_zero, List.take_length]
  exact h.at hp hk
def wx : PredT := ⟨1, 7, ⟨0, 9, 0, 9⟩⟩
def wq : List PredT := [⟨1, 7, ⟨0, 9, 0, 9⟩⟩, ⟨2, 7, ⟨0, 9, 0, 9⟩⟩, ⟨3, 7, ⟨0, 9, 0, 9⟩⟩]
theorem wake1 : (if rightP [] then (if markP wx then changeR (withP [] wx) else .tup [vP [], .int .i64 2]) else .tup [vP [], .int .i64 250]) = V.tup [vP [wx], .int .i64 0] := by
  have h1 : rightP [] = true := by decide
  have h2 : markP wx = true := by decide
  have h3 : withP [] wx = [wx] := by decide
  rw [h1, h2, h3]; rfl
theorem wake2 : splR [wx] [⟨1, 2, true⟩] 3 = .tup [vP wq, .int .i64 0] := by
  have h1 : rightP [wx] = true := by decide
  have h2 : ([⟨1, 2, true⟩] : List SplT).any badS = false := by decide
  have h3 : splitS [wx] [⟨1, 2, true⟩] 3 = wq := by decide
  unfold splR
  rw [h1, h2, h3]; rfl
theorem wake3 : metR wq 3 ⟨5, 5, 5, 5⟩ 8 = .tup [.sl .unk 1 [[.int .u64 7]] [], .int .i64 0] := by
  have h1 : rightP wq = true := by decide
  have h2 : boxK ⟨5, 5, 5, 5⟩ = true := by decide
  have h3 : metS wq 3 ⟨5, 5, 5, 5⟩ 8 = [7] := by decide
  unfold metR
  rw [h1, h2, h3]; rfl
set_option maxHeartbeats 1000000 in
theorem wakes15 (h : LawR15 P) : PCalls P n_gazetteerlaw15_wakes [] (fun r => r = .bool true) := by
  refine A_gazetteerlaw15_wakes h.wakes ?_
  unfold F_gazetteerlaw15_wakes
  simp [st0]
  have q1 := Attach_P h.toChgR [] wx (by decide)
  rw [wake1] at q1
  refine inv_p (PCalls.le (LeVs.cons LeV.nilP (LeVs.refl _)) q1) rfl (by simp [pureL, pureLL]) ?_
  rintro _ rfl
  simp [vP, wx]
  have q2 := Split_P h.toSplR [wx] [⟨1, 2, true⟩] 3 (by decide) (by decide)
  rw [wake2] at q2
  refine inv_pf q2 (by simp) (by simp) (by simp [pureL, pureLL, vP, V.pure]) ?_
  rintro _ rfl
  simp [vP, wq]
  have q3 := Meets_P h.toMeetR wq 3 ⟨5, 5, 5, 5⟩ 8 (by decide)
  rw [wake3] at q3
  refine inv_p q3 rfl (by simp [pureL, pureLL, vP, wq]) ?_
  rintro _ rfl
  simp
  exact GhostV.refl ⟨rfl, rfl⟩
end Go.Proofs.Ytmgkjbphlbpbfaa.AM

namespace Go.Proofs.Ytmgkjbphlbpbfaa.AM
open Go
set_option linter.unusedVariables false
set_option linter.unusedSimpArgs false
variable {P : Program}

structure LawM (P : Program) : Prop extends LawR15 P where
  lmeets : R_gazetteerlaw15_PredMeets P
  lattach : R_gazetteerlaw15_PredAttaches P

def EqI (n : Nat) (L : List (Option (Nat × Obj))) (k : Nat) (v : V) (st : St) : Prop := ∃ i nv, k = n - i ∧ i ≤ n ∧ v = .int .i64 ((i : Nat) : Int) ∧ st = ⟨L, nv⟩
set_option maxHeartbeats 1000000 in
theorem lMeets (h : LawM P) (l : List PredT) (n own : Nat) (k : KeyT) : PCalls P n_gazetteerlaw15_PredMeets [vP l, .agg [.int .u32 n, .int .u64 own], .agg (cKey k)] (fun r => r = .bool true) := by
  refine A_gazetteerlaw15_PredMeets h.lmeets ?_
  unfold F_gazetteerlaw15_PredMeets
  simp [st0, vP]
  refine inv_p (wakes15 h.toLawR15) rfl rfl ?_
  rintro _ rfl
  simp
  by_cases h8 : (800 : Int) < (l.length : Int)
  · simp [h8]
    exact GhostV.refl ⟨rfl, rfl⟩
  have hl : l.length < 2 ^ 40 := by omega
  simp [h8]
  refine inv_p (Copied15 h.toLawR15 l hl) rfl (by simp [pureL, pureLL, V.pure, vP]) ?_
  rintro _ rfl
  simp [vP]
  refine inv_p (Meets_P h.toMeetR l n k own hl) rfl (by simp [pureL, pureLL, V.pure, vP]) ?_
  rintro _ rfl
  have hrR := rRight h.toBoxR l hl
  cases hr : rightP l
  · simp [metR, hr]
    rw [hr] at hrR
    refine inv_p hrR rfl (by simp [pureL, pureLL, V.pure, vP]) ?_
    rintro _ rfl
    simp
    exact GhostV.refl ⟨rfl, rfl⟩
  rw [hr] at hrR
  cases hb : boxK k
  · simp [metR, hr, hb]
    refine inv_p hrR rfl (by simp [pureL, pureLL, V.pure, vP]) ?_
    rintro _ rfl
    simp
    refine inv_p (rBox h.toBoxR k) rfl rfl ?_
    rintro _ rfl
    simp [hb]
    exact GhostV.refl ⟨rfl, rfl⟩
  by_cases hn : n = 0
  · simp [metR, hr, hb, hn]
    refine inv_p hrR rfl (by simp [pureL, pureLL, V.pure, vP]) ?_
    rintro _ rfl
    simp
    refine inv_p (rBox h.toBoxR k) rfl rfl ?_
    rintro _ rfl
    simp [hb]
    exact GhostV.refl ⟨rfl, rfl⟩
  by_cases ho : own = 0
  · simp [metR, hr, hb, hn, ho]
    refine inv_p hrR rfl (by simp [pureL, pureLL, V.pure, vP]) ?_
    rintro _ rfl
    simp
    refine inv_p (rBox h.toBoxR k) rfl rfl ?_
    rintro _ rfl
    simp [hb, hn]
    exact GhostV.refl ⟨rfl, rfl⟩
  simp [metR, hr, hb, hn, ho]
  refine inv_p hrR rfl (by simp [pureL, pureLL, V.pure, vP]) ?_
  rintro _ rfl
  simp
  refine inv_p (rBox h.toBoxR k) rfl rfl ?_
  rintro _ rfl
  simp [hb, hn, ho]
  refine inv_p (rMeetsP h.toMeetR l n k own hl) rfl (by simp [pureL, pureLL, V.pure, vP]) ?_
  rintro _ rfl
  have hml := metS_le (l := l) (n := n) (own := own) (k := k)
  simp
  refine ⟨EqI (metS l n k own).length [], ⟨(metS l n k own).length, GhostV.bare ⟨0, _, by simp, by simp, by simp, rfl⟩⟩, ?_⟩
  rintro k1 v st ⟨i, nv, rfl, hi, rfl, rfl⟩
  by_cases hlt : i < (metS l n k own).length
  · simp [hlt]
    exact ⟨(metS l n k own).length - (i + 1), by omega, GhostV.refl ⟨i + 1, nv, rfl, by omega, by rw [wadd1 (by omega)], rfl⟩⟩
  · simp [hlt]
    exact GhostV.refl ⟨rfl, rfl⟩
end Go.Proofs.Ytmgkjbphlbpbfaa.AM

namespace Go.Proofs.Ytmgkjbphlbpbfaa.AM
open Go
set_option linter.unusedVariables false
set_option linter.unusedSimpArgs false
variable {P : Program}

@[simp] def c32 (n : Nat) : List V := [.int .u32 n]
@[simp] theorem p_32 (l : List Nat) : pureLL (l.map c32) = true := pureLL_map (fun _ => rfl) l
/-- An answer: marks, and why not. -/
def ans (l : List PredT) (e : Int) : V := .tup [vP l, .int .i64 e]
theorem withoutP_le {l : List PredT} {t : Nat} : (withoutP l t).length ≤ l.length := List.length_filter_le _ _
theorem attach_ans (l : List PredT) (x : PredT) (hl : l.length < 2 ^ 39) : ∃ a e, (if rightP l then (if markP x then changeR (withP l x) else .tup [vP [], .int .i64 2]) else V.tup [vP [], .int .i64 250]) = ans a e ∧ a.length < 2 ^ 40 ∧
    (rightP l = false → a = [] ∧ e = 250) ∧ (rightP l = true → toldB a e (markP x) (withP l x) = true) := by
  cases hr : rightP l
  · exact ⟨[], 250, by simp [ans], by simp, fun _ => ⟨rfl, rfl⟩, fun h => by cases h⟩
  cases hm : markP x
  · exact ⟨[], 2, by simp [ans], by simp, fun h => (by cases h), fun _ => by simp [toldB]⟩
  by_cases hc : 512 < (withP l x).length
  · exact ⟨[], 6, by simp [ans, changeR, hc], by simp, fun h => (by cases h), fun _ => by simp [toldB, hc]⟩
  · have := withP_len (l := l) (x := x)
    exact ⟨withP l x, 0, by simp [ans, changeR, hc], by omega, fun h => (by cases h), fun _ => by simp [toldB, hc]⟩
theorem release_ans (l : List PredT) (t : Nat) (hl : l.length < 2 ^ 39) : ∃ b f, (if rightP l then (if t = 0 then .tup [vP [], .int .i64 2] else .tup [vP (withoutP l t), .int .i64 0]) else V.tup [vP [], .int .i64 250]) = ans b f ∧ b.length < 2 ^ 40 ∧
    (rightP l = false → b = [] ∧ f = 250) ∧ (rightP l = true → toldB b f (decide (0 < t)) (withoutP l t) = true) := by
  cases hr : rightP l
  · exact ⟨[], 250, by simp [ans], by simp, fun _ => ⟨rfl, rfl⟩, fun h => by cases h⟩
  have h5 := (rightP_iff.1 hr).1
  have := withoutP_le (l := l) (t := t)
  by_cases ht : t = 0
  · exact ⟨[], 2, by simp [ans, ht], by simp, fun h => (by cases h), fun _ => by simp [toldB, ht]⟩
  · exact ⟨withoutP l t, 0, by simp [ans, ht], by omega, fun h => (by cases h), fun _ => by
      have h0 : 0 < t := by omega
      simp [toldB, h0, show ¬ 512 < (withoutP l t).length by omega]⟩
set_option maxHeartbeats 2000000 in
theorem lAttaches (h : LawM P) (l : List PredT) (x : PredT) (t : Nat) : PCalls P n_gazetteerlaw15_PredAttaches [vP l, .agg (cPred x), .int .u64 t] (fun r => r = .bool true) := by
  refine A_gazetteerlaw15_PredAttaches h.lattach ?_
  unfold F_gazetteerlaw15_PredAttaches
  simp [st0, vP]
  refine inv_p (wakes15 h.toLawR15) rfl rfl ?_
  rintro _ rfl
  simp
  by_cases h8 : (800 : Int) < (l.length : Int)
  · simp [h8]
    exact GhostV.refl ⟨rfl, rfl⟩
  have hl : l.length < 2 ^ 40 := by omega
  obtain ⟨a, e, ha, hal, ha0, ha1⟩ := attach_ans l x (by omega)
  obtain ⟨b, f, hb, hbl, hb0, hb1⟩ := release_ans l t (by omega)
  have pv : ∀ l : List PredT, (vP l).pure = true := fun l => by simp [vP, V.pure, pureL, pureLL]
  simp [h8]
  refine inv_p (Copied15 h.toLawR15 l hl) rfl (by simp [pureL, pv]) ?_
  rintro _ rfl
  simp
  have qa := Attach_P h.toChgR l x hl
  rw [ha] at qa
  refine inv_p qa rfl (by simp [pureL, pv, V.pure]) ?_
  rintro _ rfl
  simp [ans, vP]
  refine inv_p (Copied15 h.toLawR15 l hl) rfl (by simp [pureL, pv]) ?_
  rintro _ rfl
  simp
  have qb := Release_P h.toRelR l t hl
  rw [hb] at qb
  refine inv_p qb rfl (by simp [pureL, pv, V.pure]) ?_
  rintro _ rfl
  simp [ans, vP]
  refine inv_p (Copied15 h.toLawR15 l hl) rfl (by simp [pureL, pv]) ?_
  rintro _ rfl
  simp
  refine inv_p (Same_P h.toLawR15 l l hl) rfl (by simp [pureL, pv]) ?_
  rintro _ rfl
  simp
  refine inv_p (Same_P h.toLawR15 l a hl) rfl (by simp [pureL, pv]) ?_
  rintro _ rfl
  simp
  refine inv_p (rSame15 h.toLawR15 l a hl) rfl (by simp [pureL, pv]) ?_
  rintro _ rfl
  simp
  refine inv_p (rRight h.toBoxR l hl) rfl (by simp [pureL, pv]) ?_
  rintro _ rfl
  cases hr : rightP l
  · obtain ⟨rfl, rfl⟩ := ha0 hr
    obtain ⟨rfl, rfl⟩ := hb0 hr
    simp [show IntKind.i64.wrap 0 = 0 by decide]
    refine inv_p (Copied15 h.toLawR15 l hl) rfl (by simp [pureL, pv]) ?_
    rintro _ rfl
    simp
    refine inv_p (pCheck h.toBoxR l hl) rfl (by simp [pureL, pv]) ?_
    rintro _ rfl
    simp [hr]
    exact GhostV.refl ⟨rfl, rfl⟩
  · have ha1 := ha1 hr
    have hb1 := hb1 hr
    simp
    refine inv_p (Copied15 h.toLawR15 l hl) rfl (by simp [pureL, pv]) ?_
    rintro _ rfl
    simp
    refine inv_p (pCheck h.toBoxR l hl) rfl (by simp [pureL, pv]) ?_
    rintro _ rfl
    simp [hr]
    refine inv_p (rMark h.toBoxR x) rfl (by simp [pureL, pv]) ?_
    rintro _ rfl
    simp
    refine inv_p (rWith15 h.toLawR15 l x hl) rfl (by simp [pureL, pv, V.pure]) ?_
    rintro _ rfl
    simp
    refine inv_p (Told15 h.toLawR15 a (withP l x) e (markP x) hal) rfl (by simp [pureL, pv, V.pure]) ?_
    rintro _ rfl
    simp [ha1]
    refine inv_p (rWithout15 h.toLawR15 l t hl) rfl (by simp [pureL, pv, V.pure]) ?_
    rintro _ rfl
    simp
    refine inv_p (Told15 h.toLawR15 b (withoutP l t) f (decide (0 < t)) hbl) rfl (by simp [pureL, pv, V.pure]) ?_
    rintro _ rfl
    simp [hb1]
    exact GhostV.refl ⟨rfl, rfl⟩
end Go.Proofs.Ytmgkjbphlbpbfaa.AM

namespace Go.Proofs.Ytmgkjbphlbpbfaa.AM
open Go
set_option linter.unusedVariables false
set_option linter.unusedSimpArgs false
variable {P : Program}

structure LawK (P : Program) : Prop extends LawM P where
  has15 : R_gazetteerlaw15_PredKeeps_1 P
  lkeeps : R_gazetteerlaw15_PredKeeps P

def HasI (l : List PredT) (x : PredT) (k : Nat) (v : V) (st : St) : Prop := ∃ i nv M, k = l.length - i ∧ i ≤ l.length ∧ v = .int .i64 ((i : Nat) : Int) ∧ x ∉ l.take i ∧ st = ⟨[some (0, .mem 1 [[.sl .unk 6 (l.map cPred) []]]), some (1, .mem 6 [cPred x])] ++ M, nv⟩
theorem Has15 (h : LawK P) (l : List PredT) (x : PredT) (hl : l.length < 2 ^ 40) : PCalls P n_gazetteerlaw15_PredKeeps_1 [vP l, .agg (cPred x)] (fun r => r = .bool (decide (x ∈ l))) := by
  refine A_gazetteerlaw15_PredKeeps_1 h.has15 ?_
  unfold F_gazetteerlaw15_PredKeeps_1
  simp [st0, vP]
  refine ⟨HasI l x, ⟨l.length, GhostV.refl ⟨0, 2, [], by simp, by simp, by simp, by simp, rfl⟩⟩, ?_⟩
  rintro k v st ⟨i, nv, M, rfl, hi, rfl, hx, rfl⟩
  by_cases hlt : i < l.length
  · simp [hlt]
    rw [pred_eqb]
    by_cases he : l[i] = x
    · simp [he]
      exact GhostV.refl ⟨rfl, by simp; rw [← he]; exact List.getElem_mem hlt⟩
    · simp [he]
      exact ⟨l.length - (i + 1), by omega, GhostV.refl ⟨i + 1, _, _, rfl, by omega, by rw [wadd1 (by omega)], not_mem_snoc hlt hx he, rfl⟩⟩
  · simp [hlt]
    rw [List.take_of_length_le (by omega)] at hx
    exact GhostV.refl ⟨rfl, by simp [hx]⟩
theorem spStep_mem {s : SplT} {root : Nat} {acc : List PredT} {x y : PredT} (h : y ∈ acc) : y ∈ spStep s root acc x := by
  unfold spStep; split
  · exact mem_withP.2 (.inr (mem_withP.2 (.inr h)))
  · exact mem_withP.2 (.inr h)
theorem foldl_mem {α : Type} {f : List PredT → α → List PredT} (hf : ∀ a x y, y ∈ a → y ∈ f a x) : ∀ (l : List α) (a : List PredT) (y : PredT), y ∈ a → y ∈ l.foldl f a
  | [], a, y, h => h
  | x :: l, a, y, h => foldl_mem hf l _ y (hf a x y h)
theorem splitS_mem {l : List PredT} {sp : List SplT} {root : Nat} {y : PredT} (h : y ∈ l) : y ∈ splitS l sp root :=
  foldl_mem (fun a s y hy => foldl_mem (fun a x y hy => spStep_mem hy) _ _ _ hy) _ _ _ h
/-- Split's answer, if it is one. -/
theorem split_ans (l : List PredT) (sp : List SplT) (root : Nat) (hl : l.length ≤ 512) : ∃ s f, splR l sp root = ans s f ∧ s.length ≤ 512 ∧ (f = 0 → ∀ y ∈ l, y ∈ s) := by
  cases hr : rightP l
  · exact ⟨[], 250, by simp [ans, splR, hr], by simp, fun h => by omega⟩
  by_cases hb : (sp.any badS || decide (root = 0)) = true
  · refine ⟨[], 2, ?_, by simp, fun h => by omega⟩
    unfold splR ans; rw [hr, hb]; rfl
  · have hb' : (sp.any badS || decide (root = 0)) = false := by simpa using hb
    by_cases hc : 512 < (splitS l sp root).length
    · refine ⟨[], 6, ?_, by simp, fun h => by omega⟩
      unfold splR changeR ans; rw [hr, hb', if_pos hc]; rfl
    · refine ⟨splitS l sp root, 0, ?_, by omega, fun _ y hy => splitS_mem hy⟩
      unfold splR changeR ans; rw [hr, hb', if_neg hc]; rfl
def KJ (L : List (Option (Nat × Obj))) (st : St) : Prop := ∃ nv, st = ⟨L, nv⟩
set_option maxHeartbeats 2000000 in
theorem lKeeps (h : LawK P) (l : List PredT) (x : PredT) (sp : List SplT) (gone : List Nat) (old root : Nat) :
    PCalls P n_gazetteerlaw15_PredKeeps [vP l, .agg (cPred x), .agg [.sl .unk 3 (sp.map cSpl) [], .sl .unk 1 (gone.map c32) [], .int .u32 old, .int .u32 root]] (fun r => r = .bool true) := by
  refine A_gazetteerlaw15_PredKeeps h.lkeeps ?_
  unfold F_gazetteerlaw15_PredKeeps
  simp [st0, vP]
  refine inv_p (wakes15 h.toLawR15) rfl rfl ?_
  rintro _ rfl
  simp
  by_cases h8 : (800 : Int) < (l.length : Int)
  · simp [h8]
    exact GhostV.refl ⟨rfl, rfl⟩
  by_cases h9 : (12 : Int) < (sp.length : Int)
  · simp [h8, h9]
    exact GhostV.refl ⟨rfl, rfl⟩
  by_cases h10 : (50 : Int) < (gone.length : Int)
  · simp [h8, h9, h10]
    exact GhostV.refl ⟨rfl, rfl⟩
  have hl : l.length < 2 ^ 40 := by omega
  have pv : ∀ l : List PredT, (vP l).pure = true := fun l => by simp [vP, V.pure, pureL, pureLL]
  simp [h8, h9, h10]
  have qa := Attach_P h.toChgR l x hl
  cases hr : rightP l
  · rw [hr] at qa
    refine inv_p qa rfl (by simp [pureL, pv, V.pure, pureLL]) ?_
    rintro _ rfl
    simp [vP]
    exact GhostV.refl ⟨rfl, rfl⟩
  rw [hr] at qa
  cases hm : markP x
  · rw [hm] at qa
    refine inv_p qa rfl (by simp [pureL, pv, V.pure, pureLL]) ?_
    rintro _ rfl
    simp [vP]
    exact GhostV.refl ⟨rfl, rfl⟩
  rw [hm] at qa
  by_cases hc : 512 < (withP l x).length
  · refine inv_p qa rfl (by simp [pureL, pv, V.pure, pureLL]) ?_
    rintro _ rfl
    simp [vP, changeR, hc]
    exact GhostV.refl ⟨rfl, rfl⟩
  refine inv_p qa rfl (by simp [pureL, pv, V.pure, pureLL]) ?_
  rintro _ rfl
  simp [vP, changeR, hc]
  obtain ⟨q, hq⟩ : ∃ q, q = withP l x := ⟨_, rfl⟩
  rw [← hq]
  rw [← hq] at hc
  have hq5 : q.length ≤ 512 := by omega
  have hxq : x ∈ q := by rw [hq]; exact mem_withP.2 (.inl rfl)
  obtain ⟨hl5, hlm, hls⟩ := rightP_iff.1 hr
  have hqr : rightP q = true := by
    rw [rightP_iff, hq]
    refine ⟨by rw [← hq]; exact hq5, fun y hy => ?_, hls.withP⟩
    rcases mem_withP.1 hy with rfl | hy
    · exact hm
    · exact hlm y hy
  refine inv_p (Has15 h q x (by omega)) rfl (by simp [pureL, pv, V.pure, pureLL]) ?_
  rintro _ rfl
  simp [hxq]
  obtain ⟨L4, hL4⟩ : ∃ L4, L4 = [some (0, Obj.mem 1 [[.sl .unk 6 (l.map cPred) []]]), some (1, Obj.mem 6 [cPred x]), some (2, Obj.mem 4 [[.sl .unk 3 (sp.map cSpl) [], .sl .unk 1 (gone.map c32) [], .int .u32 old, .int .u32 root]]), some (3, Obj.mem 1 [[.sl .unk 6 (q.map cPred) []]])] := ⟨_, rfl⟩
  have h1 : ∀ M, (L4 ++ M)[1]? = some (some (1, Obj.mem 6 [cPred x])) := fun M => by rw [hL4]; rfl
  have h3 : ∀ M, (L4 ++ M)[3]? = some (some (3, Obj.mem 1 [[.sl .unk 6 (q.map cPred) []]])) := fun M => by rw [hL4]; rfl
  have h30 := h3 []
  have h10' := h1 []
  rw [List.append_nil] at h30 h10'
  have hL4l : L4.length = 4 := by rw [hL4]; rfl
  refine ⟨KJ L4, ?_, ?_⟩
  · obtain ⟨s, f, hs, hs5, hsy⟩ := split_ans q sp root hq5
    have qs := Split_P h.toSplR q sp root (by omega) (by omega)
    rw [hs] at qs
    simp
    refine inv_p qs rfl (by simp [pureL, pv, V.pure, pureLL]) ?_
    rintro _ rfl
    simp [ans, vP]
    have hst : ∀ v, [some (0, Obj.mem 1 [[V.sl SK.unk 6 (List.map cPred l) []]]), some (1, Obj.mem 6 [[V.int .u32 x.node, .int .u64 x.txn, .int .i64 x.k.x0, .int .i64 x.k.x1, .int .i64 x.k.y0, .int .i64 x.k.y1]]), some (2, Obj.mem 4 [[.sl .unk 3 (sp.map cSpl) [], .sl .unk 1 (gone.map c32) [], .int .u32 old, .int .u32 root]]), some (3, Obj.mem 1 [[.sl .unk 6 (q.map cPred) []]]), v] = L4 ++ [v] := fun v => by rw [hL4]; rfl
    rw [hst]
    by_cases hf : f = 0
    · simp [hf, h3]
      obtain ⟨L5, hL5⟩ : ∃ L5, L5 = L4 ++ [some (4, Obj.mem 1 [[.sl .unk 6 (s.map cPred) []]])] := ⟨_, rfl⟩
      have g4 : ∀ M, (L5 ++ M)[4]? = some (some (4, Obj.mem 1 [[.sl .unk 6 (s.map cPred) []]])) := fun M => by rw [hL5, hL4]; rfl
      rw [← hL5]
      refine ⟨EqI q.length L5, ⟨q.length, GhostV.refl ⟨0, _, by simp, by simp, by simp, rfl⟩⟩, ?_⟩
      rintro k v st ⟨i, nv, rfl, hi, rfl, rfl⟩
      by_cases hlt : i < q.length
      · simp [hlt, g4]
        refine inv_p (Has15 h s q[i] (by omega)) (by simp [vP]) (by simp [pureL, pv, V.pure, pureLL, vP]) ?_
        rintro _ rfl
        simp [hsy hf q[i] (List.getElem_mem hlt)]
        exact ⟨q.length - (i + 1), by omega, GhostV.keep ⟨i + 1, _, rfl, by omega, by rw [wadd1 (by omega)], rfl⟩⟩
      · simp [hlt]
        rw [hL5]
        exact GhostV.keep ⟨_, rfl⟩
    · simp [hf]
      exact GhostV.keep ⟨_, rfl⟩
  · rintro st ⟨nv, rfl⟩
    simp [h30, h10']
    have htx : ¬ x.txn = 0 := by
      simp only [markP, Bool.and_eq_true, decide_eq_true_eq] at hm
      omega
    have qr := Release_P h.toRelR q x.txn (by omega)
    rw [hqr, if_pos rfl, if_neg htx] at qr
    refine inv_p qr rfl (by simp [pureL, pv, V.pure, pureLL]) ?_
    rintro _ rfl
    simp [vP]
    obtain ⟨r, hrr⟩ : ∃ r, r = withoutP q x.txn := ⟨_, rfl⟩
    have hrl : r.length ≤ q.length := by rw [hrr]; exact withoutP_le
    have hrm : ∀ y, y ∈ r ↔ y ∈ q ∧ ¬ y.txn = x.txn := fun y => by rw [hrr, withoutP, List.mem_filter]; simp
    rw [← hrr]
    obtain ⟨L6, hL6⟩ : ∃ L6, L6 = L4 ++ [some (nv, Obj.mem 1 [[.sl .unk 6 (r.map cPred) []]])] := ⟨_, rfl⟩
    have k4 : ∀ M, (L6 ++ M)[L4.length]? = some (some (nv, Obj.mem 1 [[.sl .unk 6 (r.map cPred) []]])) := fun M => by rw [hL6]; simp
    have k3 : ∀ M, (L6 ++ M)[3]? = some (some (3, Obj.mem 1 [[.sl .unk 6 (q.map cPred) []]])) := fun M => by rw [hL6, List.append_assoc]; exact h3 _
    have k1 : ∀ M, (L6 ++ M)[1]? = some (some (1, Obj.mem 6 [cPred x])) := fun M => by rw [hL6, List.append_assoc]; exact h1 _
    have k30 := k3 []
    rw [List.append_nil] at k30
    rw [← hL6]
    refine ⟨EqI r.length L6, ⟨r.length, GhostV.refl ⟨0, _, by simp, by simp, by simp, rfl⟩⟩, ?_⟩
    rintro k v st ⟨i, nv1, rfl, hi, rfl, rfl⟩
    by_cases hlt : i < r.length
    · have hmm := (hrm r[i]).1 (List.getElem_mem hlt)
      simp [hlt, k1, k3, hmm.2]
      refine inv_p (Has15 h q r[i] (by omega)) (by simp [vP]) (by simp [pureL, pv, V.pure, pureLL, vP]) ?_
      rintro _ rfl
      simp [hmm.1]
      exact ⟨r.length - (i + 1), by omega, GhostV.keep ⟨i + 1, _, rfl, by omega, by rw [wadd1 (by omega)], rfl⟩⟩
    · simp [hlt, k30]
      refine ⟨EqI q.length L6, ⟨q.length, GhostV.refl ⟨0, _, by simp, by simp, by simp, rfl⟩⟩, ?_⟩
      rintro k v st ⟨j, nv2, rfl, hj, rfl, rfl⟩
      by_cases hlj : j < q.length
      · by_cases ht : q[j].txn = x.txn
        · simp [hlj, k1, ht]
          exact ⟨q.length - (j + 1), by omega, GhostV.keep ⟨j + 1, _, rfl, by omega, by rw [wadd1 (by omega)], rfl⟩⟩
        · simp [hlj, k1, k4, ht]
          refine inv_p (Has15 h r q[j] (by omega)) (by simp [vP]) (by simp [pureL, pv, V.pure, pureLL, vP]) ?_
          rintro _ rfl
          simp [(hrm q[j]).2 ⟨List.getElem_mem hlj, ht⟩]
          exact ⟨q.length - (j + 1), by omega, GhostV.keep ⟨j + 1, _, rfl, by omega, by rw [wadd1 (by omega)], rfl⟩⟩
      · simp [hlj]
        exact GhostV.refl ⟨rfl, rfl⟩
end Go.Proofs.Ytmgkjbphlbpbfaa.AM

namespace Go.Proofs.Ytmgkjbphlbpbfaa.AM
open Go
set_option linter.unusedVariables false
set_option linter.unusedSimpArgs false
variable {P : Program}

structure PassR (P : Program) : Prop extends LawK P where
  idx32 : R_slices_Index_uint32_uint32 P
  con32 : R_slices_Contains_uint32_uint32 P
  pass1 : R_pred_Pass_1 P
  pass : R_pred_Pass P
  rpass : R_gazetteerref15_Pass P
  lpass : R_gazetteerlaw15_PredPasses P

def NoI (l : List Nat) (n : Nat) (k : Nat) (v : V) (st : St) : Prop := ∃ i nv, k = l.length - i ∧ i ≤ l.length ∧ v = .int .i64 ((i : Nat) : Int) ∧ n ∉ l.take i ∧ st = ⟨[], nv⟩
theorem Index_32 (h : PassR P) (l : List Nat) (n : Nat) (hl : l.length < 2 ^ 40) : PCalls P n_slices_Index_uint32_uint32 [.sl .unk 1 (l.map c32) [], .int .u32 n] (fun r => ∃ i : Int, r = .int .i64 i ∧ (0 ≤ i ↔ n ∈ l)) := by
  refine A_slices_Index_uint32_uint32 h.idx32 ?_
  unfold F_slices_Index_uint32_uint32
  simp [st0]
  refine ⟨NoI l n, ⟨l.length, GhostV.refl ⟨0, 0, by simp, by simp, by simp, by simp, rfl⟩⟩, ?_⟩
  rintro k v st ⟨i, nv, rfl, hi, rfl, hn, rfl⟩
  by_cases hlt : i < l.length
  · simp [hlt]
    by_cases he : n = l[i]
    · simp [he]
      exact GhostV.refl ⟨rfl, _, rfl, by simp⟩
    · simp [he]
      refine ⟨l.length - (i + 1), by omega, GhostV.refl ⟨i + 1, nv, rfl, by omega, by rw [wadd1 (by omega)], ?_, rfl⟩⟩
      rw [take_snoc hlt, List.mem_append]
      rintro (h | h)
      · exact hn h
      · exact he (List.mem_singleton.1 h)
  · simp [hlt]
    rw [List.take_of_length_le (by omega)] at hn
    exact GhostV.refl ⟨rfl, _, rfl, by simp [hn]⟩
theorem Contains_32 (h : PassR P) (l : List Nat) (n : Nat) (hl : l.length < 2 ^ 40) : PCalls P n_slices_Contains_uint32_uint32 [.sl .unk 1 (l.map c32) [], .int .u32 n] (fun r => r = .bool (decide (n ∈ l))) := by
  refine A_slices_Contains_uint32_uint32 h.con32 ?_
  unfold F_slices_Contains_uint32_uint32
  simp [st0]
  refine inv_p (Index_32 h l n hl) rfl (by simp [pureL]) ?_
  rintro _ ⟨i, rfl, hi⟩
  simp
  exact GhostV.refl ⟨rfl, by simp [hi]⟩

def pStep (f : PredT → Bool) (to : Nat) (acc : List PredT) (x : PredT) : List PredT := if f x then withP acc { x with node := to } else acc
def copyP (l : List PredT) (fr to : Nat) (f : PredT → Bool) : List PredT := (atN l fr).foldl (pStep f to) l
def passN (l : List PredT) (way : List Nat) (k : KeyT) : Nat → List PredT
  | 0 => l
  | i + 1 => copyP (passN l way k i) (way.getD i 0) (way.getD (i + 1) 0) (fun x => meetsK x.k k)
def passS (l : List PredT) (way : List Nat) (k : KeyT) : List PredT := passN l way k (way.length - 1)
theorem pStep_srt {f : PredT → Bool} {to : Nat} {acc : List PredT} {x : PredT} (h : Srt acc) : Srt (pStep f to acc x) := by
  unfold pStep; split
  · exact h.withP
  · exact h
theorem pStep_len {f : PredT → Bool} {to : Nat} {acc : List PredT} {x : PredT} : (pStep f to acc x).length ≤ acc.length + 1 := by
  unfold pStep; split
  · exact withP_len
  · omega
theorem foldl_srt {α : Type} {f : List PredT → α → List PredT} (hf : ∀ a x, Srt a → Srt (f a x)) : ∀ (l : List α) (a : List PredT), Srt a → Srt (l.foldl f a)
  | [], a, h => h
  | x :: l, a, h => foldl_srt hf l _ (hf a x h)
theorem foldl_len {α : Type} {f : List PredT → α → List PredT} (hf : ∀ a x, (f a x).length ≤ a.length + 1) : ∀ (l : List α) (a : List PredT), (l.foldl f a).length ≤ a.length + l.length
  | [], a => by simp
  | x :: l, a => by
    have h1 := foldl_len hf l (f a x)
    have h2 := hf a x
    simp only [List.foldl_cons, List.length_cons]; omega
theorem copyP_srt {l : List PredT} {fr to : Nat} {f : PredT → Bool} (h : Srt l) : Srt (copyP l fr to f) := foldl_srt (fun a x h => pStep_srt h) _ _ h
theorem copyP_len {l : List PredT} {fr to : Nat} {f : PredT → Bool} : (copyP l fr to f).length ≤ 2 * l.length := by
  have h1 := foldl_len (f := pStep f to) (fun a x => pStep_len) (atN l fr) l
  have h2 := atN_le (l := l) (n := fr)
  unfold copyP; omega
theorem passN_srt {l : List PredT} {way : List Nat} {k : KeyT} (h : Srt l) : ∀ i, Srt (passN l way k i)
  | 0 => h
  | i + 1 => copyP_srt (passN_srt h i)
theorem passN_len {l : List PredT} {way : List Nat} {k : KeyT} (h : l.length ≤ 512) : ∀ i, (passN l way k i).length ≤ 512 * 2 ^ i
  | 0 => by simpa [passN] using h
  | i + 1 => by
    have h1 := passN_len (way := way) (k := k) h i
    have h2 := copyP_len (l := passN l way k i) (fr := way.getD i 0) (to := way.getD (i + 1) 0) (f := fun x => meetsK x.k k)
    simp only [passN]
    rw [Nat.pow_succ]; omega
theorem pow2 {t : Nat} (h : t ≤ 12) : 512 * 2 ^ t ≤ 2097152 := by
  have : 2 ^ t ≤ 2 ^ 12 := Nat.pow_le_pow_right (by decide) h
  have e : (2 : Nat) ^ 12 = 4096 := by decide
  omega

def PaJ (B R : List (Option (Nat × Obj))) (i o vo : Nat) (f : PredT → Bool) (to : Nat) (acc ys : List PredT) (k : Nat) (v : V) (st : St) : Prop :=
  ∃ j va nv cur, k = ys.length - j ∧ j ≤ ys.length ∧ v = .int .i64 ((j : Nat) : Int) ∧ cur = (ys.take j).foldl (pStep f to) acc ∧ Srt cur ∧ cur.length ≤ acc.length + j ∧ st = ⟨outB B i o vo va cur ++ R, nv⟩
def PaI (B : List (Option (Nat × Obj))) (i o vo : Nat) (way : List Nat) (key : KeyT) (l : List PredT) (k : Nat) (v : V) (st : St) : Prop :=
  ∃ t va nv, k = way.length - t ∧ t ≤ way.length - 1 ∧ v = .int .i64 ((t + 1 : Nat) : Int) ∧ st = ⟨outB B i o vo va (passN l way key t), nv⟩

set_option maxHeartbeats 2000000 in
theorem Pass_1 (h : PassR P) {L : List (Option (Nat × Obj))} {j vj r vr : Nat} {l : List PredT} {way : List Nat} {key : KeyT} (hj : L[j]? = some (some (vj, .mem 1 [[.sl .unk 1 (way.map c32) []]]))) (hr : L[r]? = some (some (vr, .mem 4 [cKey key])))
    (hs : Srt l) (hl : l.length ≤ 512) (hw : way.length ≤ 12) : DoesOk P n_pred_Pass_1 [.ptr j vj 0 0, .ptr r vr 0 0] L l (passS l way key) := by
  intro B vo va nv K hB hBj hk
  have hjl : j < L.length := (List.getElem?_eq_some_iff.1 hj).1
  have hrl : r < L.length := (List.getElem?_eq_some_iff.1 hr).1
  obtain ⟨i, hi⟩ : ∃ i, i = L.length + 2 := ⟨_, rfl⟩
  obtain ⟨o, ho⟩ : ∃ o, o = L.length + 3 := ⟨_, rfl⟩
  rw [← hi, ← ho] at hk ⊢
  have hiB : i < B.length := by omega
  have hoB : o < B.length := by omega
  have hio : i ≠ o := by omega
  have gj : ∀ va l' R, (outB B i o vo va l' ++ R)[j]? = some (some (vj, .mem 1 [[.sl .unk 1 (way.map c32) []]])) := fun va l' R => by
    rw [List.getElem?_append_left (by simp; omega), outB_j (by omega) (by omega), hBj j hjl]; exact hj
  have gr : ∀ va l' R, (outB B i o vo va l' ++ R)[r]? = some (some (vr, .mem 4 [cKey key])) := fun va l' R => by
    rw [List.getElem?_append_left (by simp; omega), outB_j (by omega) (by omega), hBj r hrl]; exact hr
  have go : ∀ va l' R, (outB B i o vo va l' ++ R)[o]? = some (some (vo, .mem 1 [[.msl i va 0 l'.length]])) := fun va l' R => by
    rw [List.getElem?_append_left (by simp; omega)]; exact outB_o hoB
  have gi : ∀ va l' R, (outB B i o vo va l' ++ R)[i]? = some (some (va, .mem 6 (l'.map cPred))) := fun va l' R => by
    rw [List.getElem?_append_left (by simp; omega)]; exact outB_i hiB hio
  have gj0 : ∀ va l', (outB B i o vo va l')[j]? = some (some (vj, .mem 1 [[.sl .unk 1 (way.map c32) []]])) := fun va l' => by simpa using gj va l' []
  have gr0 : ∀ va l', (outB B i o vo va l')[r]? = some (some (vr, .mem 4 [cKey key])) := fun va l' => by have := gr va l' []; rwa [List.append_nil] at this
  have go0 : ∀ va l', (outB B i o vo va l')[o]? = some (some (vo, .mem 1 [[.msl i va 0 l'.length]])) := fun va l' => by simpa using go va l' []
  refine A_pred_Pass_1 h.pass1 ?_
  unfold F_pred_Pass_1
  refine ⟨PaI B i o vo way key l, ⟨way.length, GhostV.refl ⟨0, va, nv, by simp, by omega, by simp, rfl⟩⟩, ?_⟩
  rintro k1 v6 st ⟨t, va1, nv1, rfl, ht, rfl, rfl⟩
  obtain ⟨acc, hacc⟩ : ∃ acc, acc = passN l way key t := ⟨_, rfl⟩
  rw [← hacc]
  have hsa : Srt acc := by rw [hacc]; exact passN_srt hs t
  have hla : acc.length ≤ 512 * 2 ^ t := by rw [hacc]; exact passN_len hl t
  by_cases hlt : t + 1 < way.length
  · have hp2 := pow2 (t := t) (by omega)
    have hw1 : IntKind.i64.wrap (((t + 1 : Nat) : Int) - 1) = ((t : Nat) : Int) := by rw [wrap_i64 (by omega)]; omega
    have ht0 : t < way.length := by omega
    obtain ⟨T, hT⟩ : ∃ T, T = t + 1 := ⟨_, rfl⟩
    rw [← hT] at hlt hw1 ⊢
    simp [hlt, gj0, go0, hw1, ht0]
    obtain ⟨fr, hfr⟩ : ∃ fr, fr = way[t] := ⟨_, rfl⟩
    rw [← hfr]
    refine inv_f0 (at_P h.toIterPR (rv := .msl i va1 0 acc.length) rfl ?_)
    simp
    refine inv_f0 (Collect_P h.toIterPR (L := outB B i o vo va1 acc ++ [some (nv1, .mem 1 [[.msl i va1 0 acc.length]]), some (nv1 + 1, .mem 1 [[.int .u32 fr]])]) (fun M => ?_) (at_iterM h.toIterPR acc fr (by omega) (d := i) (va := va1)) ?_ ?_)
    · refine ⟨?_, ?_, ?_⟩
      · rw [List.append_assoc, List.getElem?_append_right (by simp)]; simp
      · rw [List.append_assoc, List.getElem?_append_right (by simp)]; simp
      · rw [List.append_assoc]; exact gi _ _ _
    · intro ys rest hd
      have h1 := atN_le (l := acc) (n := fr)
      rw [← hd] at h1; simp at h1; omega
    intro ys va2 nv2 M hys hM3 hM
    have hyl : ys.length ≤ acc.length := by rw [hys]; exact atN_le
    obtain ⟨R, hR⟩ : ∃ R, R = [some (nv1, Obj.mem 1 [[.msl i va1 0 acc.length]]), some (nv1 + 1, Obj.mem 1 [[.int .u32 fr]])] ++ M := ⟨_, rfl⟩
    have hRl : R.length = 5 := by rw [hR]; simp [hM3]
    have hix : (outB B i o vo va1 acc ++ [some (nv1, Obj.mem 1 [[.msl i va1 0 acc.length]]), some (nv1 + 1, Obj.mem 1 [[.int .u32 fr]])]).length + 2 = B.length + 4 := by simp
    rw [hix, List.append_assoc, ← hR]
    have gc : ∀ va l' S, (outB B i o vo va l' ++ R ++ S)[B.length + 4]? = some (some (va2, .mem 6 (ys.map cPred))) := fun va l' S => by
      rw [List.append_assoc, List.getElem?_append_right (by simp), List.getElem?_append_left (by simp [hRl]), hR]; simp [hM]
    obtain ⟨to, hto⟩ : ∃ to, to = way[T] := ⟨_, rfl⟩
    simp
    refine ⟨PaJ B R i o vo (fun x => meetsK x.k key) to acc ys, ⟨ys.length, GhostV.refl ⟨0, va1, nv2, acc, by simp, by simp, by simp, by simp, hsa, by omega, rfl⟩⟩, ?_⟩
    rintro k2 v24 st ⟨q, va3, nv3, cur, rfl, hq, rfl, hcur, hsc, hlc, rfl⟩
    by_cases hlq : q < ys.length
    · obtain ⟨W, hW⟩ : ∃ W, W = outB B i o vo va3 cur ++ R := ⟨_, rfl⟩
      have gcW : ∀ S, (W ++ S)[B.length + 4]? = some (some (va2, .mem 6 (ys.map cPred))) := fun S => by rw [hW]; exact gc _ _ _
      have grW : ∀ S, (W ++ S)[r]? = some (some (vr, .mem 4 [cKey key])) := fun S => by rw [hW, List.append_assoc]; exact gr _ _ _
      have gjW : ∀ S, (W ++ S)[j]? = some (some (vj, .mem 1 [[.sl .unk 1 (way.map c32) []]])) := fun S => by rw [hW, List.append_assoc]; exact gj _ _ _
      have gcW0 := gcW []
      rw [List.append_nil] at gcW0
      rw [← hW]
      have hnext := foldl_take (f := pStep (fun x => meetsK x.k key) to) (b := acc) hlq
      rw [← hcur] at hnext
      simp [hlq, gcW0, grW]
      refine inv_p (kMeets h.toBoxR ys[q].k key) (by simp) (by simp [pureL]) ?_
      rintro _ rfl
      cases hmk : meetsK ys[q].k key
      · simp
        have e : pStep (fun x => meetsK x.k key) to cur ys[q] = cur := by simp [pStep, hmk]
        rw [e] at hnext
        exact ⟨ys.length - (q + 1), by omega, GhostV.keep ⟨q + 1, va3, _, cur, rfl, by omega, by rw [wadd1 (by omega)], hnext.symm, hsc, by omega, by rw [hW]⟩⟩
      · simp [gjW, hlt]
        rw [← hto]
        obtain ⟨x1, hx1⟩ : ∃ x1 : PredT, x1 = { ys[q] with node := to } := ⟨_, rfl⟩
        have att := attach_out h.toAttR (B := B) (R := R ++ [some (nv3, Obj.mem 6 [cPred x1])]) (nv := nv3 + 1) (i := i) (o := o) (va := va3) (vo := vo) (l := cur) (x := x1) hiB hoB hio hsc (by omega)
          (K := fun r st => ∃ va' nv', r = .tup [] ∧ st = ⟨outB B i o vo va' (withP cur x1) ++ (R ++ [some (nv3, Obj.mem 6 [cPred x1])]), nv'⟩) (fun va' nv' => ⟨va', nv', rfl, rfl⟩)
        rw [← List.append_assoc, ← hW, hx1] at att
        refine inv_fn (first := []) (ACalls.mono ?_ att)
        rintro _ _ ⟨va', nv', rfl, rfl⟩
        rw [← hx1, ← List.append_assoc]
        have e : pStep (fun x => meetsK x.k key) to cur ys[q] = withP cur x1 := by simp [pStep, hmk, hx1]
        rw [e] at hnext
        have hl1 := withP_len (l := cur) (x := x1)
        simp
        rw [← List.append_assoc]
        exact ⟨ys.length - (q + 1), by omega, GhostV.keep ⟨q + 1, va', nv', withP cur x1, rfl, by omega, by rw [wadd1 (by omega)], hnext.symm, hsc.withP, by omega, rfl⟩⟩
    · simp [hlq]
      rw [List.take_of_length_le (by omega)] at hcur
      have e : passN l way key (t + 1) = cur := by
        have e1 : way.getD t 0 = fr := by rw [hfr]; simp [List.getD, ht0]
        have e2 : way.getD (t + 1) 0 = to := by rw [hto, ← hT]; simp [List.getD, hlt]
        simp only [passN, copyP]
        rw [← hacc, e1, e2, hcur, hys]
      exact ⟨way.length - (t + 1), by omega, GhostV.keep ⟨t + 1, va3, nv3, rfl, by omega, by rw [hT, wadd1 (by omega)], by rw [e]⟩⟩
  · simp [gj0, show ¬ ((t : Int) + 1 < (way.length : Int)) by omega]
    have : passS l way key = acc := by rw [passS, hacc, show way.length - 1 = t by omega]
    rw [← this]
    exact GhostV.refl (hk _ _)
end Go.Proofs.Ytmgkjbphlbpbfaa.AM

namespace Go.Proofs.Ytmgkjbphlbpbfaa.AM
open Go
set_option linter.unusedVariables false
set_option linter.unusedSimpArgs false
variable {P : Program}

def passR (l : List PredT) (way : List Nat) (k : KeyT) : V := if rightP l then (if !boxK k || decide (0 ∈ way) then .tup [vP [], .int .i64 2] else changeR (passS l way k)) else .tup [vP [], .int .i64 250]
theorem Pass_P (h : PassR P) (l : List PredT) (way : List Nat) (k : KeyT) (hl : l.length < 2 ^ 40) (hw : way.length ≤ 12) :
    PCalls P n_pred_Pass [vP l, .sl .unk 1 (way.map c32) [], .agg (cKey k)] (fun r => r = passR l way k) := by
  refine A_pred_Pass h.pass ?_
  unfold F_pred_Pass
  simp [st0, vP]
  refine inv_p (pCheck h.toBoxR l hl) rfl (by simp [pureL, pureLL]) ?_
  rintro _ rfl
  cases hr : rightP l
  · simp [passR, hr, vP]
    exact nilG
  simp
  refine inv_p (pBox h.toBoxR k) rfl rfl ?_
  rintro _ rfl
  cases hb : boxK k
  · simp [passR, hr, hb, vP]
    exact nilG
  simp
  refine inv_p (Contains_32 h way 0 (by omega)) rfl (by simp [pureL]) ?_
  rintro _ rfl
  by_cases h0 : 0 ∈ way
  · simp [passR, hr, hb, vP, h0]
    exact nilG
  simp [h0]
  refine inv_f0 (change_ok h.toChgR hl (Pass_1 h (way := way) (key := k) (by simp) (by simp) (rightP_iff.1 hr).2.2 (rightP_iff.1 hr).1 hw) (fun nv' => ?_))
  by_cases hc : 512 < (passS l way k).length
  · simp [hc, vP]
    exact GhostV.refl ⟨by simp [V.pure, pureL, pureLL], by simp [passR, hr, hb, h0, changeR, hc, vP]⟩
  · simp [hc, vP]
    exact GhostV.refl ⟨by simp [V.pure, pureL, pureLL], by simp [passR, hr, hb, h0, changeR, hc, vP]⟩

/-! ### the document's -/
theorem copyP_take {l acc : List PredT} {fr to i : Nat} {f : PredT → Bool} (h : i < l.length) : (atN (l.take (i + 1)) fr).foldl (pStep f to) acc = if l[i].node = fr then pStep f to ((atN (l.take i) fr).foldl (pStep f to) acc) l[i] else (atN (l.take i) fr).foldl (pStep f to) acc := by
  rw [atN_snoc h]
  split
  · rw [List.foldl_append]; rfl
  · rfl
def CoI (l : List PredT) (k : KeyT) (fr to : Nat) (f : PredT → Bool) (kk : Nat) (v : V) (st : St) : Prop :=
  ∃ i nv out, kk = l.length - i ∧ i ≤ l.length ∧ v = .int .i64 ((i : Nat) : Int) ∧ out = (atN (l.take i) fr).foldl (pStep f to) l ∧
    st = ⟨[some (0, .mem 1 [[.sl .unk 6 (l.map cPred) []]]), some (1, .mem 4 [cKey k]), some (2, .mem 1 [[.sl .nil 0 [] []]]), some (3, .mem 1 [[.sl .unk 6 (out.map cPred) []]])], nv⟩
set_option maxHeartbeats 1000000 in
theorem rCopied15 (h : PassR P) (l : List PredT) (fr to : Nat) (k : KeyT) (asked : Bool) (hl : l.length < 2 ^ 38) :
    PCalls P n_gazetteerref15_Copied [vP l, .int .u32 fr, .int .u32 to, .agg (cKey k), .bool asked] (fun r => r = vP (copyP l fr to (fun x => !asked || meetsK x.k k))) := by
  refine A_gazetteerref15_Copied h.rcopied ?_
  unfold F_gazetteerref15_Copied
  simp [st0, vP]
  obtain ⟨f, hf⟩ : ∃ f : PredT → Bool, f = fun x => !asked || meetsK x.k k := ⟨_, rfl⟩
  rw [← hf]
  refine ⟨CoI l k fr to f, ⟨l.length, GhostV.refl ⟨0, 4, l, by simp, by simp, by simp, by simp [atN], rfl⟩⟩, ?_⟩
  rintro kk v12 st ⟨i, nv, out, rfl, hi, rfl, hout, rfl⟩
  have hol : out.length ≤ l.length + l.length := by
    have h1 := foldl_len (f := pStep f to) (fun a x => pStep_len) (atN (l.take i) fr) l
    have h2 := atN_le (l := l.take i) (n := fr)
    rw [hout]; simp at h2; omega
  by_cases hlt : i < l.length
  · have hs := copyP_take (acc := l) (fr := fr) (to := to) (f := f) hlt
    rw [← hout] at hs
    have next : ∀ M nv', (l[i].node = fr → f l[i] = false) → ∃ j, j < l.length - i ∧ GhostV [.int .i64 (IntKind.i64.wrap ((i : Int) + 1))] ⟨[some (0, .mem 1 [[.sl .unk 6 (l.map cPred) []]]), some (1, .mem 4 [cKey k]), some (2, .mem 1 [[.sl .nil 0 [] []]]), some (3, .mem 1 [[.sl .unk 6 (out.map cPred) []]])] ++ M, nv'⟩ (app (n := 1) (CoI l k fr to f j)) := by
      intro M nv' hc
      refine ⟨l.length - (i + 1), by omega, GhostV.keep ⟨i + 1, nv', out, rfl, by omega, by rw [wadd1 (by omega)], ?_, rfl⟩⟩
      rw [hs]
      split
      · rename_i hq; simp [pStep, hc hq]
      · rfl
    have step : l[i].node = fr → f l[i] = true → (atN (l.take (i + 1)) fr).foldl (pStep f to) l = withP out { l[i] with node := to } := by
      intro h1 h2
      rw [hs, if_pos h1]; simp [pStep, h2]
    have fin : l[i].node = fr → f l[i] = true → ∀ M nv', ∃ j, j < l.length - i ∧ GhostV [.int .i64 (IntKind.i64.wrap ((i : Int) + 1))] ⟨[some (0, .mem 1 [[.sl .unk 6 (l.map cPred) []]]), some (1, .mem 4 [cKey k]), some (2, .mem 1 [[.sl .nil 0 [] []]]), some (3, .mem 1 [[.sl .unk 6 ((withP out { l[i] with node := to }).map cPred) []]])] ++ M, nv'⟩ (app (n := 1) (CoI l k fr to f j)) := by
      intro h1 h2 M nv'
      exact ⟨l.length - (i + 1), by omega, GhostV.keep ⟨i + 1, nv', _, rfl, by omega, by rw [wadd1 (by omega)], (step h1 h2).symm, rfl⟩⟩
    simp [hlt]
    by_cases h1 : l[i].node = fr
    · have hx : ∀ y : PredT, y = { l[i] with node := to } → vP (withP out y) = .agg [.sl .unk 6 ((withP out y).map cPred) []] := fun y _ => rfl
      cases asked
      · simp [h1]
        have qw := rWith15 h.toLawR15 out { l[i] with node := to } (by omega)
        refine inv_p qw rfl (by simp [pureL, pureLL, V.pure, vP]) ?_
        rintro _ rfl
        simp [vP]
        have := fin h1 (by rw [hf]; rfl) [some (nv, .mem 6 [[.int .u32 to, .int .u64 l[i].txn, .int .i64 l[i].k.x0, .int .i64 l[i].k.x1, .int .i64 l[i].k.y0, .int .i64 l[i].k.y1]])] (nv + 1)
        simpa using this
      · simp [h1]
        refine inv_p (rMeets h.toBoxR l[i].k k) (by simp) (by simp [pureL]) ?_
        rintro _ rfl
        cases hm : meetsK l[i].k k
        · simp [h1]
          have := next [some (nv, .mem 6 [[.int .u32 fr, .int .u64 l[i].txn, .int .i64 l[i].k.x0, .int .i64 l[i].k.x1, .int .i64 l[i].k.y0, .int .i64 l[i].k.y1]])] (nv + 1) (fun _ => by rw [hf]; simp [hm])
          simpa using this
        · simp [h1]
          have qw := rWith15 h.toLawR15 out { l[i] with node := to } (by omega)
          refine inv_p qw rfl (by simp [pureL, pureLL, V.pure, vP]) ?_
          rintro _ rfl
          simp [vP]
          have := fin h1 (by rw [hf]; simp [hm]) [some (nv, .mem 6 [[.int .u32 to, .int .u64 l[i].txn, .int .i64 l[i].k.x0, .int .i64 l[i].k.x1, .int .i64 l[i].k.y0, .int .i64 l[i].k.y1]])] (nv + 1)
          simpa using this
    · simp [h1]
      have := next [some (nv, .mem 6 [cPred l[i]])] (nv + 1) (fun h => absurd h h1)
      simpa using this
  · simp [hlt]
    rw [List.take_of_length_le (by omega)] at hout
    exact GhostV.bare ⟨by simp [V.pure, pureL, pureLL], by simp [copyP, hout, vP]⟩

def RpI (l : List PredT) (way : List Nat) (key : KeyT) (k : Nat) (v : V) (st : St) : Prop :=
  ∃ t nv, k = way.length - t ∧ t ≤ way.length - 1 ∧ v = .int .i64 ((t + 1 : Nat) : Int) ∧ st = ⟨[some (0, .mem 1 [[.sl .unk 6 ((passN l way key t).map cPred) []]]), some (1, .mem 4 [cKey key]), some (2, .mem 1 [[.sl .nil 0 [] []]])], nv⟩
theorem rPass15 (h : PassR P) (l : List PredT) (way : List Nat) (key : KeyT) (hl : l.length ≤ 512) (hw : way.length ≤ 12) :
    PCalls P n_gazetteerref15_Pass [vP l, .sl .unk 1 (way.map c32) [], .agg (cKey key)] (fun r => r = vP (passS l way key)) := by
  refine A_gazetteerref15_Pass h.rpass ?_
  unfold F_gazetteerref15_Pass
  simp [st0, vP]
  refine ⟨RpI l way key, ⟨way.length, GhostV.refl ⟨0, _, by simp, by omega, by simp, rfl⟩⟩, ?_⟩
  rintro k1 v st ⟨t, nv, rfl, ht, rfl, rfl⟩
  obtain ⟨acc, hacc⟩ : ∃ acc, acc = passN l way key t := ⟨_, rfl⟩
  rw [← hacc]
  have hla : acc.length ≤ 512 * 2 ^ t := by rw [hacc]; exact passN_len hl t
  by_cases hlt : t + 1 < way.length
  · have hp2 := pow2 (t := t) (by omega)
    have hw1 : IntKind.i64.wrap (((t + 1 : Nat) : Int) - 1) = ((t : Nat) : Int) := by rw [wrap_i64 (by omega)]; omega
    have ht0 : t < way.length := by omega
    obtain ⟨T, hT⟩ : ∃ T, T = t + 1 := ⟨_, rfl⟩
    rw [← hT] at hlt hw1 ⊢
    simp [hlt, hw1, ht0]
    refine inv_p (rCopied15 h acc way[t] way[T] key true (by omega)) rfl (by simp [pureL, pureLL, V.pure, vP]) ?_
    rintro _ rfl
    simp [vP]
    have e : passN l way key (t + 1) = copyP acc way[t] way[T] (fun x => meetsK x.k key) := by
      have e1 : way.getD t 0 = way[t] := by simp [List.getD, ht0]
      have e2 : way.getD (t + 1) 0 = way[T] := by rw [← hT]; simp [List.getD, hlt]
      simp only [passN]
      rw [← hacc, e1, e2]
    exact ⟨way.length - (t + 1), by omega, GhostV.refl ⟨t + 1, nv, rfl, by omega, by rw [hT, wadd1 (by omega)], by rw [e]; simp⟩⟩
  · simp [show ¬ ((t : Int) + 1 < (way.length : Int)) by omega]
    have : passS l way key = acc := by rw [passS, hacc, show way.length - 1 = t by omega]
    rw [this]
    exact GhostV.bare ⟨by simp [V.pure, pureL, pureLL], by simp [vP]⟩
end Go.Proofs.Ytmgkjbphlbpbfaa.AM

namespace Go.Proofs.Ytmgkjbphlbpbfaa.AM
open Go
set_option linter.unusedVariables false
set_option linter.unusedSimpArgs false
variable {P : Program}

def posW (way : List Nat) : Bool := way.all fun n => decide (0 < n)
theorem posW_mem {way : List Nat} : posW way = !decide (0 ∈ way) := by
  rw [Bool.eq_iff_iff]
  simp only [posW, List.all_eq_true, decide_eq_true_eq, Bool.not_eq_true', decide_eq_false_iff_not]
  constructor
  · intro h h0; have := h 0 h0; omega
  · intro h n hn
    rcases Nat.eq_zero_or_pos n with rfl | h2
    · exact absurd hn h
    · exact h2
theorem posW_snoc {way : List Nat} {i : Nat} (h : i < way.length) : posW (way.take (i + 1)) = (posW (way.take i) && decide (0 < way[i])) := by
  unfold posW
  rw [take_snoc h, List.all_append]; simp
theorem passS_len {l : List PredT} {way : List Nat} {k : KeyT} (hl : l.length ≤ 512) (hw : way.length ≤ 12) : (passS l way k).length ≤ 2097152 :=
  Nat.le_trans (passN_len hl _) (pow2 (by omega))
theorem pass_ans (l : List PredT) (way : List Nat) (k : KeyT) (hw : way.length ≤ 12) : ∃ a e, passR l way k = ans a e ∧ a.length < 2 ^ 40 ∧
    (rightP l = false → a = [] ∧ e = 250) ∧ (rightP l = true → toldB a e (boxK k && posW way) (passS l way k) = true) := by
  cases hr : rightP l
  · exact ⟨[], 250, by simp [ans, passR, hr], by simp, fun _ => ⟨rfl, rfl⟩, fun h => by cases h⟩
  have hlen := passS_len (way := way) (k := k) (rightP_iff.1 hr).1 hw
  rw [posW_mem]
  cases hb : boxK k
  · exact ⟨[], 2, by simp [ans, passR, hr, hb], by simp, fun h => (by cases h), fun _ => by simp [toldB]⟩
  by_cases h0 : 0 ∈ way
  · exact ⟨[], 2, by simp [ans, passR, hr, hb, h0], by simp, fun h => (by cases h), fun _ => by simp [toldB, h0]⟩
  by_cases hc : 512 < (passS l way k).length
  · exact ⟨[], 6, by simp [ans, passR, hr, hb, h0, changeR, hc], by simp, fun h => (by cases h), fun _ => by simp [toldB, hc, h0]⟩
  · exact ⟨passS l way k, 0, by simp [ans, passR, hr, hb, h0, changeR, hc], by omega, fun h => (by cases h), fun _ => by simp [toldB, hc, h0]⟩
def LpI (way : List Nat) (b : Bool) (L : List (Option (Nat × Obj))) (k : Nat) (v9 v48 : V) (st : St) : Prop :=
  ∃ i nv, k = way.length - i ∧ i ≤ way.length ∧ v9 = .bool (b && posW (way.take i)) ∧ v48 = .int .i64 ((i : Nat) : Int) ∧ st = ⟨L, nv⟩
set_option maxHeartbeats 2000000 in
theorem lPasses (h : PassR P) (l : List PredT) (way : List Nat) (k : KeyT) :
    PCalls P n_gazetteerlaw15_PredPasses [vP l, .sl .unk 1 (way.map c32) [], .agg (cKey k)] (fun r => r = .bool true) := by
  refine A_gazetteerlaw15_PredPasses h.lpass ?_
  unfold F_gazetteerlaw15_PredPasses
  simp [st0, vP]
  refine inv_p (wakes15 h.toLawR15) rfl rfl ?_
  rintro _ rfl
  simp
  by_cases h8 : (800 : Int) < (l.length : Int)
  · simp [h8]
    exact GhostV.refl ⟨rfl, rfl⟩
  by_cases h9 : (12 : Int) < (way.length : Int)
  · simp [h8, h9]
    exact GhostV.refl ⟨rfl, rfl⟩
  have hl : l.length < 2 ^ 40 := by omega
  have pv : ∀ l : List PredT, (vP l).pure = true := fun l => by simp [vP, V.pure, pureL, pureLL]
  obtain ⟨a, e, ha, hal, ha0, ha1⟩ := pass_ans l way k (by omega)
  simp [h8, h9]
  refine inv_p (Copied15 h.toLawR15 l hl) rfl (by simp [pureL, pv]) ?_
  rintro _ rfl
  have hwb : way.length * 4 ≤ 140737488355328 := by omega
  simp [hwb]
  have qa := Pass_P h l way k hl (by omega)
  rw [ha] at qa
  refine inv_p qa rfl (by simp [pureL, pv, V.pure]) ?_
  rintro _ rfl
  simp [ans, vP]
  refine inv_p (rRight h.toBoxR l hl) rfl (by simp [pureL, pv]) ?_
  rintro _ rfl
  cases hr : rightP l
  · obtain ⟨rfl, rfl⟩ := ha0 hr
    simp
    exact GhostV.refl ⟨rfl, rfl⟩
  have ha1 := ha1 hr
  simp
  refine inv_p (rBox h.toBoxR k) rfl rfl ?_
  rintro _ rfl
  simp
  obtain ⟨L, hL⟩ : ∃ L, L = [some (0, Obj.mem 1 [[V.sl SK.unk 6 (List.map cPred l) []]]), some (1, Obj.mem 4 [[.int .i64 k.x0, .int .i64 k.x1, .int .i64 k.y0, .int .i64 k.y1]]), some (2, Obj.mem 1 [[.sl .unk 6 (a.map cPred) []]])] := ⟨_, rfl⟩
  refine ⟨LpI way (boxK k) L, ⟨way.length, GhostV.refl ⟨0, _, by simp, by simp, by simp [posW], by simp, by rw [hL]⟩⟩, ?_⟩
  rintro k1 v9 v48 st ⟨i, nv, rfl, hi, hv9, rfl, rfl⟩
  obtain ⟨c, hc⟩ : ∃ c, c = (boxK k && posW (way.take i)) := ⟨_, rfl⟩
  rw [← hc] at hv9
  subst hv9
  by_cases hlt : i < way.length
  · have hsn := posW_snoc hlt
    have hst : ∀ d, d = (c && decide (0 < way[i])) → d = (boxK k && posW (way.take (i + 1))) := by
      rintro _ rfl
      rw [hsn, hc, Bool.and_assoc]
    cases c
    · simp [hlt]
      exact ⟨way.length - (i + 1), by omega, GhostV.refl ⟨i + 1, nv, rfl, by omega, by rw [← hst false (by simp)], by rw [wadd1 (by omega)], rfl⟩⟩
    · simp [hlt]
      exact ⟨way.length - (i + 1), by omega, GhostV.refl ⟨i + 1, nv, rfl, by omega, by rw [← hst _ rfl]; simp, by rw [wadd1 (by omega)], rfl⟩⟩
  · rw [List.take_of_length_le (by omega)] at hc
    rw [hL]
    simp [hlt]
    refine inv_p (rPass15 h l way k (rightP_iff.1 hr).1 (by omega)) rfl (by simp [pureL, pv, V.pure]) ?_
    rintro _ rfl
    simp
    refine inv_p (Told15 h.toLawR15 a (passS l way k) e c hal) rfl (by simp [pureL, pv, V.pure]) ?_
    rintro _ rfl
    rw [hc, ha1]
    exact GhostV.refl ⟨rfl, rfl⟩
end Go.Proofs.Ytmgkjbphlbpbfaa.AM

namespace Go.Proofs.Ytmgkjbphlbpbfaa.AM
open Go
set_option linter.unusedVariables false
set_option linter.unusedSimpArgs false
variable {P : Program}

structure GoneR (P : Program) : Prop extends PassR P where
  gone11 : R_pred_Gone_1_1 P
  gone1 : R_pred_Gone_1 P
  gone : R_pred_Gone P
  rgone : R_gazetteerref15_Gone P
  rsplit : R_gazetteerref15_Split P
  lmoves : R_gazetteerlaw15_PredMoves P

/-- Marks, each at another node, put to others. -/
def mvS (to : Nat) (acc : List PredT) (ys : List PredT) : List PredT := ys.foldl (fun a x => withP a { x with node := to }) acc
theorem mvS_srt {to : Nat} {acc ys : List PredT} (h : Srt acc) : Srt (mvS to acc ys) := foldl_srt (fun a x h => h.withP) _ _ h
theorem mvS_len {to : Nat} {acc ys : List PredT} : (mvS to acc ys).length ≤ acc.length + ys.length := foldl_len (f := fun a (x : PredT) => withP a { x with node := to }) (fun a x => withP_len) ys acc
theorem mem_mvS {to : Nat} {y : PredT} : ∀ {ys acc : List PredT}, y ∈ mvS to acc ys ↔ y ∈ acc ∨ ∃ x ∈ ys, y = { x with node := to }
  | [], acc => by simp [mvS]
  | x :: ys, acc => by
    have := mem_mvS (to := to) (y := y) (ys := ys) (acc := withP acc { x with node := to })
    unfold mvS at this ⊢
    rw [List.foldl_cons, this, mem_withP]
    simp only [List.mem_cons, exists_eq_or_imp]
    constructor
    · rintro ((h | h) | h)
      · exact .inr (.inl h)
      · exact .inl h
      · exact .inr (.inr h)
    · rintro (h | h | h)
      · exact .inl (.inr h)
      · exact .inl (.inl h)
      · exact .inr h
def inG (gone : List Nat) (x : PredT) : Bool := decide (x.node ∈ gone)
def abvP (old root : Nat) (gone : List Nat) (x : PredT) : Bool := decide (root ≠ old) && decide (x.node ≠ old) && inG gone x
def aboveS (l : List PredT) (gone : List Nat) (old root : Nat) : List PredT := atN l old ++ l.filter (abvP old root gone)
def staysS (l : List PredT) (gone : List Nat) : List PredT := l.filter fun x => !inG gone x
def goneS (l : List PredT) (gone : List Nat) (old root : Nat) : List PredT := mvS root (staysS l gone) (aboveS l gone old root)
theorem staysS_srt {l : List PredT} {gone : List Nat} (h : Srt l) : Srt (staysS l gone) := List.Pairwise.filter _ h
theorem staysS_len {l : List PredT} {gone : List Nat} : (staysS l gone).length ≤ l.length := List.length_filter_le _ _
theorem aboveS_len {l : List PredT} {gone : List Nat} {old root : Nat} : (aboveS l gone old root).length ≤ 2 * l.length := by
  have h1 := atN_le (l := l) (n := old)
  have h2 := List.length_filter_le (abvP old root gone) l
  unfold aboveS; rw [List.length_append]; omega

theorem Gone_1_1 (h : GoneR P) (gone : List Nat) (hg : gone.length < 2 ^ 40) (x : PredT) : PCalls P n_pred_Gone_1_1 ([.agg (cPred x)] ++ [.eptr [.sl .unk 1 (gone.map c32) []] 0]) (fun r => r = .bool (inG gone x)) := by
  refine A_pred_Gone_1_1 h.gone11 ?_
  unfold F_pred_Gone_1_1
  simp [st0]
  refine inv_p (Contains_32 h.toPassR gone x.node hg) rfl (by simp [pureL]) ?_
  rintro _ rfl
  exact GhostV.refl ⟨rfl, rfl⟩

/-- Of an array, less is known. -/
theorem ghost_shrink {L : List (Option (Nat × Obj))} {nv id ver sz k : Nat} {es : List (List V)} (ho : L[id]? = some (some (ver, .mem sz es))) :
    ∀ (P : Program) (g : G) (w : World), Sim P g ⟨L, nv⟩ w → ∃ g', g.le g' ∧ g'.dfr = g.dfr ∧ Sim P g' ⟨L.set id (some (ver, .mem sz (es.take k))), nv⟩ w := by
  intro P g w hs
  obtain ⟨L1, hL, hm⟩ := hs.obj _ _ _ ho
  obtain ⟨m1, m2, m3, m4, m5⟩ := hm
  have hget : ∀ i, i < (es.take k).length → (es.take k).getD i [] = es.getD i [] := fun i hi => by
    simp only [List.length_take] at hi
    simp only [List.getD, List.getElem?_take]; rw [if_pos (by omega)]
  have hlen : (es.take k).length ≤ es.length := by rw [List.length_take]; omega
  have := hs.turn (ver' := ver) (o' := .mem sz (es.take k)) (L' := L1) (g' := g) (w' := w) ho hL (.refl g) rfl rfl rfl rfl hs.fresh ⟨rfl, rfl, rfl, Nat.le_refl _, fun _ _ _ => rfl⟩ hL (fun b hb => .inl hb) (by
    refine ⟨m1, m2, fun i hi => by rw [hget i hi]; exact m3 i (by omega), by omega, ?_⟩
    cases hb : L1.blk with
    | none => rw [hb] at m5; exact m5
    | some b =>
      rw [hb] at m5
      obtain ⟨c, t, hc, hcs, hr⟩ := m5
      exact ⟨c, t, hc, hcs, fun i j hi hj => by rw [hget i hi]; exact hr i j (by omega) hj⟩)
  have e : g.nv = nv := hs.nv.symm
  rw [e] at this
  exact ⟨g, .refl g, rfl, this⟩

theorem abv_snoc {l : List PredT} {p : PredT → Bool} {i : Nat} (h : i < l.length) : (l.take (i + 1)).filter p = if p l[i] then (l.take i).filter p ++ [l[i]] else (l.take i).filter p := by
  rw [take_snoc h, List.filter_append]
  cases hp : p l[i] <;> simp [hp]
def GnI (W : List (Option (Nat × Obj))) (l base : List PredT) (p : PredT → Bool) (k : Nat) (v7 v : V) (st : St) : Prop :=
  ∃ i ver nv ab, k = l.length - i ∧ i ≤ l.length ∧ v = .int .i64 ((i : Nat) : Int) ∧ ab = base ++ (l.take i).filter p ∧ v7 = .msl W.length ver 0 ab.length ∧ st = ⟨W ++ [some (ver, .mem 6 (ab.map cPred))], nv⟩
def GnJ (B R : List (Option (Nat × Obj))) (i o vo root : Nat) (acc ys : List PredT) (k : Nat) (v : V) (st : St) : Prop :=
  ∃ j va nv cur, k = ys.length - j ∧ j ≤ ys.length ∧ v = .int .i64 ((j : Nat) : Int) ∧ cur = mvS root acc (ys.take j) ∧ Srt cur ∧ cur.length ≤ acc.length + j ∧ st = ⟨outB B i o vo va cur ++ R, nv⟩

set_option maxHeartbeats 2000000 in
theorem Gone_1 (h : GoneR P) {L : List (Option (Nat × Obj))} {a b c va vb vc : Nat} {l : List PredT} {gone : List Nat} {old root : Nat} (ha : L[a]? = some (some (va, .mem 1 [[.int .u32 old]]))) (hb : L[b]? = some (some (vb, .mem 1 [[.int .u32 root]]))) (hc : L[c]? = some (some (vc, .mem 1 [[.sl .unk 1 (gone.map c32) []]])))
    (hs : Srt l) (hl : l.length ≤ 512) (hg : gone.length < 2 ^ 40) : DoesOk P n_pred_Gone_1 [.ptr a va 0 0, .ptr b vb 0 0, .ptr c vc 0 0] L l (goneS l gone old root) := by
  intro B vo va0 nv K hB hBj hk
  have hal : a < L.length := (List.getElem?_eq_some_iff.1 ha).1
  have hbl : b < L.length := (List.getElem?_eq_some_iff.1 hb).1
  have hcl : c < L.length := (List.getElem?_eq_some_iff.1 hc).1
  obtain ⟨i, hi⟩ : ∃ i, i = L.length + 2 := ⟨_, rfl⟩
  obtain ⟨o, ho⟩ : ∃ o, o = L.length + 3 := ⟨_, rfl⟩
  rw [← hi, ← ho] at hk ⊢
  have hiB : i < B.length := by omega
  have hoB : o < B.length := by omega
  have hio : i ≠ o := by omega
  have gL : ∀ {j} {x : Option (Nat × Obj)}, j < L.length → L[j]? = some x → ∀ va l' R, (outB B i o vo va l' ++ R)[j]? = some x := fun {j x} hj hx va l' R => by
    rw [List.getElem?_append_left (by simp; omega), outB_j (by omega) (by omega), hBj j hj]; exact hx
  have go : ∀ va l' R, (outB B i o vo va l' ++ R)[o]? = some (some (vo, .mem 1 [[.msl i va 0 l'.length]])) := fun va l' R => by
    rw [List.getElem?_append_left (by simp; omega)]; exact outB_o hoB
  have gi : ∀ va l' R, (outB B i o vo va l' ++ R)[i]? = some (some (va, .mem 6 (l'.map cPred))) := fun va l' R => by
    rw [List.getElem?_append_left (by simp; omega)]; exact outB_i hiB hio
  have go0 : (outB B i o vo va0 l)[o]? = some (some (vo, .mem 1 [[.msl i va0 0 l.length]])) := by simpa using go va0 l []
  have ga0 : (outB B i o vo va0 l)[a]? = some (some (va, .mem 1 [[.int .u32 old]])) := by simpa using gL hal ha va0 l []
  refine A_pred_Gone_1 h.gone1 ?_
  unfold F_pred_Gone_1
  simp [go0, ga0]
  refine inv_f0 (at_P h.toIterPR (rv := .msl i va0 0 l.length) rfl ?_)
  simp
  refine inv_f0 (Collect_P h.toIterPR (L := outB B i o vo va0 l ++ [some (nv, .mem 1 [[.msl i va0 0 l.length]]), some (nv + 1, .mem 1 [[.int .u32 old]])]) (fun M => ?_) (at_iterM h.toIterPR l old (by omega) (d := i) (va := va0)) ?_ ?_)
  · refine ⟨?_, ?_, ?_⟩
    · rw [List.append_assoc, List.getElem?_append_right (by simp)]; simp
    · rw [List.append_assoc, List.getElem?_append_right (by simp)]; simp
    · rw [List.append_assoc]; exact gi _ _ _
  · intro ys rest hd
    have h1 := atN_le (l := l) (n := old)
    rw [← hd] at h1; simp at h1; omega
  intro ys va2 nv2 M hys hM3 hM
  subst hys
  obtain ⟨m0, m1, rfl⟩ : ∃ m0 m1, M = [m0, m1, some (va2, Obj.mem 6 ((atN l old).map cPred))] := by
    match M, hM3 with
    | [m0, m1, m2], _ => simp at hM; subst hM; exact ⟨m0, m1, rfl⟩
  obtain ⟨R4, hR4⟩ : ∃ R4, R4 = [some (nv, Obj.mem 1 [[.msl i va0 0 l.length]]), some (nv + 1, Obj.mem 1 [[.int .u32 old]]), m0, m1] := ⟨_, rfl⟩
  have hR4l : R4.length = 4 := by rw [hR4]; rfl
  have hst : outB B i o vo va0 l ++ [some (nv, Obj.mem 1 [[V.msl i va0 0 l.length]]), some (nv + 1, Obj.mem 1 [[V.int .u32 old]])] ++ [m0, m1, some (va2, Obj.mem 6 ((atN l old).map cPred))] = (outB B i o vo va0 l ++ R4) ++ [some (va2, Obj.mem 6 ((atN l old).map cPred))] := by
    rw [hR4]; simp
  have hix : (outB B i o vo va0 l ++ [some (nv, Obj.mem 1 [[V.msl i va0 0 l.length]]), some (nv + 1, Obj.mem 1 [[V.int .u32 old]])]).length + 2 = (outB B i o vo va0 l ++ R4).length := by simp [hR4l]
  rw [hst, hix]
  obtain ⟨W, hW⟩ : ∃ W, W = outB B i o vo va0 l ++ R4 := ⟨_, rfl⟩
  have woW : ∀ S, (W ++ S)[o]? = some (some (vo, .mem 1 [[.msl i va0 0 l.length]])) := fun S => by rw [hW, List.append_assoc]; exact go _ _ _
  have wiW : ∀ S, (W ++ S)[i]? = some (some (va0, .mem 6 (l.map cPred))) := fun S => by rw [hW, List.append_assoc]; exact gi _ _ _
  have waW : ∀ S, (W ++ S)[a]? = some (some (va, .mem 1 [[.int .u32 old]])) := fun S => by rw [hW, List.append_assoc]; exact gL hal ha _ _ _
  have wbW : ∀ S, (W ++ S)[b]? = some (some (vb, .mem 1 [[.int .u32 root]])) := fun S => by rw [hW, List.append_assoc]; exact gL hbl hb _ _ _
  have wcW : ∀ S, (W ++ S)[c]? = some (some (vc, .mem 1 [[.sl .unk 1 (gone.map c32) []]])) := fun S => by rw [hW, List.append_assoc]; exact gL hcl hc _ _ _
  rw [← hW]
  simp [woW]
  refine ⟨GnI W l (atN l old) (abvP old root gone), ⟨l.length, GhostV.refl ⟨0, va2, nv2, atN l old, by simp, by simp, by simp, by simp, rfl, rfl⟩⟩, ?_⟩
  rintro k1 v7 v23 st ⟨q, ver, nv3, ab, rfl, hq, rfl, hab, rfl, rfl⟩
  by_cases hlq : q < l.length
  · have hsn := abv_snoc (p := abvP old root gone) hlq
    have habl : ab.length ≤ 2 * l.length := by
      have h1 := atN_le (l := l) (n := old)
      have h2 := List.length_filter_le (abvP old root gone) (l.take q)
      rw [hab, List.length_append]; simp at h2 ⊢; omega
    have skip : ∀ M nv', abvP old root gone l[q] = false → ∃ j, j < l.length - q ∧ GhostV [.msl W.length ver 0 ab.length, .int .i64 (IntKind.i64.wrap ((q : Int) + 1))] ⟨(W ++ [some (ver, .mem 6 (ab.map cPred))]) ++ M, nv'⟩ (app (n := 2) (GnI W l (atN l old) (abvP old root gone) j)) := by
      intro M nv' hp
      rw [hp] at hsn
      exact ⟨l.length - (q + 1), by omega, GhostV.keep ⟨q + 1, ver, nv', ab, rfl, by omega, by rw [wadd1 (by omega)], by rw [hab, hsn]; rfl, rfl, rfl⟩⟩
    simp [hlq, wiW, waW, wbW]
    by_cases hro : root = old
    · subst hro
      have hp : abvP root root gone l[q] = false := by simp [abvP]
      simp
      have := skip [some (nv3, .mem 6 [cPred l[q]])] (nv3 + 1) hp
      simpa using this
    by_cases hno : l[q].node = old
    · have hp : abvP old root gone l[q] = false := by simp [abvP, hno]
      simp [hro, waW, hno]
      have := skip [some (nv3, .mem 6 [[.int .u32 old, .int .u64 l[q].txn, .int .i64 l[q].k.x0, .int .i64 l[q].k.x1, .int .i64 l[q].k.y0, .int .i64 l[q].k.y1]])] (nv3 + 1) hp
      simpa using this
    · simp [hro, waW, hno, wcW]
      refine inv_p (Contains_32 h.toPassR gone l[q].node hg) (by simp) (by simp [pureL]) ?_
      rintro _ rfl
      by_cases hin : l[q].node ∈ gone
      · have hp : abvP old root gone l[q] = true := by simp [abvP, inG, hno, hin, hro]
        rw [hp] at hsn
        simp [hin, hro, hno]
        refine ⟨by omega, l.length - (q + 1), by omega, ?_⟩
        have := GhostV.keep (L := W ++ [some (nv3 + 1 + 1, Obj.mem 6 ((ab ++ [l[q]]).map cPred))]) (M := [some (nv3, Obj.mem 6 [cPred l[q]]), some (nv3 + 1, Obj.mem 6 [cPred l[q]])]) (nv := nv3 + 1 + 1 + 1) (vs := [.msl W.length (nv3 + 1 + 1) 0 (ab.length + 1), .int .i64 (IntKind.i64.wrap ((q : Int) + 1))])
          (K := app (n := 2) (GnI W l (atN l old) (abvP old root gone) (l.length - (q + 1)))) ⟨q + 1, nv3 + 1 + 1, _, ab ++ [l[q]], rfl, by omega, by rw [wadd1 (by omega)], by rw [hab, hsn]; simp, by simp, rfl⟩
        simpa using this
      · have hp : abvP old root gone l[q] = false := by simp [abvP, inG, hin]
        simp [hin, hro, hno]
        have := skip [some (nv3, .mem 6 [cPred l[q]])] (nv3 + 1) hp
        simpa using this
  · simp [hlq, woW]
    rw [List.take_of_length_le (by omega)] at hab
    have hci : c ≠ i := by omega
    refine inv_f0 (DeleteFunc h.idxf h.del (cap' := [.eptr [.sl .unk 1 (gone.map c32) []] 0]) (p := inG gone) l (by omega) (by simp [pureL, pureLL]) (fun x => Gone_1_1 h gone hg x) (wiW _) ?_ ?_)
    · intro L' nv' hL'
      have := hL' c hci (by simp [hW]; omega)
      rw [wcW] at this
      exact Bors.cons (.box1 (by simp [St.get, this])) Bors.nil
    intro nv4 rows d1 d2
    have hWi : i < W.length := by rw [hW]; simp; omega
    have hWo : o < W.length := by rw [hW]; simp; omega
    obtain ⟨A, hA⟩ : ∃ A, A = some (ver, Obj.mem 6 (ab.map cPred)) := ⟨_, rfl⟩
    obtain ⟨W2, hW2⟩ : ∃ W2, W2 = W.set i (some (va0, Obj.mem 6 rows)) := ⟨_, rfl⟩
    have hs1 : (W ++ [A]).set i (some (va0, Obj.mem 6 rows)) = W2 ++ [A] := by rw [hW2, List.set_append_left _ _ hWi]
    have woW2 : ∀ S, (W2 ++ S)[o]? = some (some (vo, .mem 1 [[.msl i va0 0 l.length]])) := fun S => by
      rw [hW2, List.getElem?_append_left (by simpa using hWo), List.getElem?_set_ne hio]
      have := woW []
      rwa [List.append_nil] at this
    rw [← hA, hs1]
    have hW2o : o < W2.length := by rw [hW2]; simpa using hWo
    simp [woW2, hW2o]
    obtain ⟨l1, hl1⟩ : ∃ l1, l1 = staysS l gone := ⟨_, rfl⟩
    have hfl : (l.filter fun x => !inG gone x) = l1 := by rw [hl1]; rfl
    rw [hfl] at d1 d2 ⊢
    have hout : (W2.set o (some (vo, Obj.mem 1 [[.msl i va0 0 l1.length]]))).set i (some (va0, Obj.mem 6 (rows.take l1.length))) ++ [A] = outB B i o vo va0 l1 ++ (R4 ++ [A]) := by
      rw [hW2, hW, d1]
      rw [List.set_comm _ _ (Ne.symm hio), List.set_set, ← List.append_assoc]
      congr 1
      exact outB_again hiB hoB hio
    have hiW2 : i < W2.length := by rw [hW2]; simpa using hWi
    have hLi : (W2.set o (some (vo, Obj.mem 1 [[.msl i va0 0 l1.length]])) ++ [A])[i]? = some (some (va0, Obj.mem 6 rows)) := by
      rw [List.getElem?_append_left (by simpa using hiW2), List.getElem?_set_ne (Ne.symm hio), hW2, List.getElem?_set_self hWi]
    have hLs : (W2.set o (some (vo, Obj.mem 1 [[.msl i va0 0 l1.length]])) ++ [A]).set i (some (va0, Obj.mem 6 (rows.take l1.length))) = outB B i o vo va0 l1 ++ (R4 ++ [A]) := by
      rw [List.set_append_left _ _ (by simpa using hiW2)]; exact hout
    have hs1 : Srt l1 := by rw [hl1]; exact staysS_srt hs
    have hl1l : l1.length ≤ 512 := by rw [hl1]; exact Nat.le_trans staysS_len hl
    have habe : ab = aboveS l gone old root := hab
    have habl : ab.length ≤ 1024 := by rw [habe]; have := aboveS_len (l := l) (gone := gone) (old := old) (root := root); omega
    have hWl : W.length = B.length + 4 := by rw [hW]; simp [hR4l]
    have gA : ∀ va l' S, (outB B i o vo va l' ++ (R4 ++ [A]) ++ S)[W.length]? = some (some (ver, Obj.mem 6 (ab.map cPred))) := fun va l' S => by
      rw [List.append_assoc, List.getElem?_append_right (by simp [hWl]), hWl, hA]
      simp [hR4l, List.getElem?_append_right]
    refine ⟨GnJ B (R4 ++ [A]) i o vo root l1 ab, ⟨ab.length, GhostV.ghost (ghost_shrink (k := l1.length) hLi) ?_⟩, ?_⟩
    · rw [hLs]
      exact ⟨0, va0, nv4, l1, by simp, by simp, by simp, by simp [mvS], hs1, by omega, rfl⟩
    rintro k2 v58 st ⟨j, va3, nv5, cur, rfl, hj, rfl, hcur, hsc, hlc, rfl⟩
    by_cases hlj : j < ab.length
    · obtain ⟨V2, hV2⟩ : ∃ V2, V2 = outB B i o vo va3 cur ++ (R4 ++ [A]) := ⟨_, rfl⟩
      have vA : ∀ S, (V2 ++ S)[W.length]? = some (some (ver, Obj.mem 6 (ab.map cPred))) := fun S => by rw [hV2]; exact gA _ _ _
      have vb2 : ∀ S, (V2 ++ S)[b]? = some (some (vb, .mem 1 [[.int .u32 root]])) := fun S => by rw [hV2, List.append_assoc]; exact gL hbl hb _ _ _
      have vA0 := vA []
      rw [List.append_nil] at vA0
      rw [← hV2]
      simp [hlj, vA0, vb2]
      obtain ⟨x1, hx1⟩ : ∃ x1 : PredT, x1 = { ab[j] with node := root } := ⟨_, rfl⟩
      have att := attach_out h.toAttR (B := B) (R := (R4 ++ [A]) ++ [some (nv5, Obj.mem 6 [cPred x1])]) (nv := nv5 + 1) (i := i) (o := o) (va := va3) (vo := vo) (l := cur) (x := x1) hiB hoB hio hsc (by omega)
        (K := fun r st => ∃ va' nv', r = .tup [] ∧ st = ⟨outB B i o vo va' (withP cur x1) ++ ((R4 ++ [A]) ++ [some (nv5, Obj.mem 6 [cPred x1])]), nv'⟩) (fun va' nv' => ⟨va', nv', rfl, rfl⟩)
      rw [← List.append_assoc, ← hV2, hx1] at att
      refine inv_fn (first := []) (ACalls.mono ?_ att)
      rintro _ _ ⟨va', nv', rfl, rfl⟩
      rw [← hx1, ← List.append_assoc]
      have hnext : mvS root l1 (ab.take (j + 1)) = withP cur x1 := by
        rw [hcur, hx1]; exact foldl_take hlj
      have hl2 := withP_len (l := cur) (x := x1)
      have := GhostV.keep (L := outB B i o vo va' (withP cur x1) ++ (R4 ++ [A])) (M := [some (nv5, Obj.mem 6 [cPred x1])]) (nv := nv') (vs := [.int .i64 (IntKind.i64.wrap ((j : Int) + 1))])
        (K := app (n := 1) (GnJ B (R4 ++ [A]) i o vo root l1 ab (ab.length - (j + 1)))) ⟨j + 1, va', nv', withP cur x1, rfl, by omega, by rw [wadd1 (by omega)], hnext.symm, hsc.withP, by omega, rfl⟩
      simp
      exact ⟨ab.length - (j + 1), by omega, by simpa using this⟩
    · simp [hlj]
      rw [List.take_of_length_le (by omega)] at hcur
      have e : goneS l gone old root = cur := by rw [goneS, ← hl1, ← habe, hcur]
      rw [← e]
      exact GhostV.keep (hk _ _)
end Go.Proofs.Ytmgkjbphlbpbfaa.AM

namespace Go.Proofs.Ytmgkjbphlbpbfaa.AM
open Go
set_option linter.unusedVariables false
set_option linter.unusedSimpArgs false
variable {P : Program}

def goneBad (gone : List Nat) (old root : Nat) : Bool := decide (0 ∈ gone) || decide (old = 0) || decide (root = 0)
def goneR (l : List PredT) (gone : List Nat) (old root : Nat) : V := if rightP l then (if goneBad gone old root then .tup [vP [], .int .i64 2] else changeR (goneS l gone old root)) else .tup [vP [], .int .i64 250]
theorem Gone_P (h : GoneR P) (l : List PredT) (gone : List Nat) (old root : Nat) (hl : l.length < 2 ^ 40) (hg : gone.length < 2 ^ 40) :
    PCalls P n_pred_Gone [vP l, .sl .unk 1 (gone.map c32) [], .int .u32 old, .int .u32 root] (fun r => r = goneR l gone old root) := by
  refine A_pred_Gone h.gone ?_
  unfold F_pred_Gone
  simp [st0, vP]
  refine inv_p (pCheck h.toBoxR l hl) rfl (by simp [pureL, pureLL]) ?_
  rintro _ rfl
  cases hr : rightP l
  · simp [goneR, hr, vP]
    exact nilG
  simp
  refine inv_p (Contains_32 h.toPassR gone 0 hg) rfl (by simp [pureL]) ?_
  rintro _ rfl
  by_cases h0 : 0 ∈ gone
  · simp [goneR, goneBad, hr, vP, h0]
    exact nilG
  by_cases h1 : old = 0
  · simp [goneR, goneBad, hr, vP, h0, h1]
    exact nilG
  by_cases h2 : root = 0
  · simp [goneR, goneBad, hr, vP, h0, h1, h2]
    exact nilG
  simp [h0, h1, h2]
  refine inv_f0 (change_ok h.toChgR hl (Gone_1 h (gone := gone) (old := old) (root := root) (by simp) (by simp) (by simp) (rightP_iff.1 hr).2.2 (rightP_iff.1 hr).1 hg) (fun nv' => ?_))
  by_cases hc : 512 < (goneS l gone old root).length
  · simp [hc, vP]
    exact GhostV.refl ⟨by simp [V.pure, pureL, pureLL], by simp [goneR, goneBad, hr, h0, h1, h2, changeR, hc, vP]⟩
  · simp [hc, vP]
    exact GhostV.refl ⟨by simp [V.pure, pureL, pureLL], by simp [goneR, goneBad, hr, h0, h1, h2, changeR, hc, vP]⟩

/-! ### plain -/
def mvP (old root : Nat) (gone : List Nat) (x : PredT) : Bool := decide (x.node = old) || (decide (old ≠ root) && inG gone x)
def refGone (l : List PredT) (gone : List Nat) (old root : Nat) : List PredT := mvS root (staysS l gone) (l.filter (mvP old root gone))
theorem gone_eq {l : List PredT} {gone : List Nat} {old root : Nat} (h : Srt l) : refGone l gone old root = goneS l gone old root := by
  refine Srt.ext (mvS_srt (staysS_srt h)) (mvS_srt (staysS_srt h)) (fun y => ?_)
  unfold refGone goneS
  rw [mem_mvS, mem_mvS]
  have key : ∀ x, x ∈ l.filter (mvP old root gone) ↔ x ∈ aboveS l gone old root := by
    intro x
    simp only [aboveS, atN, abvP, mvP, List.mem_append, List.mem_filter, Bool.or_eq_true, Bool.and_eq_true, decide_eq_true_eq]
    constructor
    · rintro ⟨h1, h2 | ⟨h2, h3⟩⟩
      · exact .inl ⟨h1, h2⟩
      · by_cases e : x.node = old
        · exact .inl ⟨h1, e⟩
        · exact .inr ⟨h1, ⟨fun e => h2 e.symm, e⟩, h3⟩
    · rintro (⟨h1, h2⟩ | ⟨h1, ⟨h2, h3⟩, h4⟩)
      · exact ⟨h1, .inl h2⟩
      · exact ⟨h1, .inr ⟨fun e => h2 e.symm, h4⟩⟩
  simp only [key]
def refOne (root : Nat) (acc : List PredT) (s : SplT) : List PredT := if s.root then mvS root (mvS s.new acc (atN acc s.old)) (atN acc s.old) else mvS s.new acc (atN acc s.old)
def refSplit (l : List PredT) (sp : List SplT) (root : Nat) : List PredT := sp.foldl (refOne root) l
theorem mem_spFold {s : SplT} {root : Nat} {y : PredT} : ∀ {ys acc : List PredT}, y ∈ ys.foldl (spStep s root) acc ↔ y ∈ acc ∨ ∃ x ∈ ys, y = { x with node := s.new } ∨ (s.root = true ∧ y = { x with node := root })
  | [], acc => by simp
  | x :: ys, acc => by
    rw [List.foldl_cons, mem_spFold]
    have h1 : y ∈ spStep s root acc x ↔ y ∈ acc ∨ (y = { x with node := s.new } ∨ (s.root = true ∧ y = { x with node := root })) := by
      unfold spStep
      cases hr : s.root
      · simp only [Bool.false_eq_true, if_false, mem_withP, false_and, or_false]
        exact Or.comm
      · simp only [if_true, mem_withP, true_and]
        constructor
        · rintro (h | h | h)
          · exact .inr (.inr h)
          · exact .inr (.inl h)
          · exact .inl h
        · rintro (h | h | h)
          · exact .inr (.inr h)
          · exact .inr (.inl h)
          · exact .inl h
    rw [h1]
    simp only [List.mem_cons, exists_eq_or_imp, or_assoc]
theorem one_eq {root : Nat} {acc : List PredT} {s : SplT} (h : Srt acc) : refOne root acc s = spOne root acc s := by
  refine Srt.ext ?_ (foldl_srt (fun a x h => spStep_srt h) _ _ h) (fun y => ?_)
  · unfold refOne; split
    · exact mvS_srt (mvS_srt h)
    · exact mvS_srt h
  · unfold spOne refOne
    rw [mem_spFold]
    cases hr : s.root
    · simp only [Bool.false_eq_true, if_false, mem_mvS, false_and, or_false]
    · simp only [if_true, mem_mvS, true_and]
      constructor
      · rintro ((h | ⟨x, h1, h2⟩) | ⟨x, h1, h2⟩)
        · exact .inl h
        · exact .inr ⟨x, h1, .inl h2⟩
        · exact .inr ⟨x, h1, .inr h2⟩
      · rintro (h | ⟨x, h1, h2 | h2⟩)
        · exact .inl (.inl h)
        · exact .inl (.inr ⟨x, h1, h2⟩)
        · exact .inr ⟨x, h1, h2⟩
theorem split_take_eq {root : Nat} {sp : List SplT} : ∀ {l : List PredT}, Srt l → sp.foldl (refOne root) l = sp.foldl (spOne root) l := by
  induction sp with
  | nil => intro l h; rfl
  | cons s sp ih =>
    intro l h
    rw [List.foldl_cons, List.foldl_cons, one_eq h]
    exact ih (foldl_srt (fun a x h => spStep_srt h) _ _ h)
theorem split_eq {root : Nat} {sp : List SplT} {l : List PredT} (h : Srt l) : refSplit l sp root = splitS l sp root := split_take_eq h
theorem refOne_len {root : Nat} {acc : List PredT} {s : SplT} : (refOne root acc s).length ≤ 3 * acc.length := by
  have h1 := atN_le (l := acc) (n := s.old)
  have h2 := mvS_len (to := s.new) (acc := acc) (ys := atN acc s.old)
  have h3 := mvS_len (to := root) (acc := mvS s.new acc (atN acc s.old)) (ys := atN acc s.old)
  unfold refOne; split <;> omega
theorem refSp_len {root : Nat} {l : List PredT} (hl : l.length ≤ 512) (sp : List SplT) : ∀ t, t ≤ sp.length → ((sp.take t).foldl (refOne root) l).length ≤ 512 * 3 ^ t
  | 0, _ => by simpa using hl
  | t + 1, ht => by
    have h1 := refSp_len (root := root) hl sp t (by omega)
    rw [foldl_take (by omega)]
    have h2 := refOne_len (root := root) (acc := (sp.take t).foldl (refOne root) l) (s := sp[t])
    rw [Nat.pow_succ]; omega
theorem copyP_all {acc : List PredT} {fr to : Nat} {k : KeyT} : copyP acc fr to (fun x => !false || meetsK x.k k) = mvS to acc (atN acc fr) := by
  unfold copyP mvS
  congr 1

/-! ### the document's Split -/
def RsI (l : List PredT) (sp : List SplT) (root : Nat) (k : Nat) (v : V) (st : St) : Prop :=
  ∃ t nv, k = sp.length - t ∧ t ≤ sp.length ∧ v = .int .i64 ((t : Nat) : Int) ∧ st = ⟨[some (0, .mem 1 [[.sl .unk 6 (((sp.take t).foldl (refOne root) l).map cPred) []]]), some (1, .mem 1 [[.sl .nil 0 [] []]])], nv⟩
def RsJ (acc : List PredT) (old to : Nat) (base : List PredT) (vw : Nat) (k : Nat) (v : V) (st : St) : Prop :=
  ∃ j nv, k = acc.length - j ∧ j ≤ acc.length ∧ v = .int .i64 ((j : Nat) : Int) ∧ st = ⟨[some (0, .mem 1 [[.sl .unk 6 ((mvS to base (atN (acc.take j) old)).map cPred) []]]), some (1, .mem 1 [[.sl .nil 0 [] []]]), some (vw, .mem 1 [[.sl .unk 6 (acc.map cPred) []]])], nv⟩
theorem mv_snoc {l base : List PredT} {old to j : Nat} (h : j < l.length) : mvS to base (atN (l.take (j + 1)) old) = if l[j].node = old then withP (mvS to base (atN (l.take j) old)) { l[j] with node := to } else mvS to base (atN (l.take j) old) := by
  rw [atN_snoc h]
  split
  · unfold mvS; rw [List.foldl_append]; rfl
  · rfl
set_option maxHeartbeats 1000000 in
theorem rSplit15 (h : GoneR P) (l : List PredT) (sp : List SplT) (root : Nat) (hl : l.length ≤ 512) (hsp : sp.length ≤ 12) :
    PCalls P n_gazetteerref15_Split [vP l, .sl .unk 3 (sp.map cSpl) [], .int .u32 root] (fun r => r = vP (refSplit l sp root)) := by
  refine A_gazetteerref15_Split h.rsplit ?_
  unfold F_gazetteerref15_Split
  simp [st0, vP]
  refine ⟨RsI l sp root, ⟨sp.length, GhostV.refl ⟨0, _, by simp, by simp, by simp, rfl⟩⟩, ?_⟩
  rintro k1 v7 st ⟨t, nv, rfl, ht, rfl, rfl⟩
  by_cases hlt : t < sp.length
  · obtain ⟨acc, hacc⟩ : ∃ acc, acc = (sp.take t).foldl (refOne root) l := ⟨_, rfl⟩
    have hal := refSp_len (root := root) hl sp t ht
    rw [← hacc] at hal ⊢
    have hp3 := pow3 (t := t) (by omega)
    have hnext := foldl_take (f := refOne root) (b := l) hlt
    rw [← hacc] at hnext
    simp [hlt]
    have qc := rCopied15 h.toPassR acc sp[t].old sp[t].new ⟨0, 0, 0, 0⟩ false (by omega)
    rw [copyP_all] at qc
    refine inv_p qc rfl (by simp [pureL, pureLL, V.pure, vP]) ?_
    rintro _ rfl
    obtain ⟨base, hbase⟩ : ∃ base, base = mvS sp[t].new acc (atN acc sp[t].old) := ⟨_, rfl⟩
    have hbl : base.length ≤ 2 * acc.length := by
      have h1 := atN_le (l := acc) (n := sp[t].old)
      have h2 := mvS_len (to := sp[t].new) (acc := acc) (ys := atN acc sp[t].old)
      rw [hbase]; omega
    rw [← hbase]
    simp [hlt, vP]
    cases hrt : sp[t].root
    · simp
      have e : refOne root acc sp[t] = base := by rw [refOne, hrt, hbase]; rfl
      rw [e] at hnext
      exact ⟨sp.length - (t + 1), by omega, GhostV.keep (L := [_, _]) ⟨t + 1, _, rfl, by omega, by rw [wadd1 (by omega)], by rw [hnext]⟩⟩
    · simp
      have e : refOne root acc sp[t] = mvS root base (atN acc sp[t].old) := by rw [refOne, hrt, hbase]; rfl
      rw [e] at hnext
      refine ⟨RsJ acc sp[t].old root base nv, ⟨acc.length, GhostV.refl ⟨0, _, by simp, by simp, by simp, by simp [atN, mvS]; rfl⟩⟩, ?_⟩
      rintro k2 v9 st ⟨j, nv2, rfl, hj, rfl, rfl⟩
      by_cases hlj : j < acc.length
      · have hml : (mvS root base (atN (acc.take j) sp[t].old)).length ≤ 4 * acc.length := by
          have h1 := atN_le (l := acc.take j) (n := sp[t].old)
          have h2 := mvS_len (to := root) (acc := base) (ys := atN (acc.take j) sp[t].old)
          simp at h1; omega
        have hms := mv_snoc (base := base) (old := sp[t].old) (to := root) hlj
        simp [hlj, hlt]
        by_cases hno : acc[j].node = sp[t].old
        · rw [if_pos hno] at hms
          simp [hno]
          refine inv_p (rWith15 h.toLawR15 (mvS root base (atN (acc.take j) sp[t].old)) { acc[j] with node := root } (by omega)) rfl (by simp [pureL, pureLL, V.pure, vP]) ?_
          rintro _ rfl
          rw [← hms]
          simp [vP]
          exact ⟨acc.length - (j + 1), by omega, GhostV.keep (L := [_, _, _]) ⟨j + 1, _, rfl, by omega, by rw [wadd1 (by omega)], rfl⟩⟩
        · rw [if_neg hno] at hms
          simp [hno]
          exact ⟨acc.length - (j + 1), by omega, GhostV.keep (L := [_, _, _]) ⟨j + 1, _, rfl, by omega, by rw [wadd1 (by omega)], by rw [hms]⟩⟩
      · simp [hlj]
        rw [List.take_of_length_le (by omega)]
        exact ⟨sp.length - (t + 1), by omega, GhostV.keep (L := [_, _]) ⟨t + 1, _, rfl, by omega, by rw [wadd1 (by omega)], by rw [hnext]⟩⟩
  · simp [hlt]
    rw [List.take_of_length_le (by omega)]
    exact GhostV.bare ⟨by simp [V.pure, pureL, pureLL], by simp [vP, refSplit]⟩
end Go.Proofs.Ytmgkjbphlbpbfaa.AM

namespace Go.Proofs.Ytmgkjbphlbpbfaa.AM
open Go
set_option linter.unusedVariables false
set_option linter.unusedSimpArgs false
variable {P : Program}

/-- A box with an array: the array is written no more, the box holds a row of values. -/
theorem ghost_frzbox {L : List (Option (Nat × Obj))} {nv j id vb ver sz n : Nat} {es : List (List V)} (hji : j ≠ id) (hj : L[j]? = some (some (vb, .mem 1 [[.msl id ver 0 n]]))) (ho : L[id]? = some (some (ver, .mem sz es))) (hn : n ≤ es.length) :
    ∀ (P : Program) (g : G) (w : World), Sim P g ⟨L, nv⟩ w → ∃ g', g.le g' ∧ g'.dfr = g.dfr ∧ Sim P g' ⟨(L.set id none).set j (some (vb, .mem 1 [[.sl .unk sz (es.take n) (es.drop n)]])), nv⟩ w := by
  intro P g w hs
  have hjl : j < L.length := (List.getElem?_eq_some_iff.1 hj).1
  have hil : id < L.length := (List.getElem?_eq_some_iff.1 ho).1
  obtain ⟨g', h1, h2, h3, _⟩ := freeze_core (st := ⟨L, nv⟩) (st' := ⟨(L.set id none).set j (some (vb, .mem 1 [[.sl .unk sz (es.take n) (es.drop n)]])), nv⟩) (id := id) (ver := ver) (sz := sz) (es := es) (by simp [St.get, ho]) rfl (fun id1 ver1 o1 h => by
    simp only at h ⊢
    by_cases e : j = id1
    · subst e
      rw [List.getElem?_set_self (by simpa using hjl)] at h
      simp only [Option.some.injEq, Prod.mk.injEq] at h
      obtain ⟨rfl, rfl⟩ := h
      refine ⟨hji, _, hj, .inr ⟨1, _, _, rfl, rfl, rfl, fun i hi => by
        obtain rfl : i = 0 := by simpa using hi
        rfl, fun i k hi => ?_⟩⟩
      obtain rfl : i = 0 := by simpa using hi
      cases k with
      | zero => simpa using Frz.msl (ver := ver) (sz := sz) (es := es) id 0 n (by omega)
      | succ k => simpa using Frz.refl _
    · rw [List.getElem?_set_ne e] at h
      by_cases e2 : id = id1
      · subst e2
        rw [List.getElem?_set_self hil] at h; cases h
      · rw [List.getElem?_set_ne e2] at h
        exact ⟨fun q => e2 q.symm, o1, h, .inl rfl⟩) P g w hs
  exact ⟨g', h1, h2, h3⟩

theorem staysS_snoc {l : List PredT} {gone : List Nat} {i : Nat} (h : i < l.length) : staysS (l.take (i + 1)) gone = if inG gone l[i] then staysS (l.take i) gone else staysS (l.take i) gone ++ [l[i]] := by
  unfold staysS
  rw [abv_snoc h]
  cases hg : inG gone l[i] <;> simp [hg]
theorem mvF_snoc {l base : List PredT} {p : PredT → Bool} {root i : Nat} (h : i < l.length) : mvS root base ((l.take (i + 1)).filter p) = if p l[i] then withP (mvS root base ((l.take i).filter p)) { l[i] with node := root } else mvS root base ((l.take i).filter p) := by
  rw [abv_snoc h]
  split
  · unfold mvS; rw [List.foldl_append]; rfl
  · rfl
theorem nin_snoc {gone : List Nat} {n t : Nat} (h : t < gone.length) : decide (n ∈ gone.take (t + 1)) = (decide (n ∈ gone.take t) || decide (gone[t] = n)) := by
  rw [take_snoc h, Bool.eq_iff_iff]
  simp only [List.mem_append, List.mem_singleton, Bool.or_eq_true, decide_eq_true_eq]
  exact or_congr_right eq_comm
abbrev rgW (l : List PredT) (va : Nat) (out : List PredT) : List (Option (Nat × Obj)) := [some (0, .mem 1 [[.sl .unk 6 (l.map cPred) []]]), some (1, .mem 1 [[.sl .nil 0 [] []]]), some (2, .mem 1 [[.msl 3 va 0 out.length]]), some (va, .mem 6 (out.map cPred))]
abbrev rgX (l cur : List PredT) : List (Option (Nat × Obj)) := [some (0, .mem 1 [[.sl .unk 6 (l.map cPred) []]]), some (1, .mem 1 [[.sl .nil 0 [] []]]), some (2, .mem 1 [[.sl .unk 6 (cur.map cPred) []]]), none]
def RgI (l : List PredT) (gone : List Nat) (k : Nat) (v : V) (st : St) : Prop :=
  ∃ i va nv out, k = l.length - i ∧ i ≤ l.length ∧ v = .int .i64 ((i : Nat) : Int) ∧ out = staysS (l.take i) gone ∧ st = ⟨rgW l va out, nv⟩
def RgJ (L : List (Option (Nat × Obj))) (nv : Nat) (n : Nat) (gone : List Nat) (k : Nat) (v11 v12 : V) (st : St) : Prop :=
  ∃ t, k = gone.length - t ∧ t ≤ gone.length ∧ v11 = .bool (!decide (n ∈ gone.take t)) ∧ v12 = .int .i64 ((t : Nat) : Int) ∧ st = ⟨L, nv⟩
def RgK (l : List PredT) (gone : List Nat) (old root : Nat) (k : Nat) (v : V) (st : St) : Prop :=
  ∃ i nv cur, k = l.length - i ∧ i ≤ l.length ∧ v = .int .i64 ((i : Nat) : Int) ∧ cur = mvS root (staysS l gone) ((l.take i).filter (mvP old root gone)) ∧ st = ⟨rgX l cur, nv⟩
def RgM (L : List (Option (Nat × Obj))) (nv : Nat) (n old root : Nat) (gone : List Nat) (k : Nat) (v11 v12 : V) (st : St) : Prop :=
  ∃ t, k = gone.length - t ∧ t ≤ gone.length ∧ v11 = .bool (decide (n = old) || (decide (old ≠ root) && decide (n ∈ gone.take t))) ∧ v12 = .int .i64 ((t : Nat) : Int) ∧ st = ⟨L, nv⟩
set_option maxHeartbeats 2000000 in
theorem rGone15 (h : GoneR P) (l : List PredT) (gone : List Nat) (old root : Nat) (hl : l.length < 2 ^ 38) (hg : gone.length < 2 ^ 40) :
    PCalls P n_gazetteerref15_Gone [vP l, .sl .unk 1 (gone.map c32) [], .int .u32 old, .int .u32 root] (fun r => r = vP (refGone l gone old root)) := by
  refine A_gazetteerref15_Gone h.rgone ?_
  unfold F_gazetteerref15_Gone
  simp [st0, vP]
  refine ⟨RgI l gone, ⟨l.length, GhostV.ghost (ghost_nilbox (j := 2) (ver := 2) (s := 0) (sz := 6) (by decide) (by simp)) ⟨0, 3, 4, [], by simp, by simp, by simp, by simp [staysS], by simp⟩⟩, ?_⟩
  rintro k v10 st ⟨i, va, nv, out, rfl, hi, rfl, hout, rfl⟩
  have hol : out.length ≤ l.length := by rw [hout]; exact Nat.le_trans staysS_len (by simp; omega)
  by_cases hlt : i < l.length
  · have hs := staysS_snoc (gone := gone) hlt
    rw [← hout] at hs
    simp [hlt]
    refine ⟨RgJ (rgW l va out) nv l[i].node gone, ⟨gone.length, GhostV.refl ⟨0, by simp, by simp, by simp, by simp, rfl⟩⟩, ?_⟩
    rintro k2 v11 v12 st ⟨t, rfl, ht, rfl, rfl, rfl⟩
    by_cases htl : t < gone.length
    · have hsn := nin_snoc (n := l[i].node) htl
      cases hin : decide (l[i].node ∈ gone.take t)
      · simp [htl, hlt]
        refine ⟨gone.length - (t + 1), by omega, GhostV.refl ⟨t + 1, rfl, by omega, ?_, by rw [wadd1 (by omega)], rfl⟩⟩
        rw [hsn, hin]; simp
      · simp [htl, hlt]
        refine ⟨gone.length - (t + 1), by omega, GhostV.refl ⟨t + 1, rfl, by omega, ?_, by rw [wadd1 (by omega)], rfl⟩⟩
        rw [hsn, hin]; simp
    · rw [List.take_of_length_le (by omega)]
      by_cases hin : l[i].node ∈ gone
      · rw [if_pos (by simpa [inG] using hin)] at hs
        simp [htl, hin]
        exact ⟨l.length - (i + 1), by omega, GhostV.refl ⟨i + 1, va, nv, out, rfl, by omega, by rw [wadd1 (by omega)], hs.symm, rfl⟩⟩
      · rw [if_neg (by simpa [inG] using hin)] at hs
        simp [htl, hin, hlt]
        exact ⟨by omega, l.length - (i + 1), by omega, GhostV.keep (L := [_, _, _, _]) ⟨i + 1, nv + 1, nv + 1 + 1, out ++ [l[i]], rfl, by omega, by rw [wadd1 (by omega)], hs.symm, by simp⟩⟩
  · rw [List.take_of_length_le (by omega)] at hout
    simp [hlt]
    refine ⟨RgK l gone old root, ⟨l.length, GhostV.ghost (ghost_frzbox (j := 2) (id := 3) (vb := 2) (ver := va) (sz := 6) (n := out.length) (es := out.map cPred) (by decide) (by simp) (by simp) (by simp)) ⟨0, nv, out, by simp, by simp, by simp, by simp [mvS, hout], ?_⟩⟩, ?_⟩
    · have e1 : List.take out.length (out.map cPred) = out.map cPred := List.take_of_length_le (by simp)
      have e2 : List.drop out.length (out.map cPred) = [] := List.drop_of_length_le (by simp)
      rw [e1, e2]; rfl
    rintro k3 v13 st ⟨i, nv, cur, rfl, hi, rfl, hcur, rfl⟩
    have hcl : cur.length ≤ 2 * l.length := by
      have h1 := mvS_len (to := root) (acc := staysS l gone) (ys := (l.take i).filter (mvP old root gone))
      have h2 := staysS_len (l := l) (gone := gone)
      have h3 := List.length_filter_le (mvP old root gone) (l.take i)
      simp at h3
      rw [hcur]; omega
    by_cases hlt : i < l.length
    · have hs := mvF_snoc (base := staysS l gone) (p := mvP old root gone) (root := root) hlt
      rw [← hcur] at hs
      simp [hlt]
      refine ⟨RgM (rgX l cur ++ [some (nv, .mem 6 [cPred l[i]])]) (nv + 1) l[i].node old root gone, ⟨gone.length, GhostV.refl ⟨0, by simp, by simp, ?_, by simp, rfl⟩⟩, ?_⟩
      · simp
      rintro k4 v15 v16 st ⟨t, rfl, ht, hv15, rfl, rfl⟩
      obtain ⟨b, hb⟩ : ∃ b, b = (decide (l[i].node = old) || (decide (old ≠ root) && decide (l[i].node ∈ gone.take t))) := ⟨_, rfl⟩
      rw [← hb] at hv15
      subst hv15
      by_cases htl : t < gone.length
      · have hsn := nin_snoc (n := l[i].node) htl
        have hst : ∀ d, d = (b || (decide (old ≠ root) && decide (gone[t] = l[i].node))) → d = (decide (l[i].node = old) || (decide (old ≠ root) && decide (l[i].node ∈ gone.take (t + 1)))) := by
          rintro _ rfl
          rw [hsn, hb]
          cases decide (l[i].node = old) <;> cases decide (old ≠ root) <;> simp
        cases b
        · by_cases hor : old = root
          · simp [htl, hlt, hor]
            refine ⟨gone.length - (t + 1), by omega, GhostV.refl ⟨t + 1, rfl, by omega, ?_, by rw [wadd1 (by omega)], rfl⟩⟩
            have e := hst false (by simp [hor])
            rw [hor] at e
            rw [← e]
          · simp [htl, hlt, hor]
            refine ⟨gone.length - (t + 1), by omega, GhostV.refl ⟨t + 1, rfl, by omega, ?_, by rw [wadd1 (by omega)], rfl⟩⟩
            rw [← hst _ rfl]; simp [hor]
        · simp [htl, hlt]
          refine ⟨gone.length - (t + 1), by omega, GhostV.refl ⟨t + 1, rfl, by omega, ?_, by rw [wadd1 (by omega)], rfl⟩⟩
          rw [← hst true (by simp)]
      · rw [List.take_of_length_le (by omega)] at hb
        have hbm : b = mvP old root gone l[i] := hb
        rw [← hbm] at hs
        cases b
        · simp [htl]
          rw [if_neg (by simp)] at hs
          exact ⟨l.length - (i + 1), by omega, GhostV.keep (L := [_, _, _, _]) ⟨i + 1, _, cur, rfl, by omega, by rw [wadd1 (by omega)], hs.symm, rfl⟩⟩
        · simp [htl]
          rw [if_pos rfl] at hs
          refine inv_p (rWith15 h.toLawR15 cur { l[i] with node := root } (by omega)) rfl (by simp [pureL, pureLL, V.pure, vP]) ?_
          rintro _ rfl
          simp [vP]
          exact ⟨l.length - (i + 1), by omega, GhostV.keep (L := [_, _, _, _]) ⟨i + 1, _, _, rfl, by omega, by rw [wadd1 (by omega)], hs.symm, rfl⟩⟩
    · rw [List.take_of_length_le (by omega)] at hcur
      simp [hlt]
      exact GhostV.bare ⟨by simp [V.pure, pureL, pureLL], by rw [hcur]; rfl⟩
end Go.Proofs.Ytmgkjbphlbpbfaa.AM

namespace Go.Proofs.Ytmgkjbphlbpbfaa.AM
open Go
set_option linter.unusedVariables false
set_option linter.unusedSimpArgs false
variable {P : Program}

theorem split_len {root : Nat} {l : List PredT} {sp : List SplT} (h : Srt l) (hl : l.length ≤ 512) (hsp : sp.length ≤ 12) : (splitS l sp root).length ≤ 272097792 := by
  rw [← split_eq h]
  have h1 := refSp_len (root := root) hl sp sp.length (Nat.le_refl _)
  rw [List.take_length] at h1
  have h2 := pow3 hsp
  unfold refSplit; omega
def okS (sp : List SplT) (root : Nat) : Bool := decide (0 < root) && sp.all fun s => decide (0 < s.old) && decide (0 < s.new)
def okG (gone : List Nat) (old root : Nat) : Bool := (decide (0 < root) && decide (0 < old)) && posW gone
theorem okS_bad {sp : List SplT} {root : Nat} : okS sp root = !(sp.any badS || decide (root = 0)) := by
  have h1 : decide (0 < root) = !decide (root = 0) := by rw [Bool.eq_iff_iff]; simp; omega
  have h2 : (sp.all fun s => decide (0 < s.old) && decide (0 < s.new)) = !sp.any badS := by
    rw [List.any_eq_not_all_not, Bool.not_not]
    congr 1
    funext s
    unfold badS
    rw [Bool.eq_iff_iff]; simp; omega
  rw [okS, h1, h2]
  cases sp.any badS <;> cases decide (root = 0) <;> rfl
theorem okG_bad {gone : List Nat} {old root : Nat} : okG gone old root = !goneBad gone old root := by
  have h1 : decide (0 < root) = !decide (root = 0) := by rw [Bool.eq_iff_iff]; simp; omega
  have h2 : decide (0 < old) = !decide (old = 0) := by rw [Bool.eq_iff_iff]; simp; omega
  rw [okG, goneBad, posW_mem, h1, h2]
  cases decide (0 ∈ gone) <;> cases decide (root = 0) <;> cases decide (old = 0) <;> rfl
theorem splitG_ans (l : List PredT) (sp : List SplT) (root : Nat) (hsp : sp.length ≤ 12) : ∃ a e, splR l sp root = ans a e ∧ a.length < 2 ^ 40 ∧
    (rightP l = false → a = [] ∧ e = 250) ∧ (rightP l = true → toldB a e (okS sp root) (refSplit l sp root) = true) := by
  cases hr : rightP l
  · exact ⟨[], 250, by simp [ans, splR, hr], by simp, fun _ => ⟨rfl, rfl⟩, fun h => by cases h⟩
  have hlen := split_len (root := root) (rightP_iff.1 hr).2.2 (rightP_iff.1 hr).1 hsp
  rw [okS_bad, split_eq (rightP_iff.1 hr).2.2]
  cases hb : (sp.any badS || decide (root = 0))
  · by_cases hc : 512 < (splitS l sp root).length
    · exact ⟨[], 6, by simp only [ans, splR, hr, hb, changeR]; simp [hc], by simp, fun h => (by cases h), fun _ => by simp [toldB, hc]⟩
    · exact ⟨splitS l sp root, 0, by simp only [ans, splR, hr, hb, changeR]; simp [hc], by omega, fun h => (by cases h), fun _ => by simp [toldB, hc]⟩
  · exact ⟨[], 2, by simp only [ans, splR, hr, hb]; simp, by simp, fun h => (by cases h), fun _ => by simp [toldB]⟩
theorem goneS_len {l : List PredT} {gone : List Nat} {old root : Nat} : (goneS l gone old root).length ≤ 3 * l.length := by
  have h1 := mvS_len (to := root) (acc := staysS l gone) (ys := aboveS l gone old root)
  have h2 := staysS_len (l := l) (gone := gone)
  have h3 := aboveS_len (l := l) (gone := gone) (old := old) (root := root)
  unfold goneS; omega
theorem gone_ans (l : List PredT) (gone : List Nat) (old root : Nat) : ∃ a e, goneR l gone old root = ans a e ∧ a.length < 2 ^ 40 ∧
    (rightP l = false → a = [] ∧ e = 250) ∧ (rightP l = true → toldB a e (okG gone old root) (refGone l gone old root) = true) := by
  cases hr : rightP l
  · exact ⟨[], 250, by simp [ans, goneR, hr], by simp, fun _ => ⟨rfl, rfl⟩, fun h => by cases h⟩
  have hlen := goneS_len (l := l) (gone := gone) (old := old) (root := root)
  have hl := (rightP_iff.1 hr).1
  rw [okG_bad, gone_eq (rightP_iff.1 hr).2.2]
  cases hb : goneBad gone old root
  · by_cases hc : 512 < (goneS l gone old root).length
    · exact ⟨[], 6, by simp only [ans, goneR, hr, hb, changeR]; simp [hc], by simp, fun h => (by cases h), fun _ => by simp [toldB, hc]⟩
    · exact ⟨goneS l gone old root, 0, by simp only [ans, goneR, hr, hb, changeR]; simp [hc], by omega, fun h => (by cases h), fun _ => by simp [toldB, hc]⟩
  · exact ⟨[], 2, by simp only [ans, goneR, hr, hb]; simp, by simp, fun h => (by cases h), fun _ => by simp [toldB]⟩
theorem okS_snoc {sp : List SplT} {root i : Nat} (h : i < sp.length) : okS (sp.take (i + 1)) root = (okS (sp.take i) root && (decide (0 < sp[i].old) && decide (0 < sp[i].new))) := by
  unfold okS
  rw [take_snoc h, List.all_append, Bool.and_assoc]; simp
theorem okG_snoc {gone : List Nat} {old root i : Nat} (h : i < gone.length) : okG (gone.take (i + 1)) old root = (okG (gone.take i) old root && decide (0 < gone[i])) := by
  unfold okG
  rw [posW_snoc h]; simp only [Bool.and_assoc]
def LmI (sp : List SplT) (root : Nat) (L : List (Option (Nat × Obj))) (k : Nat) (v9 v48 : V) (st : St) : Prop :=
  ∃ i nv, k = sp.length - i ∧ i ≤ sp.length ∧ v9 = .bool (okS (sp.take i) root) ∧ v48 = .int .i64 ((i : Nat) : Int) ∧ st = ⟨L, nv⟩
def LmJ (gone : List Nat) (old root : Nat) (L : List (Option (Nat × Obj))) (k : Nat) (v9 v48 : V) (st : St) : Prop :=
  ∃ i nv, k = gone.length - i ∧ i ≤ gone.length ∧ v9 = .bool (okG (gone.take i) old root) ∧ v48 = .int .i64 ((i : Nat) : Int) ∧ st = ⟨L, nv⟩
set_option maxHeartbeats 4000000 in
theorem lMoves (h : GoneR P) (l : List PredT) (sp : List SplT) (gone : List Nat) (old root : Nat) :
    PCalls P n_gazetteerlaw15_PredMoves [vP l, .agg [.sl .unk 3 (sp.map cSpl) [], .sl .unk 1 (gone.map c32) [], .int .u32 old, .int .u32 root]] (fun r => r = .bool true) := by
  refine A_gazetteerlaw15_PredMoves h.lmoves ?_
  unfold F_gazetteerlaw15_PredMoves
  simp [st0, vP]
  refine inv_p (wakes15 h.toLawR15) rfl rfl ?_
  rintro _ rfl
  simp
  by_cases h8 : (800 : Int) < (l.length : Int)
  · simp [h8]
    exact GhostV.refl ⟨rfl, rfl⟩
  by_cases h9 : (12 : Int) < (sp.length : Int)
  · simp [h8, h9]
    exact GhostV.refl ⟨rfl, rfl⟩
  by_cases h7 : (50 : Int) < (gone.length : Int)
  · simp [h8, h9, h7]
    exact GhostV.refl ⟨rfl, rfl⟩
  have hl : l.length < 2 ^ 40 := by omega
  have pv : ∀ l : List PredT, (vP l).pure = true := fun l => by simp [vP, V.pure, pureL, pureLL]
  obtain ⟨a, e, ha, hal, ha0, ha1⟩ := splitG_ans l sp root (by omega)
  obtain ⟨b, f, hb, hbl, hb0, hb1⟩ := gone_ans l gone old root
  have hwb : sp.length * 12 ≤ 140737488355328 := by omega
  have hwg : gone.length * 4 ≤ 140737488355328 := by omega
  simp [h8, h9, h7]
  refine inv_p (Copied15 h.toLawR15 l hl) rfl (by simp [pureL, pv]) ?_
  rintro _ rfl
  simp [hwb]
  have qa := Split_P h.toSplR l sp root hl (by omega)
  rw [ha] at qa
  refine inv_p qa rfl (by simp [pureL, pv, V.pure]) ?_
  rintro _ rfl
  simp [ans, vP]
  refine inv_p (Copied15 h.toLawR15 l hl) rfl (by simp [pureL, pv]) ?_
  rintro _ rfl
  simp [hwg]
  have qb := Gone_P h l gone old root hl (by omega)
  rw [hb] at qb
  refine inv_p qb rfl (by simp [pureL, pv, V.pure]) ?_
  rintro _ rfl
  simp [ans, vP]
  refine inv_p (rRight h.toBoxR l hl) rfl (by simp [pureL, pv]) ?_
  rintro _ rfl
  cases hr : rightP l
  · obtain ⟨rfl, rfl⟩ := ha0 hr
    obtain ⟨rfl, rfl⟩ := hb0 hr
    simp [show IntKind.i64.wrap 0 = 0 by decide]
    exact GhostV.refl ⟨rfl, rfl⟩
  have ha1 := ha1 hr
  have hb1 := hb1 hr
  simp
  obtain ⟨L, hL⟩ : ∃ L, L = [some (0, Obj.mem 1 [[V.sl SK.unk 6 (List.map cPred l) []]]), some (1, Obj.mem 4 [[.sl .unk 3 (sp.map cSpl) [], .sl .unk 1 (gone.map c32) [], .int .u32 old, .int .u32 root]]), some (2, Obj.mem 1 [[.sl .unk 6 (a.map cPred) []]]), some (3, Obj.mem 1 [[.sl .unk 6 (b.map cPred) []]])] := ⟨_, rfl⟩
  obtain ⟨d0, hd0⟩ : ∃ d, d = okG [] old root := ⟨_, rfl⟩
  obtain ⟨d1, hd1⟩ : ∃ d, d = okS [] root := ⟨_, rfl⟩
  by_cases hroot : 0 < root
  all_goals
    simp [hroot]
    refine ⟨LmI sp root L, ⟨sp.length, GhostV.refl ⟨0, _, by simp, by simp, by simp [okS, hroot], by simp, by rw [hL]⟩⟩, ?_⟩
    rintro k1 v9 v92 st ⟨i, nv, rfl, hi, hv9, rfl, rfl⟩
    obtain ⟨c, hc⟩ : ∃ c, c = okS (sp.take i) root := ⟨_, rfl⟩
    rw [← hc] at hv9
    subst hv9
    by_cases hlt : i < sp.length
    · have hsn := okS_snoc (root := root) hlt
      rw [← hc] at hsn
      cases c
      · simp [hlt]
        refine ⟨sp.length - (i + 1), by omega, GhostV.keep (L := L) (M := [_]) ⟨i + 1, _, rfl, by omega, by rw [hsn]; simp, by rw [wadd1 (by omega)], rfl⟩⟩
      · by_cases ho : 0 < sp[i].old
        · simp [hlt, ho]
          refine ⟨sp.length - (i + 1), by omega, GhostV.keep (L := L) (M := [_]) ⟨i + 1, _, rfl, by omega, by rw [hsn]; simp [ho], by rw [wadd1 (by omega)], rfl⟩⟩
        · simp [hlt, ho]
          refine ⟨sp.length - (i + 1), by omega, GhostV.keep (L := L) (M := [_]) ⟨i + 1, _, rfl, by omega, by rw [hsn]; simp [ho], by rw [wadd1 (by omega)], rfl⟩⟩
    · rw [List.take_of_length_le (by omega)] at hc
      rw [hL]
      simp [hlt]
      rw [← hL]
      refine ⟨LmJ gone old root L, ⟨gone.length, GhostV.refl ⟨0, _, by simp, by simp, by simp [okG, hroot, posW], by simp, rfl⟩⟩, ?_⟩
      rintro k2 v10 v111 st ⟨t, nv2, rfl, ht, hv10, rfl, rfl⟩
      obtain ⟨q, hq⟩ : ∃ q, q = okG (gone.take t) old root := ⟨_, rfl⟩
      rw [← hq] at hv10
      subst hv10
      by_cases hlt2 : t < gone.length
      · have hsn := okG_snoc (old := old) (root := root) hlt2
        rw [← hq] at hsn
        cases q
        · simp [hlt2]
          exact ⟨gone.length - (t + 1), by omega, GhostV.refl ⟨t + 1, _, rfl, by omega, by rw [hsn]; simp, by rw [wadd1 (by omega)], rfl⟩⟩
        · simp [hlt2]
          exact ⟨gone.length - (t + 1), by omega, GhostV.refl ⟨t + 1, _, rfl, by omega, by rw [hsn]; simp, by rw [wadd1 (by omega)], rfl⟩⟩
      · rw [List.take_of_length_le (by omega)] at hq
        rw [hL]
        simp [hlt2]
        refine inv_p (rSplit15 h l sp root (rightP_iff.1 hr).1 (by omega)) rfl (by simp [pureL, pureLL, pv, V.pure]) ?_
        rintro _ rfl
        simp
        refine inv_p (Told15 h.toLawR15 a (refSplit l sp root) e c hal) rfl (by simp [pureL, pv, V.pure]) ?_
        rintro _ rfl
        rw [hc, ha1]
        simp
        refine inv_p (rGone15 h l gone old root (by omega) (by omega)) rfl (by simp [pureL, pureLL, pv, V.pure]) ?_
        rintro _ rfl
        simp
        refine inv_p (Told15 h.toLawR15 b (refGone l gone old root) f q hbl) rfl (by simp [pureL, pv, V.pure]) ?_
        rintro _ rfl
        rw [hq, hb1]
        simp
        exact GhostV.refl ⟨rfl, rfl⟩
end Go.Proofs.Ytmgkjbphlbpbfaa.AM
