/- Redo: the plain law, and the statement, walked. -/
import Derived.Test.YtmbhgjekjpkigaaRC
namespace Go.Proofs.Ytmbhgjekjpkigaa.AM
open Go
set_option linter.unusedVariables false
set_option linter.unusedSimpArgs false
variable {P : Program}

structure PgsR (P : Program) : Prop extends RLawR P where
  eqF : R_slices_EqualFunc_Lbyte_LLbyte_Lbyte_Lbyte P
  psame : R_page_Same P
  copy6 : R_gazetteerref06_Copy P
  pages : R_gazetteerlaw12_pages P
  same12 : R_gazetteerlaw12_same P

theorem EqF_P (h : PgsR P) (a b : List (List UInt8)) (ha : a.length < 2 ^ 40) : PCalls P n_slices_EqualFunc_Lbyte_LLbyte_Lbyte_Lbyte [vBB a, vBB b, .fn (.func n_bytes_Equal) [] []] (fun r => r = .bool (decide (a = b))) := by
  refine A_slices_EqualFunc_Lbyte_LLbyte_Lbyte_Lbyte h.eqF ?_
  unfold F_slices_EqualFunc_Lbyte_LLbyte_Lbyte_Lbyte
  simp [st0, vBB]
  by_cases hl : a.length = b.length
  case neg =>
    simp [hl]
    exact GhostV.refl ⟨rfl, by have : ¬ a = b := fun e => hl (by rw [e]); simp [this]⟩
  · simp [hl]
    refine ⟨EqvI b.length (fun i => a.take i = b.take i), ⟨b.length, GhostV.refl ⟨0, 0, by simp, by simp, by simp, by simp, by simp⟩⟩, ?_⟩
    rintro k1 v17 st ⟨i, nv, rfl, hi, rfl, hn, rfl⟩
    by_cases hlt : i < b.length
    · have hlt' : i < a.length := by omega
      simp [hlt, hlt']
      refine inv_p (bEqual h.toBytR a[i] b[i]) rfl (by simp [pureL, V.pure]) ?_
      rintro _ rfl
      by_cases he : a[i] = b[i]
      · simp [he]
        refine ⟨b.length - (i + 1), by omega, GhostV.refl ⟨i + 1, nv, rfl, by omega, by rw [wadd1 (by omega)], ?_, rfl⟩⟩
        dsimp only
        rw [take_snoc hlt, take_snoc hlt', hn, he]
      · simp [he]
        exact GhostV.refl ⟨rfl, by have : ¬ a = b := fun e => he (by simp [e]); simp [this]⟩
    · simp [hlt]
      rw [List.take_of_length_le (by omega), List.take_of_length_le (by omega)] at hn
      exact GhostV.refl ⟨rfl, by simp [hn]⟩
/-- Of a box nobody writes any more, an array within it as a row: the second of two. -/
theorem ghost_asl2 {L : List (Option (Nat × Obj))} {nv id ver i off n k sz : Nat} {es : List (List V)} {a : V} {rest : List V} {K : List V → St → Prop} (ho : L[id]? = some (some (ver, .mem sz es))) (hi : i < es.length) (h0 : 0 < k) (h : off + n * k ≤ sz)
    (hk : K (a :: .sl .unk k (chunk k n ((es.getD i []).drop off)) [] :: rest) ⟨L.set id none, nv⟩) : GhostV (a :: .asl id ver i off n k :: rest) ⟨L, nv⟩ K :=
  GhostV.freeze (vs' := a :: .sl .unk k (chunk k n ((es.getD i []).drop off)) [] :: rest) (st' := ⟨L.set id none, nv⟩) (id := id) (ver := ver) (sz := sz) (es := es) (by simp [St.get, ho]) rfl rfl (fun j => by
    cases j with
    | zero => exact Frz.refl _
    | succ j => cases j with
      | zero => exact .asl id i off n k hi h0 h
      | succ j => simpa using Frz.refl _) (fun id1 ver1 o1 h1 => by
      by_cases e : id = id1
      · subst e
        simp only at h1
        rw [List.getElem?_set_self (List.getElem?_eq_some_iff.1 ho).1] at h1
        cases h1
      · simp only at h1
        rw [List.getElem?_set_ne e] at h1
        exact ⟨fun q => e q.symm, o1, h1, .inl rfl⟩) hk
theorem PSame (h : PgsR P) (p q : PageT) : PCalls P n_page_Same [.agg (cPage p), .agg (cPage q)] (fun r => r = .bool (decide (p = q))) := by
  refine A_page_Same h.psame ?_
  unfold F_page_Same
  simp [st0]
  by_cases h1 : p.num = q.num
  case neg =>
    simp [h1]
    exact GhostV.refl ⟨rfl, by have : ¬ p = q := fun e => h1 (by rw [e]); simp [this]⟩
  by_cases h2 : p.lsn = q.lsn
  case neg =>
    have h2' : ¬ ((p.lsn : Int) = (q.lsn : Int)) := by omega
    simp [h1, h2]
    exact GhostV.refl ⟨rfl, by have : ¬ p = q := fun e => h2 (by rw [e]); simp [this]⟩
  simp [eq_true h1, eq_true h2]
  refine inv_f0 (ACalls.gv (EqF_P h [] [] (by simp)).1 (ghost_asl (sz := 6) (es := [cPage p]) (by simp) (by simp) (by simp) (by simp) ?_))
  have e1 : V.sl .unk 1 (chunk 1 4 (([cPage p].getD 0 []).drop 2)) [] = vBB [p.s0, p.s1, p.s2, p.s3] := by simp [chunk, vBB]
  have e2 : V.sl .unk 1 (chunk 1 4 (([cPage q].getD 0 []).drop 2)) [] = vBB [q.s0, q.s1, q.s2, q.s3] := by simp [chunk, vBB]
  rw [e1]
  refine ACalls.gv (EqF_P h [] [] (by simp)).1 (ghost_asl2 (sz := 6) (es := [cPage q]) (by simp) (by simp) (by simp) (by simp) ?_)
  rw [e2]
  refine (EqF_P h [p.s0, p.s1, p.s2, p.s3] [q.s0, q.s1, q.s2, q.s3] (by simp)).at (by simp [pureL, V.pure, pureLL]) ?_
  rintro _ rfl
  simp
  refine GhostV.refl ⟨rfl, ?_⟩
  obtain ⟨pn, pl, p0, p1, p2, p3⟩ := p
  obtain ⟨qn, ql, q0, q1, q2, q3⟩ := q
  simp only at h1 h2
  subst h1 h2
  simp only [PageT.mk.injEq, true_and]
  by_cases g : p0 = q0 ∧ p1 = q1 ∧ p2 = q2 ∧ p3 = q3
  · obtain ⟨rfl, rfl, rfl, rfl⟩ := g
    simp
  · rw [decide_eq_false g]
    have : (decide (p0 = q0) && (decide (p1 = q1) && (decide (p2 = q2) && decide (p3 = q3)))) = false := by
      rw [Bool.eq_false_iff]; simpa using g
    rw [this]; rfl

/-! ### pages -/
@[simp] abbrev vT (l : List UInt8) (t : SK × List (List V)) : V := .sl t.1 1 (l.map c8) t.2
@[simp] abbrev tPage (p : PageT) (t0 t1 t2 t3 : SK × List (List V)) : List V := [.int .i64 p.num, .int .u64 p.lsn, vT p.s0 t0, vT p.s1 t1, vT p.s2 t2, vT p.s3 t3]
@[simp] def cpAt (p : PageT) (t0 t1 t2 t3 : SK × List (List V)) (i : Nat) : List V :=
  [.int .i64 p.num, .int .u64 p.lsn, vT p.s0 (if 0 < i then (.unk, []) else t0), vT p.s1 (if 1 < i then (.unk, []) else t1), vT p.s2 (if 2 < i then (.unk, []) else t2), vT p.s3 (if 3 < i then (.unk, []) else t3)]
def CpI (p : PageT) (t0 t1 t2 t3 : SK × List (List V)) (k : Nat) (v : V) (st : St) : Prop :=
  ∃ i nv, k = 4 - i ∧ i ≤ 4 ∧ v = .int .i64 ((i : Nat) : Int) ∧ st = ⟨[some (0, .mem 6 [cpAt p t0 t1 t2 t3 i]), some (1, .mem 6 [zCells])], nv⟩
set_option maxHeartbeats 2000000 in
theorem Copy_P (h : PgsR P) (p : PageT) (hp : pShort p) (t0 t1 t2 t3 : SK × List (List V)) (h0 : pureLL t0.2 = true) (h1 : pureLL t1.2 = true) (h2 : pureLL t2.2 = true) (h3 : pureLL t3.2 = true) :
    PCalls P n_gazetteerref06_Copy [.agg (tPage p t0 t1 t2 t3)] (fun r => r = .agg (cPage p)) := by
  obtain ⟨p0, p1, p2, p3⟩ := hp
  refine A_gazetteerref06_Copy h.copy6 ?_
  unfold F_gazetteerref06_Copy
  simp [st0]
  refine ⟨CpI p t0 t1 t2 t3, ⟨4, GhostV.refl ⟨0, _, by simp, by simp, by simp, rfl⟩⟩, ?_⟩
  rintro k1 v st ⟨j, nv, rfl, hj, rfl, rfl⟩
  have tk : ∀ b : List UInt8, List.take b.length (List.map c8 b) = List.map c8 b := fun b => List.take_of_length_le (by simp)
  have dk : ∀ b : List UInt8, List.drop b.length (List.map c8 b) = [] := fun b => List.drop_eq_nil_of_le (by simp)
  rcases (by omega : j = 0 ∨ j = 1 ∨ j = 2 ∨ j = 3 ∨ j = 4) with rfl | rfl | rfl | rfl | rfl
  · simp
    simp [offV]
    refine ⟨by omega, 3, by omega, GhostV.frzO (b := 0) (id := 2) (i := 0) (j := 2) (by decide) rfl rfl rfl rfl (by simp) ?_⟩
    simp [tk, dk]
    exact GhostV.keep (L := [_, _]) (M := [none]) ⟨1, _, rfl, by omega, by rw [wrap_i64 (by omega)]; rfl, by simp; rfl⟩
  · simp
    simp [offV]
    refine ⟨by omega, 2, by omega, GhostV.frzO (b := 0) (id := 2) (i := 0) (j := 3) (by decide) rfl rfl rfl rfl (by simp) ?_⟩
    simp [tk, dk]
    exact GhostV.keep (L := [_, _]) (M := [none]) ⟨2, _, rfl, by omega, by rw [wrap_i64 (by omega)]; rfl, by simp; rfl⟩
  · simp
    simp [offV]
    refine ⟨by omega, 1, by omega, GhostV.frzO (b := 0) (id := 2) (i := 0) (j := 4) (by decide) rfl rfl rfl rfl (by simp) ?_⟩
    simp [tk, dk]
    exact GhostV.keep (L := [_, _]) (M := [none]) ⟨3, _, rfl, by omega, by rw [wrap_i64 (by omega)]; rfl, by simp; rfl⟩
  · simp
    simp [offV]
    refine ⟨by omega, GhostV.frzO (b := 0) (id := 2) (i := 0) (j := 5) (by decide) rfl rfl rfl rfl (by simp) ?_⟩
    simp [tk, dk]
    exact GhostV.keep (L := [_, _]) (M := [none]) ⟨4, _, rfl, by omega, by rw [wrap_i64 (by omega)]; rfl, by simp; rfl⟩
  · simp
    exact GhostV.refl ⟨by simp [V.pure, pureL, pureLL], rfl⟩

def cutP (p : PageT) : PageT := { p with s0 := p.s0.take 53, s1 := p.s1.take 53, s2 := p.s2.take 53, s3 := p.s3.take 53 }
def pagesL (l : List PageT) : List PageT := (l.take 33).map cutP
theorem cutP_short (p : PageT) : pShort (cutP p) := by
  unfold cutP pShort
  simp only [List.length_take]
  exact ⟨by omega, by omega, by omega, by omega⟩
@[simp] def c53 (b : Bool) (l : List UInt8) : V := if b then .sl (if l = [] then .unk else .nn) 1 ((l.take 53).map c8) ((l.map c8).drop (min l.length 53)) else vB l
@[simp] def ctAt (p : PageT) (i : Nat) : List V := [.int .i64 p.num, .int .u64 p.lsn, c53 (decide (0 < i)) p.s0, c53 (decide (1 < i)) p.s1, c53 (decide (2 < i)) p.s2, c53 (decide (3 < i)) p.s3]
def PgI (l : List PageT) (k : Nat) (v3 v10 : V) (st : St) : Prop :=
  ∃ (i va nv : Nat) (out : List PageT), k = l.length - i ∧ i ≤ l.length ∧ i ≤ 33 ∧ out = (l.take i).map cutP ∧ v3 = .msl 0 va 0 out.length ∧ v10 = .int .i64 ((i : Nat) : Int) ∧ st = ⟨[some (va, .mem 6 (out.map cPage))], nv⟩
def PgJ (p : PageT) (out : List PageT) (va vb : Nat) (k : Nat) (v : V) (st : St) : Prop :=
  ∃ (i nv : Nat), k = 4 - i ∧ i ≤ 4 ∧ v = .int .i64 ((i : Nat) : Int) ∧ st = ⟨[some (va, .mem 6 (out.map cPage)), some (vb, .mem 6 [ctAt p i])], nv⟩
set_option maxHeartbeats 4000000 in
theorem Pages_G (h : PgsR P) (l : List PageT) {K : V → St → Prop} (hk : ∀ va nv M, GhostV [.msl 0 va 0 (pagesL l).length] ⟨[some (va, .mem 6 ((pagesL l).map cPage))] ++ M, nv⟩ fun vs st => K (mkres vs) st) :
    ACalls P n_gazetteerlaw12_pages [.sl .unk 6 (l.map cPage) []] st0 K := by
  refine A_gazetteerlaw12_pages h.pages ?_
  unfold F_gazetteerlaw12_pages
  simp [st0]
  have fin : ∀ {out : List PageT} {va nv : Nat} {M : List (Option (Nat × Obj))}, out = pagesL l → GhostV [.msl 0 va 0 out.length] ⟨[some (va, .mem 6 (out.map cPage))] ++ M, nv⟩ fun vs st => K (mkres vs) st := by
    rintro out va nv M rfl
    exact hk va nv M
  refine ⟨PgI l, ⟨l.length, GhostV.nilr 6 (by decide) ⟨0, 0, 1, [], by simp, by simp, by simp, by simp, by simp, by simp, by simp⟩⟩, ?_⟩
  rintro k1 v3 v10 st ⟨i, va, nv, out, rfl, hi, hi33, hout, rfl, rfl, rfl⟩
  by_cases hlt : i < l.length
  · by_cases h33 : (i : Int) = 33
    · simp [hlt, eq_true h33]
      exact fin (M := [_]) (by rw [hout, show i = 33 by omega]; rfl)
    · simp [hlt, h33]
      have hol : out.length = i := by rw [hout]; simp; omega
      refine ⟨PgJ l[i] out va nv, ⟨4, GhostV.refl ⟨0, _, by simp, by simp, by simp, by simp; rfl⟩⟩, ?_⟩
      rintro k2 v19 st ⟨j, nv2, rfl, hj, rfl, rfl⟩
      rcases (by omega : j = 0 ∨ j = 1 ∨ j = 2 ∨ j = 3 ∨ j = 4) with rfl | rfl | rfl | rfl | rfl
      · simp
        rw [min53, Int.toNat_natCast, take53]
        refine ⟨by omega, ?_⟩
        simp [offV]
        exact ⟨3, by omega, GhostV.refl ⟨1, _, rfl, by omega, by rw [wrap_i64 (by omega)]; rfl, by simp; rfl⟩⟩
      · simp
        rw [min53, Int.toNat_natCast, take53]
        refine ⟨by omega, ?_⟩
        simp [offV]
        exact ⟨2, by omega, GhostV.refl ⟨2, _, rfl, by omega, by rw [wrap_i64 (by omega)]; rfl, by simp; rfl⟩⟩
      · simp
        rw [min53, Int.toNat_natCast, take53]
        refine ⟨by omega, ?_⟩
        simp [offV]
        exact ⟨1, by omega, GhostV.refl ⟨3, _, rfl, by omega, by rw [wrap_i64 (by omega)]; rfl, by simp; rfl⟩⟩
      · simp
        rw [min53, Int.toNat_natCast, take53]
        refine ⟨by omega, ?_⟩
        simp [offV]
        exact GhostV.refl ⟨4, _, rfl, by omega, by rw [wrap_i64 (by omega)]; rfl, by simp; rfl⟩
      · simp
        refine inv_p (Copy_P h (cutP l[i]) (cutP_short _) (if l[i].s0 = [] then .unk else .nn, (l[i].s0.map c8).drop (min l[i].s0.length 53)) (if l[i].s1 = [] then .unk else .nn, (l[i].s1.map c8).drop (min l[i].s1.length 53))
          (if l[i].s2 = [] then .unk else .nn, (l[i].s2.map c8).drop (min l[i].s2.length 53)) (if l[i].s3 = [] then .unk else .nn, (l[i].s3.map c8).drop (min l[i].s3.length 53)) (p_drop8 _ _) (p_drop8 _ _) (p_drop8 _ _) (p_drop8 _ _)) (by simp [cutP, List.map_take]) (by simp [pureL, V.pure, p_drop8]) ?_
        rintro _ rfl
        simp
        have e : out.map cPage ++ [[V.int IntKind.i64 (cutP l[i]).num, V.int IntKind.u64 ((cutP l[i]).lsn : Nat), vB (cutP l[i]).s0, vB (cutP l[i]).s1, vB (cutP l[i]).s2, vB (cutP l[i]).s3]] = (out ++ [cutP l[i]]).map cPage := by
          rw [List.map_append]; rfl
        rw [e]
        exact ⟨by omega, l.length - (i + 1), by omega, GhostV.keep (L := [_]) ⟨i + 1, _, _, out ++ [cutP l[i]], rfl, by omega, by omega, by rw [take_snoc hlt, List.map_append, ← hout]; rfl, by simp, by rw [wadd1 (by omega)], rfl⟩⟩
  · simp [hlt]
    exact fin (M := []) (by rw [hout]; unfold pagesL; rw [List.take_of_length_le (by omega), List.take_of_length_le (by omega)])
theorem pagesL_len {l : List PageT} : (pagesL l).length ≤ 33 := by
  unfold pagesL; simp; omega
theorem Pages_O (h : PgsR P) (l : List PageT) {K : V → St → Prop} (hk : ∀ va nv M, K (.msl 0 va 0 (pagesL l).length) ⟨[some (va, .mem 6 ((pagesL l).map cPage))] ++ M, nv⟩) :
    ACalls P n_gazetteerlaw12_pages [.sl .unk 6 (l.map cPage) []] st0 K := Pages_G h l fun va nv M => GhostV.refl (hk va nv M)
theorem Pages_R (h : PgsR P) (l : List PageT) : PCalls P n_gazetteerlaw12_pages [.sl .unk 6 (l.map cPage) []] (fun v => v = .sl .unk 6 ((pagesL l).map cPage) []) := by
  refine Pages_G h l fun va nv M => ?_
  refine GhostV.rowk (L := []) (M := [some (va, .mem 6 ((pagesL l).map cPage))] ++ M) (id := 0) (ver := va) (off := 0) (len := (pagesL l).length) (sz := 6) (es := (pagesL l).map cPage) (by simp) (by simp) (by simp) ?_
  rw [List.drop_zero, take_map_len]
  exact ⟨by simp [V.pure, pureL, pureLL], by simp⟩
def SaI (a b : List PageT) (k : Nat) (v : V) (st : St) : Prop := ∃ i nv, k = b.length - i ∧ i ≤ b.length ∧ v = .int .i64 ((i : Nat) : Int) ∧ a.take i = b.take i ∧ st = ⟨[], nv⟩
theorem Same_P (h : PgsR P) (a b : List PageT) (ha : a.length < 2 ^ 40) : PCalls P n_gazetteerlaw12_same [.sl .unk 6 (a.map cPage) [], .sl .unk 6 (b.map cPage) []] (fun r => r = .bool (decide (a = b))) := by
  refine A_gazetteerlaw12_same h.same12 ?_
  unfold F_gazetteerlaw12_same
  simp [st0]
  by_cases hl : a.length = b.length
  case neg =>
    simp [hl]
    exact GhostV.refl ⟨rfl, by have : ¬ a = b := fun e => hl (by rw [e]); simp [this]⟩
  · simp [hl]
    refine ⟨SaI a b, ⟨b.length, GhostV.refl ⟨0, 0, by simp, by simp, by simp, by simp, by simp⟩⟩, ?_⟩
    rintro k1 v17 st ⟨i, nv, rfl, hi, rfl, hn, rfl⟩
    by_cases hlt : i < b.length
    · have hlt' : i < a.length := by omega
      simp [hlt, hlt']
      refine inv_p (PSame h a[i] b[i]) rfl (by simp [pureL, V.pure, pureLL]) ?_
      rintro _ rfl
      by_cases he : a[i] = b[i]
      · simp [eq_true he]
        refine ⟨b.length - (i + 1), by omega, GhostV.refl ⟨i + 1, nv, rfl, by omega, by rw [wadd1 (by omega)], ?_, rfl⟩⟩
        rw [take_snoc hlt, take_snoc hlt', hn, he]
      · simp [eq_false he]
        exact GhostV.refl ⟨rfl, by have : ¬ a = b := fun e => he (by simp [e]); simp [this]⟩
    · simp [hlt]
      rw [List.take_of_length_le (by omega), List.take_of_length_le (by omega)] at hn
      exact GhostV.refl ⟨rfl, by simp [hn]⟩
end Go.Proofs.Ytmbhgjekjpkigaa.AM

namespace Go.Proofs.Ytmbhgjekjpkigaa.AM
open Go
set_option linter.unusedVariables false
set_option linter.unusedSimpArgs false

def succU (n : Nat) : Nat := if n + 1 = 2 ^ 64 then 0 else n + 1

/-! ### which one comes first -/
theorem minO_foldl {x : OpenT} : ∀ {l : List OpenT} {m : OpenT}, (m = x ∨ x ∈ l) → (∀ y, (y = m ∨ y ∈ l) → y ≠ x → befO x y < 0 ∧ ¬ befO y x < 0) → l.foldl (fun m y => if befO y m < 0 then y else m) m = x
  | [], m, h, _ => by
    rcases h with h | h
    · simpa using h
    · cases h
  | y :: l, m, h, h1 => by
    rw [List.foldl_cons]
    by_cases hm : m = x
    · subst hm
      by_cases hy : y = m
      · subst hy
        rw [ite_self]
        exact minO_foldl (.inl rfl) (fun z hz => h1 z (by rcases hz with hz | hz; exact .inl hz; exact .inr (.tail _ hz)))
      · rw [if_neg (h1 y (.inr (.head _)) hy).2]
        exact minO_foldl (.inl rfl) (fun z hz => h1 z (by rcases hz with hz | hz; exact .inl hz; exact .inr (.tail _ hz)))
    · by_cases hy : y = x
      · subst hy
        rw [if_pos (h1 m (.inl rfl) hm).1]
        exact minO_foldl (.inl rfl) (fun z hz => h1 z (by rcases hz with hz | hz; exact .inr (hz ▸ .head _); exact .inr (.tail _ hz)))
      · have hx : x ∈ l := by
          rcases h with h | h
          · exact absurd h hm
          · rcases List.mem_cons.1 h with h | h
            · exact absurd h.symm hy
            · exact h
        refine minO_foldl (.inr hx) (fun z hz => h1 z ?_)
        rcases hz with hz | hz
        · split at hz
          · exact .inr (hz ▸ .head _)
          · exact .inl hz
        · exact .inr (.tail _ hz)
theorem minO_of {x : OpenT} {L : List OpenT} (hx : x ∈ L) (h1 : ∀ y ∈ L, y ≠ x → befO x y < 0 ∧ ¬ befO y x < 0) : minO L = x := by
  cases L with
  | nil => cases hx
  | cons a L =>
    refine minO_foldl ?_ (fun y hy => h1 y ?_)
    · rcases List.mem_cons.1 hx with h | h
      · exact .inl h.symm
      · exact .inr h
    · rcases hy with h | h
      · exact h ▸ .head _
      · exact .tail _ h
theorem befO_zn {x y : OpenT} (hx : x.next = 0) (hy : y.next ≠ 0) : befO x y < 0 ∧ ¬ befO y x < 0 := by
  have h : min y.next 1 = 1 := by omega
  unfold befO
  rw [if_pos (.inl hx), if_pos (.inr hx), hx, h]
  simp [orI, cmpN]
theorem befO_zz {x y : OpenT} (hx : x.next = 0) (hy : y.next = 0) (h : x.txn < y.txn) : befO x y < 0 ∧ ¬ befO y x < 0 := by
  unfold befO
  rw [if_pos (.inl hx), if_pos (.inr hx), hx, hy]
  have : ¬ y.txn < x.txn := by omega
  simp [orI, cmpN, h, this]
theorem befO_nn {x y : OpenT} (hx : x.next ≠ 0) (hy : y.next ≠ 0) (h : y.next < x.next) : befO x y < 0 ∧ ¬ befO y x < 0 := by
  unfold befO
  have : ¬ x.next < y.next := by omega
  rw [if_neg (by omega), if_neg (by omega)]
  simp [cmpN, h, this]
/-- The first of some transactions. -/
def Fst (ts : List Nat) (b : Nat → OpenT) (t : Nat) : Prop :=
  t ∈ ts ∧ (((b t).next = 0 ∧ ∀ u ∈ ts, (b u).next = 0 → t ≤ u) ∨ ((b t).next ≠ 0 ∧ ∀ u ∈ ts, (b u).next ≠ 0 ∧ (u ≠ t → (b u).next < (b t).next)))
theorem minO_fst {ts : List Nat} {b : Nat → OpenT} {t : Nat} (hb : ∀ u ∈ ts, (b u).txn = u) (h : Fst ts b t) : minO (ts.map b) = b t := by
  obtain ⟨ht, h⟩ := h
  refine minO_of (List.mem_map_of_mem ht) (fun y hy hne => ?_)
  obtain ⟨u, hu, rfl⟩ := List.mem_map.1 hy
  have hut : u ≠ t := fun e => hne (by rw [e])
  rcases h with ⟨h0, h1⟩ | ⟨h0, h1⟩
  · by_cases hz : (b u).next = 0
    · exact befO_zz h0 hz (by rw [hb t ht, hb u hu]; have := h1 u hu hz; omega)
    · exact befO_zn h0 hz
  · exact befO_nn h0 (h1 u hu).1 ((h1 u hu).2 hut)
theorem exists_max : ∀ (ts : List Nat) (f : Nat → Nat), ts ≠ [] → ∃ t ∈ ts, ∀ u ∈ ts, f u ≤ f t
  | [], _, h => absurd rfl h
  | [a], f, _ => ⟨a, .head _, fun u hu => by rw [List.mem_singleton.1 hu]; exact Nat.le_refl _⟩
  | a :: b :: l, f, _ => by
    obtain ⟨t, ht, h⟩ := exists_max (b :: l) f (by simp)
    by_cases e : f t ≤ f a
    · exact ⟨a, .head _, fun u hu => by
        rcases List.mem_cons.1 hu with rfl | hu
        · exact Nat.le_refl _
        · exact Nat.le_trans (h u hu) e⟩
    · exact ⟨t, .tail _ ht, fun u hu => by
        rcases List.mem_cons.1 hu with rfl | hu
        · omega
        · exact h u hu⟩
theorem exists_min : ∀ (ts : List Nat) (p : Nat → Prop) [DecidablePred p], (∃ t ∈ ts, p t) → ∃ t ∈ ts, p t ∧ ∀ u ∈ ts, p u → t ≤ u
  | [], _, _, h => by obtain ⟨t, h, _⟩ := h; cases h
  | a :: l, p, _, h => by
    by_cases hl : ∃ t ∈ l, p t
    · obtain ⟨t, h1, h2, h3⟩ := exists_min l p hl
      by_cases e : p a ∧ a ≤ t
      · exact ⟨a, .head _, e.1, fun u hu hp => by
          rcases List.mem_cons.1 hu with rfl | hu
          · exact Nat.le_refl _
          · have := h3 u hu hp; omega⟩
      · exact ⟨t, .tail _ h1, h2, fun u hu hp => by
          rcases List.mem_cons.1 hu with rfl | hu
          · by_cases q : u ≤ t
            · exact absurd ⟨hp, q⟩ e
            · omega
          · exact h3 u hu hp⟩
    · obtain ⟨t, ht, hp⟩ := h
      rcases List.mem_cons.1 ht with rfl | ht
      · exact ⟨t, .head _, hp, fun u hu hq => by
          rcases List.mem_cons.1 hu with rfl | hu
          · exact Nat.le_refl _
          · exact absurd ⟨u, hu, hq⟩ hl⟩
      · exact absurd ⟨t, ht, hp⟩ hl
theorem fst_exists {ts : List Nat} {b : Nat → OpenT} (hd : ∀ u ∈ ts, ∀ v ∈ ts, (b u).next ≠ 0 → (b u).next = (b v).next → u = v) (hne : ts ≠ []) : ∃ t, Fst ts b t := by
  by_cases hz : ∃ t ∈ ts, (b t).next = 0
  · obtain ⟨t, h1, h2, h3⟩ := exists_min ts (fun u => (b u).next = 0) hz
    exact ⟨t, h1, .inl ⟨h2, h3⟩⟩
  · obtain ⟨t, h1, h2⟩ := exists_max ts (fun u => (b u).next) hne
    have nz : ∀ u ∈ ts, (b u).next ≠ 0 := fun u hu e => hz ⟨u, hu, e⟩
    exact ⟨t, h1, .inr ⟨nz t h1, fun u hu => ⟨nz u hu, fun hut => by
      have := h2 u hu
      have h3 : (b u).next ≠ (b t).next := fun e => hut (hd u hu t h1 (nz u hu) e)
      omega⟩⟩⟩

/-! ### steps -/
def updB (b : Nat → OpenT) (t : Nat) (y : OpenT) (u : Nat) : OpenT := if u = t then y else b u
theorem idx_map {ts : List Nat} {b : Nat → OpenT} {t : Nat} (hb : ∀ u ∈ ts, (b u).txn = u) (hn : ts.Nodup) (ht : t ∈ ts) (y : OpenT) :
    (ts.map b).eraseIdx ((ts.map b).idxOf (b t)) = (ts.filter fun u => decide (u ≠ t)).map b ∧ (ts.map b).set ((ts.map b).idxOf (b t)) y = ts.map (updB b t y) ∧ (ts.map b).idxOf (b t) < (ts.map b).length ∧ (ts.map b)[(ts.map b).idxOf (b t)]? = some (b t) := by
  induction ts with
  | nil => cases ht
  | cons u ts ih =>
    rw [List.nodup_cons] at hn
    rw [List.map_cons, List.idxOf_cons]
    by_cases e : u = t
    · subst e
      have h1 : ∀ v ∈ ts, v ≠ u := fun v hv q => hn.1 (q ▸ hv)
      refine ⟨?_, ?_, ?_, ?_⟩
      · simp only [beq_self_eq_true, cond_true, List.eraseIdx_zero, List.tail_cons]
        rw [List.filter_cons, if_neg (by simp), List.filter_eq_self.2 (fun v hv => by simpa using h1 v hv)]
      · simp only [beq_self_eq_true, cond_true, List.set_cons_zero, List.map_cons]
        congr 1
        · simp [updB]
        · exact List.map_congr_left fun v hv => by simp [updB, h1 v hv]
      · simp
      · simp
    · have ht' : t ∈ ts := by
        rcases List.mem_cons.1 ht with h | h
        · exact absurd h.symm e
        · exact h
      have hne : (b u == b t) = false := by
        rw [beq_eq_false_iff_ne]
        intro q
        have := congrArg OpenT.txn q
        rw [hb u (.head _), hb t ht] at this
        exact e this
      obtain ⟨i1, i2, i3, i4⟩ := ih (fun v hv => hb v (.tail _ hv)) hn.2 ht'
      rw [hne]
      simp only [cond_false]
      refine ⟨?_, ?_, ?_, ?_⟩
      · rw [List.eraseIdx_cons_succ, i1, List.filter_cons, if_pos (by simpa using e)]; rfl
      · rw [List.set_cons_succ, i2, List.map_cons]
        congr 1
        simp [updB, e]
      · simpa using i3
      · simpa using i4
theorem undoS_at {l : List RecT} {ts : List Nat} {b : Nat → OpenT} {t nx : Nat} {o : List RecT} (hb : ∀ u ∈ ts, (b u).txn = u) (hn : ts.Nodup) (h : Fst ts b t) :
    undoS l ⟨nx, ts.map b, o⟩ = if (b t).next = 0 then emitU ⟨nx, ts.map b, o⟩ ((ts.filter fun u => decide (u ≠ t)).map b) (endRec ⟨nx, ts.map b, o⟩ (b t)) else match recAt l (b t).next with
      | none => .inr 220
      | some r => if r.txn ≠ t ∨ chgR r = false then .inr 220
        else if r.kind = 2 then .inl ⟨nx, ts.map (updB b t ⟨t, (b t).last, r.next⟩), o⟩
        else emitU ⟨nx, ts.map b, o⟩ (ts.map (updB b t ⟨t, nx, r.back⟩)) (undRec ⟨nx, ts.map b, o⟩ (b t) r) := by
  have e := minO_fst hb h
  unfold undoS
  simp only [e, hb t h.1]
  have hi := fun y => idx_map hb hn h.1 y
  rw [(hi (b t)).1]
  (simp only [fun y => (hi y).2.1]) <;> rfl

/-! ### that they end -/
def Lok (l : List RecT) : Prop := ∀ r ∈ l, recOk r = true
theorem Lok.lt {l : List RecT} (h : Lok l) {r : RecT} (hr : r ∈ l) : r.back < r.lsn ∧ r.next ≤ r.back := by
  have := h r hr
  simp only [recOk, decide_eq_true_eq] at this
  omega
theorem undoS_inl {l : List RecT} {s s' : US} (h : undoS l s = .inl s') :
    ((minO s.left).next = 0 ∧ s'.left = s.left.eraseIdx (s.left.idxOf (minO s.left)) ∧ s.next ≠ 0) ∨
    ((minO s.left).next ≠ 0 ∧ ∃ r y, recAt l (minO s.left).next = some r ∧ r.txn = (minO s.left).txn ∧ chgR r = true ∧ s'.left = s.left.set (s.left.idxOf (minO s.left)) y ∧ (y.next = r.next ∨ y.next = r.back) ∧ (s'.next = s.next ∨ s.next ≠ 0)) := by
  have emit : ∀ {L m}, emitU s L m = .inl s' → s'.left = L ∧ s.next ≠ 0 := by
    intro L m h
    unfold emitU at h
    split at h
    · cases h
    · rename_i hq
      simp only [Sum.inl.injEq] at h
      subst h
      exact ⟨rfl, fun q => hq (.inr q)⟩
  unfold undoS at h
  dsimp only at h
  split at h
  · rename_i h0
    exact .inl ⟨h0, emit h⟩
  · rename_i h0
    refine .inr ⟨h0, ?_⟩
    split at h
    · cases h
    · rename_i r hr
      split at h
      · cases h
      · rename_i hq
        have h1 : r.txn = (minO s.left).txn := Classical.byContradiction fun q => hq (.inl q)
        have h2 : chgR r = true := by
          cases e : chgR r
          · exact absurd (.inr e) hq
          · rfl
        split at h
        · simp only [Sum.inl.injEq] at h
          subst h
          exact ⟨r, _, hr, h1, h2, rfl, .inl rfl, .inl rfl⟩
        · exact ⟨r, _, hr, h1, h2, (emit h).1, .inr rfl, .inr (emit h).2⟩
theorem minO_in {L : List OpenT} (h : L ≠ []) : minO L ∈ L := by
  have key : ∀ (l : List OpenT) (m : OpenT), l.foldl (fun m y => if befO y m < 0 then y else m) m = m ∨ l.foldl (fun m y => if befO y m < 0 then y else m) m ∈ l := by
    intro l
    induction l with
    | nil => intro m; exact .inl rfl
    | cons y l ih =>
      intro m
      rw [List.foldl_cons]
      rcases ih (if befO y m < 0 then y else m) with h | h
      · rw [h]
        split
        · exact .inr (.head _)
        · exact .inl rfl
      · exact .inr (.tail _ h)
  cases L with
  | nil => exact absurd rfl h
  | cons a L =>
    rcases key L a with h | h
    · show (L.foldl _ a) ∈ _
      rw [h]; exact .head _
    · exact .tail _ h
theorem idx_min {L : List OpenT} (h : L ≠ []) : ∃ hi : L.idxOf (minO L) < L.length, L[L.idxOf (minO L)] = minO L :=
  ⟨List.idxOf_lt_length_iff.2 (minO_in h), List.getElem_idxOf _⟩
theorem undoS_mu {l : List RecT} (hl : Lok l) {s s' : US} (hne : s.left ≠ []) (h : undoS l s = .inl s') : muO s'.left < muO s.left := by
  obtain ⟨hi, he⟩ := idx_min hne
  rcases undoS_inl h with ⟨_, h1, _⟩ | ⟨h0, r, y, hr, _, _, h1, h2, _⟩
  · rw [h1]
    have := muO_erase hi
    omega
  · rw [h1]
    have := muO_set hi y
    rw [he] at this
    obtain ⟨q1, q2⟩ := recAt_mem hr
    have := hl.lt q1
    omega
inductive Ends (l : List RecT) : US → List RecT → Prop
  | done {s : US} (h : s.left = []) : Ends l s s.out
  | step {s s' : US} {o : List RecT} (h : s.left ≠ []) (h1 : undoS l s = .inl s') (h2 : Ends l s' o) : Ends l s o
theorem undoS_err {l : List RecT} {s : US} {e : Int} (h : undoS l s = .inr e) : e ≠ 0 := by
  have emit : ∀ {L m}, emitU s L m = .inr e → e ≠ 0 := by
    intro L m h
    unfold emitU at h
    split at h
    · simp only [Sum.inr.injEq] at h; subst h; decide
    · cases h
  unfold undoS at h
  dsimp only at h
  split at h
  · exact emit h
  · split at h
    · simp only [Sum.inr.injEq] at h; subst h; decide
    · split at h
      · simp only [Sum.inr.injEq] at h; subst h; decide
      · split at h
        · cases h
        · exact emit h
theorem ends_of {l : List RecT} (hl : Lok l) {o : List RecT} : ∀ (k : Nat) (s : US), muO s.left ≤ k → undoF l k s = (o, 0) → Ends l s o
  | 0, s, hk, h => by
    have : s.left = [] := Classical.byContradiction fun q => by have := muO_pos q; omega
    unfold undoF at h
    rw [if_pos this] at h
    obtain rfl : s.out = o := by simpa using h
    exact .done this
  | k + 1, s, hk, h => by
    unfold undoF at h
    split at h
    · rename_i hs
      obtain rfl : s.out = o := by simpa using h
      exact .done hs
    · rename_i hs
      split at h
      · rename_i e he
        have := undoS_err he
        simp only [Prod.mk.injEq] at h
        exact absurd h.2 this
      · rename_i s' he
        exact .step hs he (ends_of hl k s' (by have := undoS_mu hl hs he; omega) h)
theorem undoF_of {l : List RecT} (hl : Lok l) {s : US} {o : List RecT} (h : Ends l s o) : ∀ k, muO s.left ≤ k → undoF l k s = (o, 0) := by
  induction h with
  | done h =>
    intro k hk
    cases k <;> (unfold undoF; rw [if_pos h])
  | @step s s' o h h1 h2 ih =>
    intro k hk
    cases k with
    | zero => have := muO_pos h; omega
    | succ k =>
      unfold undoF
      rw [if_neg h, h1]
      exact ih k (by have := undoS_mu hl h h1; omega)
def GoodL (l : List RecT) (L : List OpenT) : Prop := ∀ x ∈ L, x.next = 0 ∨ ∃ r, recAt l x.next = some r ∧ r.txn = x.txn ∧ chgR r = true
theorem Ends.good {l : List RecT} {s : US} {o : List RecT} (h : Ends l s o) : GoodL l s.left := by
  induction h with
  | done h => rw [h]; intro x hx; cases hx
  | @step s s' o h h1 h2 ih =>
    intro z hz
    obtain ⟨hi, he⟩ := idx_min h
    by_cases e : z = minO s.left
    · subst e
      rcases undoS_inl h1 with ⟨h0, _⟩ | ⟨h0, r, y, hr, ht, hc, _⟩
      · exact .inl h0
      · exact .inr ⟨r, hr, ht, hc⟩
    · refine ih z ?_
      obtain ⟨j, hj, rfl⟩ := List.getElem_of_mem hz
      have hji : j ≠ s.left.idxOf (minO s.left) := fun q => e (by subst q; exact he)
      rcases undoS_inl h1 with ⟨_, h3, _⟩ | ⟨_, r, y, _, _, _, h3, _⟩
      · rw [h3, List.mem_eraseIdx_iff_getElem?]
        exact ⟨j, hji, List.getElem?_eq_getElem hj⟩
      · rw [h3]
        refine List.mem_iff_getElem?.2 ⟨j, ?_⟩
        rw [List.getElem?_set_ne hji.symm, List.getElem?_eq_getElem hj]
theorem Ends.next {l : List RecT} {s : US} {o : List RecT} (h : Ends l s o) (hne : s.left ≠ []) : s.next ≠ 0 := by
  induction h with
  | done h => exact absurd h hne
  | @step s s' o h h1 h2 ih =>
    rcases undoS_inl h1 with ⟨_, _, h3⟩ | ⟨_, r, y, _, _, _, h3, _, h4⟩
    · exact h3
    · rcases h4 with h4 | h4
      · rw [← h4]
        refine ih ?_
        rw [h3]
        simpa using h
      · exact h4
end Go.Proofs.Ytmbhgjekjpkigaa.AM

namespace Go.Proofs.Ytmbhgjekjpkigaa.AM
open Go
set_option linter.unusedVariables false
set_option linter.unusedSimpArgs false

/-- One skip of a record that undid. -/
def Skip (l : List RecT) (x y : OpenT) : Prop := x.next ≠ 0 ∧ ∃ r, recAt l x.next = some r ∧ r.txn = x.txn ∧ r.kind = 2 ∧ y = ⟨x.txn, x.last, r.next⟩
inductive Skips (l : List RecT) (c : Nat) : OpenT → OpenT → Prop
  | refl (x : OpenT) : Skips l c x x
  | step {x y z : OpenT} (h : Skip l x y) (hc : c ≤ x.next) (h2 : Skips l c y z) : Skips l c x z
theorem Skips.snoc {l : List RecT} {c : Nat} {x y z : OpenT} (h : Skips l c x y) (h1 : Skip l y z) (hc : c ≤ y.next) : Skips l c x z := by
  induction h with
  | refl x => exact .step h1 hc (.refl _)
  | step h hc' _ ih => exact .step h hc' (ih h1 hc)
theorem Skips.mono {l : List RecT} {c c' : Nat} {x y : OpenT} (h : Skips l c x y) (hc : c' ≤ c) : Skips l c' x y := by
  induction h with
  | refl x => exact .refl _
  | step h hc' _ ih => exact .step h (by omega) ih
theorem Skip.lt {l : List RecT} (hl : Lok l) {x y : OpenT} (h : Skip l x y) : y.next < x.next ∧ y.txn = x.txn ∧ y.last = x.last := by
  obtain ⟨h0, r, hr, ht, hk, rfl⟩ := h
  obtain ⟨q1, q2⟩ := recAt_mem hr
  have := hl.lt q1
  exact ⟨by show r.next < x.next; omega, rfl, rfl⟩
theorem Skips.le {l : List RecT} (hl : Lok l) {c : Nat} {x y : OpenT} (h : Skips l c x y) : y.next ≤ x.next ∧ y.txn = x.txn ∧ y.last = x.last := by
  induction h with
  | refl x => exact ⟨Nat.le_refl _, rfl, rfl⟩
  | step h hc' _ ih =>
    have := h.lt hl
    exact ⟨by omega, ih.2.1.trans this.2.1, ih.2.2.trans this.2.2⟩
theorem Skips.zero {l : List RecT} {c : Nat} {x y : OpenT} (h : Skips l c x y) (h0 : x.next = 0) : y = x := by
  cases h with
  | refl x => rfl
  | step h _ _ => exact absurd h0 h.1
theorem Skips.ne {l : List RecT} {c : Nat} {x y : OpenT} (h : Skips l c x y) (h0 : x ≠ y) : c ≤ x.next ∧ ∃ z, Skip l x z ∧ Skips l c z y := by
  cases h with
  | refl x => exact absurd rfl h0
  | step h hc h2 => exact ⟨hc, _, h, h2⟩
theorem Skip.good {l : List RecT} {x y : OpenT} (h : Skip l x y) : ∃ r, recAt l x.next = some r ∧ r.txn = x.txn ∧ chgR r = true := by
  obtain ⟨h0, r, hr, ht, hk, rfl⟩ := h
  exact ⟨r, hr, ht, by simp [chgR, hk]⟩
theorem good_dist {l : List RecT} {ts : List Nat} {b : Nat → OpenT} (hb : ∀ u ∈ ts, (b u).txn = u) (hg : ∀ u ∈ ts, (b u).next = 0 ∨ ∃ r, recAt l (b u).next = some r ∧ r.txn = (b u).txn ∧ chgR r = true) :
    ∀ u ∈ ts, ∀ v ∈ ts, (b u).next ≠ 0 → (b u).next = (b v).next → u = v := by
  intro u hu v hv h0 he
  rcases hg u hu with h | ⟨r, hr, ht, _⟩
  · exact absurd h h0
  rcases hg v hv with h | ⟨r', hr', ht', _⟩
  · exact absurd (he.trans h) h0
  rw [he, hr'] at hr
  cases hr
  rw [hb u hu] at ht
  rw [hb v hv] at ht'
  exact ht.symm.trans ht'
theorem mu_upd {ts : List Nat} {b : Nat → OpenT} {t : Nat} {y : OpenT} (hb : ∀ u ∈ ts, (b u).txn = u) (hn : ts.Nodup) (ht : t ∈ ts) (hy : y.next < (b t).next) : muO (ts.map (updB b t y)) < muO (ts.map b) := by
  obtain ⟨_, h2, h3, h4⟩ := idx_map hb hn ht y
  rw [← h2]
  have := muO_set h3 y
  rw [List.getElem?_eq_getElem h3, Option.some.injEq] at h4
  rw [h4] at this
  omega
theorem mu_del {ts : List Nat} {b : Nat → OpenT} {t : Nat} (hb : ∀ u ∈ ts, (b u).txn = u) (hn : ts.Nodup) (ht : t ∈ ts) : muO ((ts.filter fun u => decide (u ≠ t)).map b) < muO (ts.map b) := by
  obtain ⟨h1, _, h3, h4⟩ := idx_map hb hn ht (b t)
  rw [← h1]
  have := muO_erase h3
  omega
theorem updB_self {b : Nat → OpenT} {t : Nat} {y : OpenT} : updB b t y t = y := by simp [updB]
theorem updB_ne {b : Nat → OpenT} {t u : Nat} {y : OpenT} (h : u ≠ t) : updB b t y u = b u := by simp [updB, h]
theorem emitU_ok {s s' : US} {L : List OpenT} {m : RecT} (h : emitU s L m = .inl s') : s.out.length ≠ 64 ∧ s.next ≠ 0 ∧ s' = ⟨succU s.next, L, s.out ++ [m]⟩ := by
  unfold emitU at h
  split at h
  · cases h
  · rename_i hq
    simp only [Sum.inl.injEq] at h
    exact ⟨fun q => hq (.inl q), fun q => hq (.inr q), h.symm⟩
theorem emitU_mk {s : US} {L : List OpenT} {m : RecT} (h1 : s.out.length ≠ 64) (h2 : s.next ≠ 0) : emitU s L m = .inl ⟨succU s.next, L, s.out ++ [m]⟩ := by
  unfold emitU
  rw [if_neg (by omega)]; rfl

theorem resume {l more : List RecT} (hl : Lok l) (hM : ∀ n r, recAt l n = some r → recAt more n = some r) {res : List RecT} :
    ∀ (k : Nat) (ts : List Nat) (a b : Nat → OpenT) (c nx : Nat) (pre o : List RecT), muO (ts.map a) ≤ k → ts.Nodup → (∀ u ∈ ts, (a u).txn = u) → (∀ u ∈ ts, (b u).txn = u) → (∀ u ∈ ts, (b u).next < c) → (∀ u ∈ ts, Skips l c (a u) (b u)) →
      (∀ u ∈ ts, (b u).next = 0 → a u = b u) → (pre ++ o).length ≤ 64 → Ends l ⟨nx, ts.map b, pre ++ o⟩ res → ∃ res', res = pre ++ res' ∧ Ends more ⟨nx, ts.map a, o⟩ res' := by
  intro k
  induction k with
  | zero =>
    intro ts a b c nx pre o hk hn ha hb hbc hs hz ho he
    have : ts.map a = [] := Classical.byContradiction fun q => by have := muO_pos q; omega
    obtain rfl : ts = [] := by simpa using this
    cases he with
    | done h => exact ⟨o, rfl, .done rfl⟩
    | step h _ _ => exact absurd rfl h
  | succ k ih =>
    intro ts a b c nx pre o hk hn ha hb hbc hs hz ho he
    by_cases hts : ts = []
    · subst hts
      cases he with
      | done h => exact ⟨o, rfl, .done rfl⟩
      | step h _ _ => exact absurd rfl h
    have hgb : ∀ u ∈ ts, (b u).next = 0 ∨ ∃ r, recAt l (b u).next = some r ∧ r.txn = (b u).txn ∧ chgR r = true := fun u hu => he.good (b u) (List.mem_map_of_mem hu)
    have hga : ∀ u ∈ ts, (a u).next = 0 ∨ ∃ r, recAt l (a u).next = some r ∧ r.txn = (a u).txn ∧ chgR r = true := fun u hu => by
      by_cases e : a u = b u
      · rw [e]; exact hgb u hu
      · obtain ⟨_, z, h1, _⟩ := (hs u hu).ne e
        exact .inr h1.good
    obtain ⟨t, hft⟩ := fst_exists (good_dist hb hgb) hts
    have hnea : ts.map a ≠ [] := by simpa using hts
    have hneb : ts.map b ≠ [] := by simpa using hts
    -- a step of both, at the same one
    have both : Fst ts a t → a t = b t → (∀ u ∈ ts, (b u).next = 0 → u ≠ t → a u = b u) → ((b t).next ≠ 0 → ∀ u ∈ ts, a u = b u) → ∃ res', res = pre ++ res' ∧ Ends more ⟨nx, ts.map a, o⟩ res' := by
      intro hfa hat hz' hall
      cases he with
      | done h => exact absurd h hneb
      | @step _ s' _ _ h1 h2 =>
        rw [undoS_at hb hn hft] at h1
        have hA := undoS_at (l := more) (nx := nx) (o := o) ha hn hfa
        rw [hat] at hA
        by_cases h0 : (b t).next = 0
        · rw [if_pos h0] at h1 hA
          obtain ⟨e1, e2, rfl⟩ := emitU_ok h1
          have e1' : (pre ++ o).length ≠ 64 := e1
          rw [emitU_mk (s := ⟨nx, ts.map a, o⟩) (by show o.length ≠ 64; simp only [List.length_append] at ho e1'; omega) e2] at hA
          have hsub : ∀ u, u ∈ ts.filter (fun u => decide (u ≠ t)) → u ∈ ts := fun u hu => (List.mem_filter.1 hu).1
          have hm := mu_del ha hn hft.1
          obtain ⟨res', r1, r2⟩ := ih (ts.filter fun u => decide (u ≠ t)) a b c (succU nx) pre (o ++ [endRec ⟨nx, ts.map a, o⟩ (b t)]) (by omega) (hn.filter _) (fun u hu => ha u (hsub u hu)) (fun u hu => hb u (hsub u hu)) (fun u hu => hbc u (hsub u hu))
            (fun u hu => hs u (hsub u hu)) (fun u hu hq => hz' u (hsub u hu) hq (by simpa using (List.mem_filter.1 hu).2)) (by simp only [List.length_append, List.length_singleton] at ho e1' ⊢; omega)
            (by rw [← List.append_assoc]; exact h2)
          exact ⟨res', r1, .step hnea hA r2⟩
        · rw [if_neg h0] at h1 hA
          have hab := hall h0
          have hma : ts.map a = ts.map b := List.map_congr_left hab
          obtain hg | ⟨r, hr, hrt, hrc⟩ := hgb t hft.1
          · exact absurd hg h0
          obtain ⟨q1, q2⟩ := recAt_mem hr
          have hlt := hl.lt q1
          have hc := hbc t hft.1
          rw [hr] at h1
          rw [hM _ _ hr] at hA
          simp only at h1 hA
          have hcond : ¬ (r.txn ≠ t ∨ chgR r = false) := by rw [hrt, hb t hft.1, hrc]; simp
          rw [if_neg hcond] at h1 hA
          have facts : ∀ y : OpenT, y.txn = t → y.next < (b t).next → (∀ u ∈ ts, (updB a t y u).txn = u) ∧ (∀ u ∈ ts, (updB b t y u).txn = u) ∧ (∀ u ∈ ts, (updB b t y u).next < c) ∧ (∀ u ∈ ts, Skips l c (updB a t y u) (updB b t y u)) ∧ (∀ u ∈ ts, (updB b t y u).next = 0 → updB a t y u = updB b t y u) := by
            intro y hy1 hy2
            refine ⟨fun u hu => ?_, fun u hu => ?_, fun u hu => ?_, fun u hu => ?_, fun u hu _ => ?_⟩
            all_goals
              by_cases e : u = t
              · subst e
                (simp only [updB_self]) <;> first | exact hy1 | exact .refl _ | omega
              · simp only [updB_ne e]
                first | exact ha u hu | exact hb u hu | exact hbc u hu | exact hs u hu | exact hab u hu
          by_cases hk2 : r.kind = 2
          · rw [if_pos hk2] at h1 hA
            simp only [Sum.inl.injEq] at h1
            subst h1
            obtain ⟨f1, f2, f3, f4, f5⟩ := facts ⟨t, (b t).last, r.next⟩ rfl (by show r.next < _; omega)
            have hm := mu_upd (y := ⟨t, (b t).last, r.next⟩) ha hn hft.1 (by rw [hat]; show r.next < _; omega)
            obtain ⟨res', r1, r2⟩ := ih ts (updB a t ⟨t, (b t).last, r.next⟩) (updB b t ⟨t, (b t).last, r.next⟩) c nx pre o (by omega) hn f1 f2 f3 f4 f5 ho h2
            exact ⟨res', r1, .step hnea hA r2⟩
          · rw [if_neg hk2] at h1 hA
            obtain ⟨e1, e2, rfl⟩ := emitU_ok h1
            have e1' : (pre ++ o).length ≠ 64 := e1
            rw [emitU_mk (s := ⟨nx, ts.map a, o⟩) (by show o.length ≠ 64; simp only [List.length_append] at ho e1'; omega) e2] at hA
            obtain ⟨f1, f2, f3, f4, f5⟩ := facts ⟨t, nx, r.back⟩ rfl (by show r.back < _; omega)
            have hm := mu_upd (y := ⟨t, nx, r.back⟩) ha hn hft.1 (by rw [hat]; show r.back < _; omega)
            obtain ⟨res', r1, r2⟩ := ih ts (updB a t ⟨t, nx, r.back⟩) (updB b t ⟨t, nx, r.back⟩) c (succU nx) pre (o ++ [undRec ⟨nx, ts.map a, o⟩ (b t) r]) (by omega) hn f1 f2 f3 f4 f5 (by simp only [List.length_append, List.length_singleton] at ho e1' ⊢; omega)
              (by rw [← List.append_assoc]; exact h2)
            exact ⟨res', r1, .step hnea hA r2⟩
    obtain ⟨htm, hcase⟩ := hft
    rcases hcase with ⟨h0, hmin⟩ | ⟨h0, hmax⟩
    · -- one has nothing left
      have hat : a t = b t := hz t htm h0
      exact both ⟨htm, .inl ⟨by rw [hat]; exact h0, fun u hu hu0 => hmin u hu (by rw [(hs u hu).zero hu0]; exact hu0)⟩⟩ hat (fun u hu hq _ => hz u hu hq) (fun q => absurd h0 q)
    · by_cases hab : ∀ u ∈ ts, a u = b u
      · exact both ⟨htm, .inr ⟨by rw [hab t htm]; exact h0, fun u hu => by rw [hab u hu, hab t htm]; exact hmax u hu⟩⟩ (hab t htm) (fun u hu _ _ => hab u hu) (fun _ => hab)
      · -- the resuming run skips
        have hza : ∀ u ∈ ts, (a u).next ≠ 0 := fun u hu q => (hmax u hu).1 (by rw [(hs u hu).zero q]; exact q)
        obtain ⟨v, hv, hvn⟩ : ∃ v ∈ ts, a v ≠ b v := Classical.byContradiction fun q => hab fun u hu => Classical.byContradiction fun e => q ⟨u, hu, e⟩
        obtain ⟨t', hfa⟩ := fst_exists (good_dist ha hga) hts
        obtain ⟨ht', hc'⟩ := hfa
        have hmax' : ∀ u ∈ ts, (a u).next ≤ (a t').next := by
          intro u hu
          rcases hc' with ⟨q, _⟩ | ⟨_, q⟩
          · exact absurd q (hza t' ht')
          · by_cases e : u = t'
            · subst e; exact Nat.le_refl _
            · exact Nat.le_of_lt ((q u hu).2 e)
        have hcv := ((hs v hv).ne hvn).1
        have hne' : a t' ≠ b t' := fun e => by
          have h1 := hmax' v hv
          have h2 := hbc t' ht'
          rw [← e] at h2
          omega
        obtain ⟨hct, y, hsk, hsks⟩ := (hs t' ht').ne hne'
        obtain ⟨hlt, hyt, hyl⟩ := hsk.lt hl
        obtain ⟨hn0, r, hr, hrt, hrk, hy⟩ := hsk
        have hA := undoS_at (l := more) (nx := nx) (o := o) ha hn ⟨ht', hc'⟩
        rw [if_neg (hza t' ht'), hM _ _ hr] at hA
        simp only at hA
        rw [if_neg (by rw [hrt, ha t' ht']; simp [chgR, hrk]), if_pos hrk] at hA
        have hy' : y = ⟨t', (a t').last, r.next⟩ := by rw [hy, ha t' ht']
        rw [← hy'] at hA
        have hm := mu_upd (y := y) ha hn ht' hlt
        obtain ⟨res', r1, r2⟩ := ih ts (updB a t' y) b c nx pre o (by omega) hn (fun u hu => by
            by_cases e : u = t'
            · subst e; rw [updB_self, hyt]; exact ha u hu
            · rw [updB_ne e]; exact ha u hu) hb hbc (fun u hu => by
            by_cases e : u = t'
            · subst e; rw [updB_self]; exact hsks
            · rw [updB_ne e]; exact hs u hu) (fun u hu q => absurd q (hmax u hu).1) ho he
        exact ⟨res', r1, .step hnea hA r2⟩
end Go.Proofs.Ytmbhgjekjpkigaa.AM

namespace Go.Proofs.Ytmbhgjekjpkigaa.AM
open Go
set_option linter.unusedVariables false
set_option linter.unusedSimpArgs false

def openT (L : List RecT) : List Nat := (txnsL L).filter fun t => !overT L t
theorem openL_eq (L : List RecT) : openL L = (openT L).map (openOf L) := rfl
theorem openT_rise (L : List RecT) : (openT L).Pairwise (· < ·) := (txnsL_rise L).filter _
theorem openT_nodup (L : List RecT) : (openT L).Nodup := (openT_rise L).imp (fun h => Nat.ne_of_lt h)
theorem openOf_add (L : List RecT) (m : RecT) (t : Nat) : openOf (L ++ [m]) t = if m.txn = t then ⟨t, m.lsn, nextOf m⟩ else openOf L t := by
  unfold openOf; rw [List.foldl_append]; rfl
theorem lastOf_add (L : List RecT) (m : RecT) (t : Nat) : lastOf (L ++ [m]) t = if m.txn = t then m.lsn else lastOf L t := by
  unfold lastOf; rw [List.foldl_append]; rfl
theorem overT_add (L : List RecT) (m : RecT) (t : Nat) : overT (L ++ [m]) t = (overT L t || decide (m.txn = t) && !chgR m) := by
  unfold overT; rw [List.any_append]; simp
theorem recAt_add (L : List RecT) (m : RecT) (n : Nat) : recAt (L ++ [m]) n = if m.lsn = n then some m else recAt L n := by
  unfold recAt; rw [List.foldl_append]; rfl
theorem lastLsn_add (L : List RecT) (m : RecT) : lastLsn (L ++ [m]) = m.lsn := by simp [lastLsn]
theorem openOf_inv (t : Nat) (Q : OpenT → Prop) : ∀ (L : List RecT) (a : OpenT), Q a → (∀ r ∈ L, r.txn = t → Q ⟨t, r.lsn, nextOf r⟩) → Q (L.foldl (fun a r => if r.txn = t then ⟨t, r.lsn, nextOf r⟩ else a) a)
  | [], a, h, _ => h
  | r :: L, a, h, hq => by
    rw [List.foldl_cons]
    refine openOf_inv t Q L _ ?_ (fun q hq' => hq q (.tail _ hq'))
    split
    · rename_i e; exact hq r (.head _) e
    · exact h
theorem openOf_le {L : List RecT} (hl : Lok L) (t : Nat) : (openOf L t).next ≤ (openOf L t).last := by
  refine openOf_inv t (fun x => x.next ≤ x.last) L ⟨t, 0, 0⟩ (Nat.le_refl _) (fun r hr _ => ?_)
  have := hl.lt hr
  show nextOf r ≤ r.lsn
  unfold nextOf
  split <;> omega
theorem openOf_last (L : List RecT) (t : Nat) : (openOf L t).last = lastOf L t := by
  unfold openOf lastOf
  have key : ∀ (L : List RecT) (a : OpenT) (n : Nat), a.last = n → (L.foldl (fun a r => if r.txn = t then (⟨t, r.lsn, nextOf r⟩ : OpenT) else a) a).last = L.foldl (fun a r => if r.txn = t then r.lsn else a) n := by
    intro L
    induction L with
    | nil => intro a n h; exact h
    | cons r L ih =>
      intro a n h
      rw [List.foldl_cons, List.foldl_cons]
      refine ih _ _ ?_
      split
      · rfl
      · exact h
  exact key L _ _ rfl
theorem mem_openT {L : List RecT} {t : Nat} : t ∈ openT L ↔ (∃ r ∈ L, r.txn = t) ∧ overT L t = false := by
  unfold openT
  rw [List.mem_filter, mem_txnsL]
  simp
theorem txnsL_add {L : List RecT} {m : RecT} (h : ∃ r ∈ L, r.txn = m.txn) : txnsL (L ++ [m]) = txnsL L := by
  refine rise_ext (txnsL_rise _) (txnsL_rise _) (fun x => ?_)
  rw [mem_txnsL, mem_txnsL]
  constructor
  · rintro ⟨r, hr, rfl⟩
    rcases List.mem_append.1 hr with h1 | h1
    · exact ⟨r, h1, rfl⟩
    · obtain rfl := List.mem_singleton.1 h1
      exact h
  · rintro ⟨r, hr, rfl⟩
    exact ⟨r, List.mem_append.2 (.inl hr), rfl⟩
theorem openT_chg {L : List RecT} {m : RecT} (h : m.txn ∈ openT L) (hc : chgR m = true) : openT (L ++ [m]) = openT L := by
  unfold openT
  rw [txnsL_add (mem_openT.1 h).1]
  congr 1
  funext t
  rw [overT_add, hc]; simp
theorem openT_end {L : List RecT} {m : RecT} (h : m.txn ∈ openT L) (hc : chgR m = false) : openT (L ++ [m]) = (openT L).filter fun u => decide (u ≠ m.txn) := by
  unfold openT
  rw [txnsL_add (mem_openT.1 h).1, List.filter_filter]
  congr 1
  funext t
  rw [overT_add, hc]
  by_cases e : m.txn = t
  · subst e; simp
  · have : ¬ t = m.txn := fun q => e q.symm
    simp [e, this]

/-! ### rows in order -/
theorem rowOk_Lok {L : List RecT} (h : rowOk L = true) : Lok L := by
  intro r hr
  obtain ⟨i, hi, rfl⟩ := List.getElem_of_mem hr
  have := rowOk_iff.1 h i hi
  rw [okAt_eq hi] at this
  simp only [okB, Bool.and_eq_true] at this
  exact this.1.1
theorem rowOk_lsn {L : List RecT} (h : rowOk L = true) : ∀ (i : Nat) (hi : i < L.length), L[i].lsn = L[0].lsn + i
  | 0, hi => rfl
  | i + 1, hi => by
    have h1 := rowOk_iff.1 h (i + 1) hi
    rw [okAt_eq hi] at h1
    simp only [okB, Bool.and_eq_true] at h1
    have h2 := h1.1.2
    simp [List.getElem?_eq_getElem (show i < L.length by omega)] at h2
    rw [h2, rowOk_lsn h i (by omega)]; omega
theorem rowOk_last {L : List RecT} (h : rowOk L = true) {r : RecT} (hr : r ∈ L) : r.lsn ≤ lastLsn L := by
  obtain ⟨i, hi, rfl⟩ := List.getElem_of_mem hr
  rw [lastLsn_get (by omega), rowOk_lsn h i hi, rowOk_lsn h (L.length - 1) (by omega)]
  omega
theorem rowOk_uniq {L : List RecT} (h : rowOk L = true) {q r : RecT} (hq : q ∈ L) (hr : r ∈ L) (e : q.lsn = r.lsn) : q = r := by
  obtain ⟨i, hi, rfl⟩ := List.getElem_of_mem hq
  obtain ⟨j, hj, rfl⟩ := List.getElem_of_mem hr
  rw [rowOk_lsn h i hi, rowOk_lsn h j hj] at e
  have : i = j := by omega
  subst this; rfl
theorem recAt_of {n : Nat} {r : RecT} (hn : r.lsn = n) : ∀ (L : List RecT) (a : Option RecT), (∀ q ∈ L, q.lsn = n → q = r) → (r ∈ L ∨ a = some r) → L.foldl (fun a r => if r.lsn = n then some r else a) a = some r
  | [], a, _, h => by
    rcases h with h | h
    · cases h
    · exact h
  | q :: L, a, hu, h => by
    rw [List.foldl_cons]
    refine recAt_of hn L _ (fun p hp => hu p (.tail _ hp)) ?_
    by_cases e : q.lsn = n
    · rw [if_pos e]; exact .inr (by rw [hu q (.head _) e])
    · rw [if_neg e]
      rcases h with h | h
      · rcases List.mem_cons.1 h with h | h
        · exact absurd (h ▸ hn) e
        · exact .inl h
      · exact .inr h
theorem rowOk_recAt {L : List RecT} (h : rowOk L = true) {r : RecT} (hr : r ∈ L) : recAt L r.lsn = some r :=
  recAt_of rfl L none (fun q hq e => rowOk_uniq h hq hr e) (.inl hr)
theorem lastOf_mem {t : Nat} : ∀ (L : List RecT) (n : Nat), ((∃ r ∈ L, r.txn = t) → ∃ r ∈ L, r.txn = t ∧ r.lsn = L.foldl (fun a r => if r.txn = t then r.lsn else a) n) ∧ ((∀ r ∈ L, r.txn ≠ t) → L.foldl (fun a r => if r.txn = t then r.lsn else a) n = n)
  | [], n => ⟨(fun ⟨r, hr, _⟩ => by cases hr), fun _ => rfl⟩
  | q :: L, n => by
    rw [List.foldl_cons]
    obtain ⟨i1, i2⟩ := lastOf_mem (t := t) L (if q.txn = t then q.lsn else n)
    refine ⟨fun ⟨r, hr, ht⟩ => ?_, fun h => ?_⟩
    · by_cases hL : ∃ r ∈ L, r.txn = t
      · obtain ⟨r', a1, a2, a3⟩ := i1 hL
        exact ⟨r', .tail _ a1, a2, a3⟩
      · have hL' : ∀ r ∈ L, r.txn ≠ t := fun r hr e => hL ⟨r, hr, e⟩
        rw [i2 hL']
        rcases List.mem_cons.1 hr with h | h
        · subst h
          exact ⟨r, .head _, ht, by rw [if_pos ht]⟩
        · exact absurd ht (hL' r h)
    · rw [i2 (fun r hr => h r (.tail _ hr)), if_neg (h q (.head _))]
theorem lastOf_in {L : List RecT} {t : Nat} (h : ∃ r ∈ L, r.txn = t) : ∃ r ∈ L, r.txn = t ∧ r.lsn = lastOf L t := (lastOf_mem L 0).1 h
/-- Those that are open, as the log tells, are right. -/
theorem rightO_open {L : List RecT} (h : rowOk L = true) : rightO L (openL L) = true := by
  unfold rightO rightTo
  rw [List.all_eq_true]
  intro i hi
  rw [List.mem_range] at hi
  unfold rightI
  rw [List.getElem?_eq_getElem hi]
  rw [openL_eq, List.length_map] at hi
  simp only [openL_eq, List.getElem_map]
  have hm : (openT L)[i] ∈ openT L := List.getElem_mem _
  obtain ⟨r, hr, ht, hl⟩ := lastOf_in (mem_openT.1 hm).1
  unfold rightAt
  rw [openOf_last, ← hl, rowOk_recAt h hr]
  have h1 := openOf_le (rowOk_Lok h) (openT L)[i]
  rw [openOf_last, ← hl] at h1
  simp only [openOf_txn, ht, Bool.and_eq_true, decide_eq_true_eq]
  refine ⟨⟨trivial, h1⟩, ?_⟩
  by_cases h0 : i = 0
  · simp [h0]
  · have hlt := List.pairwise_iff_getElem.1 (openT_rise L) (i - 1) i (by omega) hi (by omega)
    simp [h0, List.getElem?_eq_getElem (show i - 1 < (openT L).length by omega), openOf_txn, hlt]
theorem rowOk_snoc {L : List RecT} {m : RecT} (h : rowOk L = true) (hne : L ≠ []) (hm : recOk m = true) (h1 : m.lsn = lastLsn L + 1) (h2 : lastOf L m.txn = m.back) : rowOk (L ++ [m]) = true := by
  rw [rowOk_iff]
  intro i hi
  have hp : 0 < L.length := List.length_pos_iff.2 hne
  have hh : headLsn (L ++ [m]) = headLsn L := by
    cases L with
    | nil => exact absurd rfl hne
    | cons a L => rfl
  rw [okAt_eq hi]
  by_cases e : i < L.length
  · have := rowOk_iff.1 h i e
    rw [okAt_eq e] at this
    unfold okB at this ⊢
    rw [List.getElem_append_left e, hh, List.take_append_of_le_length (by omega)]
    by_cases h0 : i = 0
    · subst h0; exact this
    · rw [List.getElem?_append_left (by omega)]; exact this
  · have hi' : i = L.length := by simp at hi; omega
    subst hi'
    unfold okB
    rw [List.getElem_append_right (Nat.le_refl _)]
    simp only [Nat.sub_self, List.getElem_cons_zero, hm, Bool.true_and]
    rw [List.take_append_of_le_length (Nat.le_refl _), List.take_length, h2, List.getElem?_append_left (by omega), List.getElem?_eq_getElem (by omega)]
    rw [lastLsn_get hp] at h1
    simp [h1]
end Go.Proofs.Ytmbhgjekjpkigaa.AM

namespace Go.Proofs.Ytmbhgjekjpkigaa.AM
open Go
set_option linter.unusedVariables false
set_option linter.unusedSimpArgs false

structure UInv (l : List RecT) (s : US) (b : Nat → OpenT) (c : Nat) : Prop where
  left : s.left = (openT (l ++ s.out)).map b
  txn : ∀ u ∈ openT (l ++ s.out), (b u).txn = u
  lt : ∀ u ∈ openT (l ++ s.out), (b u).next < c
  sk : ∀ u ∈ openT (l ++ s.out), Skips l c (openOf (l ++ s.out) u) (b u)
  row : rowOk (l ++ s.out) = true
  nx : s.next = succU (lastLsn (l ++ s.out))
  lsn : ∀ m ∈ s.out, lastLsn l < m.lsn
  up : lastLsn l ≤ lastLsn (l ++ s.out)
  w : lastLsn (l ++ s.out) < 2 ^ 64
  len : s.out.length ≤ 64
  pg : ∀ m ∈ s.out, chgR m = true → m.page ∈ chgPages l
  tx : ∀ m ∈ s.out, ∃ r ∈ l, r.txn = m.txn
def ZCut (l : List RecT) (s : US) (b : Nat → OpenT) : Prop := ∀ u ∈ openT (l ++ s.out), (b u).next = 0 → openOf (l ++ s.out) u = b u
def ZMid (l : List RecT) (s : US) (b : Nat → OpenT) : Prop := ZCut l s b ∨ ∃ i ∈ openT (l ++ s.out), (b i).next = 0 ∧ ∀ u ∈ openT (l ++ s.out), u ≠ i → (b u).next ≠ 0
theorem UInv.tx' {l : List RecT} {s : US} {b : Nat → OpenT} {c t : Nat} (h : UInv l s b c) (ht : t ∈ openT (l ++ s.out)) : ∃ r ∈ l, r.txn = t := by
  obtain ⟨⟨r, hr, rfl⟩, _⟩ := mem_openT.1 ht
  rcases List.mem_append.1 hr with h1 | h1
  · exact ⟨r, h1, rfl⟩
  · exact h.tx r h1
theorem succU_ne {n : Nat} (h : succU n ≠ 0) : succU n = n + 1 := by
  unfold succU at h ⊢
  split
  · rename_i e; rw [if_pos e] at h; exact absurd rfl h
  · rfl
theorem succU_lt {n : Nat} (h : n < 2 ^ 64) : succU n < 2 ^ 64 := by
  unfold succU
  split <;> omega
/-- What an emission needs. -/
theorem UInv.base {l : List RecT} {s : US} {b : Nat → OpenT} {c t : Nat} (h : UInv l s b c) (hl : Lok l) (ht : t ∈ openT (l ++ s.out)) (h0 : s.next ≠ 0) :
    l ++ s.out ≠ [] ∧ s.next = lastLsn (l ++ s.out) + 1 ∧ 0 < t ∧ (b t).last = lastOf (l ++ s.out) t ∧ (b t).last ≤ lastLsn (l ++ s.out) ∧ (b t).next ≤ (b t).last := by
  obtain ⟨⟨r, hr, hrt⟩, _⟩ := mem_openT.1 ht
  have hsk := (h.sk t ht).le hl
  have hok := rowOk_Lok h.row
  have hop := openOf_le hok t
  rw [openOf_last] at hsk hop
  obtain ⟨q, hq, hqt, hql⟩ := lastOf_in ⟨r, hr, hrt⟩
  have h1 := rowOk_last h.row hq
  have h2 := hok r hr
  simp only [recOk, decide_eq_true_eq] at h2
  refine ⟨(fun e => by rw [e] at hr; cases hr), ?_, by omega, hsk.2.2, by omega, by omega⟩
  have := h.nx
  rw [this] at h0
  rw [this, succU_ne h0]
theorem UInv.fin {l : List RecT} {s : US} {b : Nat → OpenT} {c t : Nat} (h : UInv l s b c) (hl : Lok l) (hf : Fst (openT (l ++ s.out)) b t) (hb0 : (b t).next = 0) (hz : ZMid l s b) (h0 : s.next ≠ 0) (h64 : s.out.length ≠ 64) :
    UInv l ⟨succU s.next, ((openT (l ++ s.out)).filter fun u => decide (u ≠ t)).map b, s.out ++ [endRec s (b t)]⟩ b c ∧ ZCut l ⟨succU s.next, ((openT (l ++ s.out)).filter fun u => decide (u ≠ t)).map b, s.out ++ [endRec s (b t)]⟩ b := by
  obtain ⟨e1, e2, e3, e4, e5, e6⟩ := h.base hl hf.1 h0
  have hbt := h.txn t hf.1
  have hmt : (endRec s (b t)).txn = t := hbt
  have hrow : rowOk (l ++ (s.out ++ [endRec s (b t)])) = true := by
    rw [← List.append_assoc]
    refine rowOk_snoc h.row e1 ?_ e2 ?_
    · simp only [recOk, decide_eq_true_eq, endRec, hbt]
      simp
      omega
    · rw [hmt, ← e4]; rfl
  have hT : openT (l ++ (s.out ++ [endRec s (b t)])) = (openT (l ++ s.out)).filter fun u => decide (u ≠ t) := by
    rw [← List.append_assoc, openT_end (by rw [hmt]; exact hf.1) (by simp [endRec, chgR]), hmt]
  have hO : ∀ u ∈ openT (l ++ (s.out ++ [endRec s (b t)])), u ∈ openT (l ++ s.out) ∧ u ≠ t ∧ openOf (l ++ (s.out ++ [endRec s (b t)])) u = openOf (l ++ s.out) u := by
    intro u hu
    rw [hT] at hu
    obtain ⟨h1, h2⟩ := List.mem_filter.1 hu
    have h2 : u ≠ t := by simpa using h2
    exact ⟨h1, h2, by rw [← List.append_assoc, openOf_add, if_neg (by rw [hmt]; exact fun q => h2 q.symm)]⟩
  have hlast : lastLsn (l ++ (s.out ++ [endRec s (b t)])) = s.next := by rw [← List.append_assoc, lastLsn_add]; rfl
  refine ⟨⟨by rw [hT], fun u hu => h.txn u (hO u hu).1, fun u hu => h.lt u (hO u hu).1, fun u hu => by rw [(hO u hu).2.2]; exact h.sk u (hO u hu).1, hrow, by rw [hlast], ?_, ?_, by rw [hlast, h.nx]; exact succU_lt h.w, ?_, ?_, ?_⟩, ?_⟩
  · intro m hm
    rcases List.mem_append.1 hm with h1 | h1
    · exact h.lsn m h1
    · obtain rfl := List.mem_singleton.1 h1
      have := h.up
      show lastLsn l < s.next
      omega
  · have := h.up
    rw [hlast]; omega
  · have := h.len
    simp only [List.length_append, List.length_singleton]; omega
  · intro m hm hc
    rcases List.mem_append.1 hm with h1 | h1
    · exact h.pg m h1 hc
    · obtain rfl := List.mem_singleton.1 h1
      simp [endRec, chgR] at hc
  · intro m hm
    rcases List.mem_append.1 hm with h1 | h1
    · exact h.tx m h1
    · obtain rfl := List.mem_singleton.1 h1
      rw [hmt]; exact h.tx' hf.1
  · intro u hu hq
    obtain ⟨a1, a2, a3⟩ := hO u hu
    rw [a3]
    rcases hz with hz | ⟨i, hi, hi0, hio⟩
    · exact hz u a1 hq
    · have : i = t := Classical.byContradiction fun q => hio t hf.1 (fun w => q w.symm) hb0
      subst this
      exact absurd hq (hio u a1 a2)
theorem UInv.und {l : List RecT} {s : US} {b : Nat → OpenT} {c t : Nat} {r : RecT} (h : UInv l s b c) (hl : Lok l) (hf : Fst (openT (l ++ s.out)) b t) (hb0 : (b t).next ≠ 0) (hr : recAt l (b t).next = some r) (hrt : r.txn = t) (hrc : chgR r = true) (h0 : s.next ≠ 0) (h64 : s.out.length ≠ 64) :
    UInv l ⟨succU s.next, (openT (l ++ s.out)).map (updB b t ⟨t, s.next, r.back⟩), s.out ++ [undRec s (b t) r]⟩ (updB b t ⟨t, s.next, r.back⟩) c ∧ ZCut l ⟨succU s.next, (openT (l ++ s.out)).map (updB b t ⟨t, s.next, r.back⟩), s.out ++ [undRec s (b t) r]⟩ (updB b t ⟨t, s.next, r.back⟩) := by
  obtain ⟨e1, e2, e3, e4, e5, e6⟩ := h.base hl hf.1 h0
  have hbt := h.txn t hf.1
  have hmt : (undRec s (b t) r).txn = t := hbt
  obtain ⟨hrl, hrn⟩ := recAt_mem hr
  have hrk := hl r hrl
  have hlt := hl.lt hrl
  have hmc : chgR (undRec s (b t) r) = true := by simp [undRec, chgR]
  have hrow : rowOk (l ++ (s.out ++ [undRec s (b t) r])) = true := by
    rw [← List.append_assoc]
    refine rowOk_snoc h.row e1 ?_ e2 ?_
    · simp only [recOk, decide_eq_true_eq] at hrk
      simp only [recOk, decide_eq_true_eq, undRec, hbt]
      simp
      omega
    · rw [hmt, ← e4]; rfl
  have hT : openT (l ++ (s.out ++ [undRec s (b t) r])) = openT (l ++ s.out) := by
    rw [← List.append_assoc, openT_chg (by rw [hmt]; exact hf.1) hmc]
  have hO : ∀ u, openOf (l ++ (s.out ++ [undRec s (b t) r])) u = updB (openOf (l ++ s.out)) t ⟨t, s.next, r.back⟩ u := by
    intro u
    rw [← List.append_assoc, openOf_add, hmt]
    by_cases e : t = u
    · subst e; rw [if_pos rfl, updB_self]; rfl
    · rw [if_neg e, updB_ne (fun q => e q.symm)]
  have hlast : lastLsn (l ++ (s.out ++ [undRec s (b t) r])) = s.next := by rw [← List.append_assoc, lastLsn_add]; rfl
  have hct := h.lt t hf.1
  refine ⟨⟨by rw [hT], fun u hu => ?_, fun u hu => ?_, fun u hu => ?_, hrow, by rw [hlast], ?_, ?_, by rw [hlast, h.nx]; exact succU_lt h.w, ?_, ?_, ?_⟩, ?_⟩
  · rw [hT] at hu
    by_cases e : u = t
    · subst e; rw [updB_self]
    · rw [updB_ne e]; exact h.txn u hu
  · rw [hT] at hu
    by_cases e : u = t
    · subst e; rw [updB_self]; show r.back < c; omega
    · rw [updB_ne e]; exact h.lt u hu
  · rw [hT] at hu
    rw [hO]
    by_cases e : u = t
    · subst e; rw [updB_self, updB_self]; exact .refl _
    · rw [updB_ne e, updB_ne e]; exact h.sk u hu
  · intro m hm
    rcases List.mem_append.1 hm with h1 | h1
    · exact h.lsn m h1
    · obtain rfl := List.mem_singleton.1 h1
      have := h.up
      show lastLsn l < s.next
      omega
  · have := h.up
    rw [hlast]; omega
  · have := h.len
    simp only [List.length_append, List.length_singleton]; omega
  · intro m hm hc
    rcases List.mem_append.1 hm with h1 | h1
    · exact h.pg m h1 hc
    · obtain rfl := List.mem_singleton.1 h1
      exact List.mem_map.2 ⟨r, List.mem_filter.2 ⟨hrl, hrc⟩, rfl⟩
  · intro m hm
    rcases List.mem_append.1 hm with h1 | h1
    · exact h.tx m h1
    · obtain rfl := List.mem_singleton.1 h1
      rw [hmt]; exact h.tx' hf.1
  · intro u hu hq
    rw [hT] at hu
    rw [hO]
    by_cases e : u = t
    · subst e; rw [updB_self, updB_self]
    · rw [updB_ne e] at hq
      rcases hf.2 with ⟨q, _⟩ | ⟨_, q⟩
      · exact absurd q hb0
      · exact absurd hq (q u hu).1
theorem UInv.skip {l : List RecT} {s : US} {b : Nat → OpenT} {c t : Nat} {r : RecT} (h : UInv l s b c) (hl : Lok l) (hf : Fst (openT (l ++ s.out)) b t) (hb0 : (b t).next ≠ 0) (hr : recAt l (b t).next = some r) (hrt : r.txn = t) (hk : r.kind = 2) :
    UInv l ⟨s.next, (openT (l ++ s.out)).map (updB b t ⟨t, (b t).last, r.next⟩), s.out⟩ (updB b t ⟨t, (b t).last, r.next⟩) (b t).next ∧ ZMid l ⟨s.next, (openT (l ++ s.out)).map (updB b t ⟨t, (b t).last, r.next⟩), s.out⟩ (updB b t ⟨t, (b t).last, r.next⟩) := by
  have hbt := h.txn t hf.1
  obtain ⟨hrl, hrn⟩ := recAt_mem hr
  have hlt := hl.lt hrl
  have hct := h.lt t hf.1
  have hmax : ∀ u ∈ openT (l ++ s.out), (b u).next ≠ 0 ∧ (u ≠ t → (b u).next < (b t).next) := by
    rcases hf.2 with ⟨q, _⟩ | ⟨_, q⟩
    · exact absurd q hb0
    · exact q
  refine ⟨⟨rfl, fun u hu => ?_, fun u hu => ?_, fun u hu => ?_, h.row, h.nx, h.lsn, h.up, h.w, h.len, h.pg, h.tx⟩, ?_⟩
  · by_cases e : u = t
    · subst e; rw [updB_self]
    · rw [updB_ne e]; exact h.txn u hu
  · by_cases e : u = t
    · subst e; rw [updB_self]; show r.next < _; omega
    · rw [updB_ne e]; exact (hmax u hu).2 e
  · by_cases e : u = t
    · subst e
      rw [updB_self]
      refine ((h.sk u hu).mono (by omega)).snoc ⟨hb0, r, hr, by rw [hrt, hbt], hk, by rw [hbt]⟩ (Nat.le_refl _)
    · rw [updB_ne e]; exact (h.sk u hu).mono (by omega)
  · by_cases h0 : r.next = 0
    · refine .inr ⟨t, hf.1, by rw [updB_self]; exact h0, fun u hu e => ?_⟩
      rw [updB_ne e]; exact (hmax u hu).1
    · refine .inl fun u hu hq => ?_
      by_cases e : u = t
      · subst e; rw [updB_self] at hq; exact absurd hq h0
      · rw [updB_ne e] at hq; exact absurd hq (hmax u hu).1

def CutOK (l made : List RecT) (n : Nat) : Prop :=
  rowOk (l ++ made.take n) = true ∧ Ends (l ++ made.take n) ⟨succU (lastLsn (l ++ made.take n)), openL (l ++ made.take n), []⟩ (made.drop n) ∧ lastLsn l ≤ lastLsn (l ++ made.take n) ∧ lastLsn (l ++ made.take n) < 2 ^ 64
theorem recAt_keep {l out : List RecT} (hl : rowOk l = true) (h : ∀ m ∈ out, lastLsn l < m.lsn) {n : Nat} {r : RecT} (hr : recAt l n = some r) : recAt (l ++ out) n = some r := by
  unfold recAt at hr ⊢
  rw [List.foldl_append, hr]
  obtain ⟨h1, h2⟩ := recAt_mem (l := l) hr
  have h3 := rowOk_last hl h1
  have key : ∀ (o : List RecT) (a : Option RecT), (∀ m ∈ o, lastLsn l < m.lsn) → a = some r → o.foldl (fun a r => if r.lsn = n then some r else a) a = some r := by
    intro o
    induction o with
    | nil => intro a _ h; exact h
    | cons m o ih =>
      intro a hm ha
      rw [List.foldl_cons]
      have := hm m (.head _)
      exact ih _ (fun q hq => hm q (.tail _ hq)) (by rw [if_neg (by omega)]; exact ha)
  exact key out _ h rfl
theorem UInv.cut {l : List RecT} {s : US} {b : Nat → OpenT} {c : Nat} (h : UInv l s b c) (hl : rowOk l = true) (hz : ZCut l s b) {made : List RecT} (he : Ends l s made) : made.take s.out.length = s.out ∧ CutOK l made s.out.length := by
  obtain ⟨nx, left, out⟩ := s
  obtain ⟨res', h1, h2⟩ := resume (rowOk_Lok hl) (more := l ++ out) (fun n r hr => recAt_keep hl h.lsn hr) (muO ((openT (l ++ out)).map (openOf (l ++ out)))) (openT (l ++ out)) (openOf (l ++ out)) b c nx out [] (Nat.le_refl _) (openT_nodup _)
    (fun u _ => openOf_txn _ u) h.txn h.lt h.sk hz (by simpa using h.len) (by have := h.left; simp only at this; rw [← this, List.append_nil]; exact he)
  have ht : made.take out.length = out := by rw [h1, List.take_left]
  have hd : made.drop out.length = res' := by rw [h1, List.drop_left]
  refine ⟨ht, ?_⟩
  show CutOK l made out.length
  unfold CutOK
  rw [ht, hd]
  refine ⟨h.row, ?_, h.up, h.w⟩
  have := h.nx
  simp only at this
  rw [← this]
  exact h2
theorem track {l : List RecT} (hl : rowOk l = true) {made : List RecT} {s : US} (he : Ends l s made) : ∀ (b : Nat → OpenT) (c : Nat), UInv l s b c → ZMid l s b →
    (openT (l ++ made) = [] ∧ rowOk (l ++ made) = true ∧ (∀ m ∈ made, chgR m = true → m.page ∈ chgPages l) ∧ made.length ≤ 64 ∧ ∀ m ∈ made, ∃ r ∈ l, r.txn = m.txn) ∧ ∀ n, s.out.length < n → n ≤ made.length → CutOK l made n := by
  induction he with
  | @done s h =>
    intro b c hi hz
    have := hi.left
    rw [h] at this
    exact ⟨⟨by simpa using this.symm, hi.row, hi.pg, hi.len, hi.tx⟩, fun n h1 h2 => by omega⟩
  | @step s s' made h h1 h2 ih =>
    intro b c hi hz
    have hlk := rowOk_Lok hl
    have hts : openT (l ++ s.out) ≠ [] := fun q => h (by rw [hi.left, q]; rfl)
    have hgood := (Ends.step h h1 h2).good
    rw [hi.left] at hgood
    have hgb : ∀ u ∈ openT (l ++ s.out), (b u).next = 0 ∨ ∃ r, recAt l (b u).next = some r ∧ r.txn = (b u).txn ∧ chgR r = true := fun u hu => hgood (b u) (List.mem_map_of_mem hu)
    obtain ⟨t, hf⟩ := fst_exists (good_dist hi.txn hgb) hts
    have hst := undoS_at (l := l) (nx := s.next) (o := s.out) hi.txn (openT_nodup _) hf
    have hs : (⟨s.next, (openT (l ++ s.out)).map b, s.out⟩ : US) = s := by rw [← hi.left]
    rw [hs, h1] at hst
    have emit : ∀ b' c', UInv l s' b' c' → ZCut l s' b' → s'.out.length = s.out.length + 1 → (openT (l ++ made) = [] ∧ rowOk (l ++ made) = true ∧ (∀ m ∈ made, chgR m = true → m.page ∈ chgPages l) ∧ made.length ≤ 64 ∧ ∀ m ∈ made, ∃ r ∈ l, r.txn = m.txn) ∧ ∀ n, s.out.length < n → n ≤ made.length → CutOK l made n := by
      intro b' c' hi' hz' hlen
      obtain ⟨r1, r2⟩ := ih b' c' hi' (.inl hz')
      refine ⟨r1, fun n hn hn2 => ?_⟩
      by_cases e : n = s'.out.length
      · subst e; exact (hi'.cut hl hz' h2).2
      · exact r2 n (by omega) hn2
    by_cases h0 : (b t).next = 0
    · rw [if_pos h0] at hst
      obtain ⟨e1, e2, rfl⟩ := emitU_ok hst.symm
      obtain ⟨i1, i2⟩ := hi.fin hlk hf h0 hz e2 e1
      exact emit _ _ i1 i2 (by simp)
    · rw [if_neg h0] at hst
      obtain hg | ⟨r, hr, hrt, hrc⟩ := hgb t hf.1
      · exact absurd hg h0
      rw [hi.txn t hf.1] at hrt
      rw [hr] at hst
      simp only at hst
      rw [if_neg (by rw [hrt, hrc]; simp)] at hst
      by_cases hk : r.kind = 2
      · rw [if_pos hk] at hst
        simp only [Sum.inl.injEq] at hst
        subst hst
        obtain ⟨i1, i2⟩ := hi.skip hlk hf h0 hr hrt hk
        exact ih _ _ i1 i2
      · rw [if_neg hk] at hst
        obtain ⟨e1, e2, rfl⟩ := emitU_ok hst.symm
        obtain ⟨i1, i2⟩ := hi.und hlk hf h0 hr hrt hrc e2 e1
        exact emit _ _ i1 i2 (by simp)
end Go.Proofs.Ytmbhgjekjpkigaa.AM

namespace Go.Proofs.Ytmbhgjekjpkigaa.AM
open Go
set_option linter.unusedVariables false
set_option linter.unusedSimpArgs false

theorem chgPages_app {l o : List RecT} (h : ∀ m ∈ o, chgR m = true → m.page ∈ chgPages l) (n : Int) : n ∈ chgPages (l ++ o) ↔ n ∈ chgPages l := by
  unfold chgPages
  rw [List.filter_append, List.map_append, List.mem_append]
  constructor
  · rintro (h1 | h1)
    · exact h1
    · obtain ⟨m, hm, rfl⟩ := List.mem_map.1 h1
      obtain ⟨a, b⟩ := List.mem_filter.1 hm
      exact h m a b
  · exact .inl
theorem togP_app {ps : List PageT} {l o : List RecT} (h : togP ps l = true) (h1 : ∀ m ∈ o, chgR m = true → m.page ∈ chgPages l) (h2 : lastLsn l ≤ lastLsn (l ++ o)) : togP ps (l ++ o) = true := by
  simp only [togP, Bool.and_eq_true, decide_eq_true_eq, List.all_eq_true] at h ⊢
  obtain ⟨⟨a, b⟩, c⟩ := h
  refine ⟨⟨a, ?_⟩, fun n hn => c n ((chgPages_app h1 n).1 hn)⟩
  simp only [pagesOk, List.all_eq_true, List.mem_range] at b ⊢
  intro i hi
  have := b i hi
  simp only [togI, List.getElem?_eq_getElem hi, togAt, Bool.and_eq_true] at this ⊢
  refine ⟨this.1, ?_⟩
  have h3 := this.2
  simp only [Bool.not_eq_true', Bool.and_eq_false_iff, decide_eq_false_iff_not] at h3 ⊢
  rw [chgPages_app h1]
  rcases h3 with h3 | h3
  · exact .inl h3
  · exact .inr (by omega)
theorem againP_app (ps : List PageT) (l o : List RecT) : againP ps (l ++ o) = againP (againP ps l) o := by unfold againP; rw [List.foldl_append]
theorem rowErr_zero {l : List RecT} : rowErr l = 0 ↔ l.length ≤ 64 ∧ rowOk l = true := by
  unfold rowErr
  split
  · constructor
    · intro h; cases h
    · intro h; omega
  · split
    · rename_i h1 h2; simp [h2]; omega
    · rename_i h1 h2; simp [h2]
theorem Ends.nil {l : List RecT} {nx : Nat} {o res : List RecT} (h : Ends l ⟨nx, [], o⟩ res) : res = o := by
  cases h with
  | done h => rfl
  | step h _ _ => exact absurd rfl h
theorem rowOk_count {l o : List RecT} (h : rowOk (l ++ o) = true) (hne : l ≠ []) : lastLsn (l ++ o) = lastLsn l + o.length := by
  have hp : 0 < l.length := List.length_pos_iff.2 hne
  have e1 := lastLsn_get (l := l ++ o) (by simp; omega)
  rw [e1, rowOk_lsn h _ (by simp; omega), lastLsn_get hp]
  have h2 := rowOk_lsn h (l.length - 1) (by simp; omega)
  rw [List.getElem_append_left (by omega)] at h2
  rw [h2]
  simp
  omega
theorem cut_law {ps : List PageT} {l : List RecT} {next : Nat} {q : List PageT} {made : List RecT} (hw : lastLsn l < 2 ^ 64) (hnx : next = succU (lastLsn l)) (h : allP ps l next = (q, made, 0)) :
    made.length ≤ 64 ∧ (∀ m ∈ made, ∃ r ∈ l, r.txn = m.txn) ∧ (l.length + made.length ≤ 64 → rowErr (l ++ made) = 0 ∧ openL (l ++ made) = []) ∧
    ∀ n, n ≤ made.length → rowOk (l ++ made.take n) = true ∧ lastLsn (l ++ made.take n) < 2 ^ 64 ∧ (next + n) % 2 ^ 64 = succU (lastLsn (l ++ made.take n)) ∧ ((l ++ made.take n).length ≤ 64 → allP ps (l ++ made.take n) (succU (lastLsn (l ++ made.take n))) = (q, made.drop n, 0)) := by
  subst hnx
  have hs := succU_lt hw
  have h' := h
  unfold allP at h
  split at h
  · rename_i hc; simp only [Prod.mk.injEq] at h; exact absurd h.2.2 hc
  rename_i hc
  have hc : checkR ps l = 0 := Classical.byContradiction hc
  obtain ⟨hr, htog⟩ := checkR_zero hc
  obtain ⟨hlen, hrow⟩ := rowErr_zero.1 hr
  split at h
  · rename_i ho
    simp only [Prod.mk.injEq] at h
    obtain ⟨rfl, rfl, _⟩ := h
    refine ⟨by simp, (fun m hm => by cases hm), fun _ => by rw [List.append_nil]; exact ⟨hr, ho⟩, fun n hn => ?_⟩
    obtain rfl : n = 0 := by simpa using hn
    simp only [List.take_nil, List.append_nil, List.drop_nil]
    exact ⟨hrow, hw, by rw [Nat.add_zero]; exact Nat.mod_eq_of_lt hs, fun _ => h'⟩
  rename_i ho
  split at h
  · rename_i he; simp only [Prod.mk.injEq] at h; exact absurd h.2.2 he
  rename_i he
  have he : (undoP l (openL l) (succU (lastLsn l))).2 = 0 := Classical.byContradiction he
  simp only [Prod.mk.injEq] at h
  obtain ⟨hq, hmade, _⟩ := h
  have hun : undoP l (openL l) (succU (lastLsn l)) = (made, 0) := by rw [← hmade, ← he]
  rw [hmade, ← againP_app] at hq
  have hlk := rowOk_Lok hrow
  have hlne : l ≠ [] := by
    rintro rfl
    have := openL_len (l := [])
    exact ho (List.eq_nil_of_length_eq_zero (by simpa using this))
  have hends : Ends l ⟨succU (lastLsn l), openL l, []⟩ made := by
    unfold undoP at hun
    rw [if_neg (by simpa using hr)] at hun
    split at hun
    · simp only [Prod.mk.injEq] at hun; exact absurd hun.2 (by decide)
    split at hun
    · simp only [Prod.mk.injEq] at hun; exact absurd hun.2 (by decide)
    exact ends_of hlk _ _ (Nat.le_refl _) hun
  have hi : UInv l ⟨succU (lastLsn l), openL l, []⟩ (openOf l) (lastLsn l + 1) := by
    refine ⟨by rw [List.append_nil]; rfl, fun u _ => openOf_txn l u, fun u hu => ?_, fun u _ => by rw [List.append_nil]; exact .refl _, by rw [List.append_nil]; exact hrow, by rw [List.append_nil], (fun m hm => by cases hm), by rw [List.append_nil]; exact Nat.le_refl _, by rw [List.append_nil]; exact hw, by simp, (fun m hm => by cases hm), (fun m hm => by cases hm)⟩
    rw [List.append_nil] at hu
    have h1 := openOf_le hlk u
    rw [openOf_last] at h1
    obtain ⟨r, hr1, hr2, hr3⟩ := lastOf_in (mem_openT.1 hu).1
    have := rowOk_last hrow hr1
    omega
  have hz : ZCut l ⟨succU (lastLsn l), openL l, []⟩ (openOf l) := fun u hu _ => by rw [List.append_nil]
  obtain ⟨⟨t1, t2, t3, t4, t6⟩, t5⟩ := track hrow hends _ _ hi (.inl hz)
  have t5 : ∀ n, n ≤ made.length → CutOK l made n := by
    intro n hn
    by_cases h0 : n = 0
    · subst h0
      exact (hi.cut hrow hz hends).2
    · exact t5 n (by show 0 < n; omega) hn
  refine ⟨t4, t6, fun h64 => ⟨rowErr_zero.2 ⟨by simpa using h64, t2⟩, by rw [openL_eq, t1]; rfl⟩, fun n hn => ?_⟩
  obtain ⟨c1, c2, c3, c4⟩ := t5 n hn
  refine ⟨c1, c4, ?_, fun h64 => ?_⟩
  · have hcnt := rowOk_count c1 hlne
    rw [hcnt, List.length_take, Nat.min_eq_left hn] at c4 ⊢
    by_cases h0 : n = 0
    · subst h0; rw [Nat.add_zero, Nat.add_zero]; exact Nat.mod_eq_of_lt hs
    · unfold succU
      rw [if_neg (by omega)]
      split
      · rename_i e
        rw [show lastLsn l + 1 + n = 2 ^ 64 by omega]
      · rw [Nat.mod_eq_of_lt (by omega)]; omega
  · obtain ⟨more, hmore⟩ : ∃ more, more = l ++ made.take n := ⟨_, rfl⟩
    rw [← hmore] at c1 c2 c3 c4 h64 ⊢
    have hmk := rowOk_Lok c1
    have hrm : rowErr more = 0 := rowErr_zero.2 ⟨h64, c1⟩
    have htm : togP ps more = true := by
      rw [hmore]
      refine togP_app htog (fun m hm hcm => t3 m (List.mem_of_mem_take hm) hcm) ?_
      rw [← hmore]; exact c3
    have hcm : checkR ps more = 0 := by unfold checkR; rw [if_pos hrm, if_pos htm]
    have happ : againP (againP ps more) (made.drop n) = q := by
      rw [← againP_app, hmore, List.append_assoc, List.take_append_drop, hq]
    unfold allP
    rw [if_neg (by simpa using hcm)]
    by_cases hom : openL more = []
    · rw [if_pos hom]
      rw [hom] at c2
      have := c2.nil
      rw [this] at happ ⊢
      rw [← happ]; rfl
    · rw [if_neg hom]
      have hnz := c2.next hom
      have hund : undoP more (openL more) (succU (lastLsn more)) = (made.drop n, 0) := by
        unfold undoP
        have e := succU_ne hnz
        simp only at hnz
        rw [if_neg (by simpa using hrm), if_neg (by omega), if_neg (by rw [rightO_open c1]; simp)]
        exact undoF_of hmk c2 _ (Nat.le_refl _)
      rw [hund]
      simp only [ne_eq, not_true_eq_false, if_false, happ]
end Go.Proofs.Ytmbhgjekjpkigaa.AM

namespace Go.Proofs.Ytmbhgjekjpkigaa.AM
open Go
set_option linter.unusedVariables false
set_option linter.unusedSimpArgs false
variable {P : Program}

structure CutR (P : Program) : Prop extends PgsR P where
  cut : R_gazetteerlaw12_RedoCut P

theorem add1_succU {n : Nat} (h : n < 2 ^ 64) : IntKind.u64.wrap ((n : Int) + 1) = ((succU n : Nat) : Int) := by
  rw [u64add1 h]
  unfold succU
  split <;> simp
theorem pageN (ps : List PageT) : (pagesL ps).length < 2 ^ 40 := by
  have := pagesL_len (l := ps); omega
theorem u64_wrap (x : Int) : IntKind.u64.wrap x = x % 18446744073709551616 := by
  simp [IntKind.wrap, IntKind.bits, IntKind.signed]
theorem cut_nat (x : Int) (m : Nat) : ∃ n : Nat, n ≤ m ∧ (IntKind.u64.wrap x).tmod ((m : Int) + 1) = (n : Int) := by
  rw [u64_wrap]
  obtain ⟨y, hy⟩ : ∃ y : Nat, x % 18446744073709551616 = (y : Int) := ⟨(x % 18446744073709551616).toNat, by omega⟩
  rw [hy]
  refine ⟨y % (m + 1), by have := Nat.mod_lt y (show 0 < m + 1 by omega); omega, ?_⟩
  rw [Int.tmod_eq_emod_of_nonneg (by omega)]
  first | exact (Int.natCast_emod y (m + 1)).symm | exact (Int.ofNat_emod y (m + 1)).symm | (push_cast; rfl)
theorem moreW {l made : List RecT} (hw : rowW l) (htx : ∀ m ∈ made, ∃ r ∈ l, r.txn = m.txn) (h1 : rowOk (l ++ made) = true) (h2 : lastLsn (l ++ made) < 2 ^ 64) : rowW (l ++ made) := by
  intro r hr
  have h3 := rowOk_last h1 hr
  have h4 := rowOk_Lok h1 r hr
  simp only [recOk, decide_eq_true_eq] at h4
  refine ⟨by omega, ?_, by omega, by omega, by omega, by omega⟩
  rcases List.mem_append.1 hr with h | h
  · exact (hw r h).2.1
  · obtain ⟨q, hq, e⟩ := htx r h
    rw [← e]; exact (hw q hq).2.1
/-- An owned row that nobody writes any more: the second of some values. -/
theorem ghost_msl2 {L : List (Option (Nat × Obj))} {nv id ver len sz : Nat} {es : List (List V)} {a : V} {rest : List V} {K : List V → St → Prop} (ho : L[id]? = some (some (ver, .mem sz es))) (hl : len = es.length)
    (hk : K (a :: .sl .unk sz es [] :: rest) ⟨L.set id none, nv⟩) : GhostV (a :: .msl id ver 0 len :: rest) ⟨L, nv⟩ K :=
  GhostV.freeze (vs' := a :: .sl .unk sz es [] :: rest) (st' := ⟨L.set id none, nv⟩) (id := id) (ver := ver) (sz := sz) (es := es) (by simp [St.get, ho]) rfl rfl (fun j => by
    cases j with
    | zero => exact Frz.refl _
    | succ j => cases j with
      | zero =>
        have := Frz.msl (id := id) (ver := ver) (sz := sz) (es := es) 0 len (by omega)
        subst hl
        simpa using this
      | succ j => simpa using Frz.refl _) (fun id1 ver1 o1 h1 => by
      by_cases e : id = id1
      · subst e
        simp only at h1
        rw [List.getElem?_set_self (List.getElem?_eq_some_iff.1 ho).1] at h1
        cases h1
      · simp only at h1
        rw [List.getElem?_set_ne e] at h1
        exact ⟨fun q => e q.symm, o1, h1, .inl rfl⟩) hk
theorem againP_len (ps : List PageT) (l : List RecT) : (againP ps l).length = ps.length := by
  unfold againP
  induction l generalizing ps with
  | nil => rfl
  | cons r l ih =>
    rw [List.foldl_cons, ih]
    unfold redo1
    split <;> simp
theorem allP_len (ps : List PageT) (l : List RecT) (next : Nat) : (allP ps l next).1.length ≤ ps.length := by
  unfold allP
  split
  · simp
  · split
    · exact Nat.le_of_eq (againP_len _ _)
    · split
      · simp
      · simp only [againP_len]; exact Nat.le_refl _
def CuI (m : Nat) (k : Nat) (v : V) (st : St) : Prop := ∃ i nv, k = m - i ∧ i ≤ m ∧ v = .int .i64 ((i : Nat) : Int) ∧ st = ⟨[none], nv⟩
set_option maxHeartbeats 4000000 in
theorem lCut (h : CutR P) (ps : List PageT) (rs : List RecT) (hn : ∀ r ∈ rs, recN r) (cut : Int) : PCalls P n_gazetteerlaw12_RedoCut [.sl .unk 6 (ps.map cPage) [], .sl .unk 9 (rs.map cRec) [], .int .i64 cut] (fun r => r = .bool true) := by
  refine A_gazetteerlaw12_RedoCut h.cut ?_
  unfold F_gazetteerlaw12_RedoCut
  simp [st0]
  refine inv_p (Wakes_R h.toRLawR) rfl rfl ?_
  rintro _ rfl
  simp
  have pr : ∀ l : List RecT, pureL [V.sl .unk 9 (l.map cRec) []] = true := fun l => by simp [pureL, V.pure, pureLL]
  refine inv_p (Pages_R h.toPgsR ps) rfl (by simp [pureL, V.pure, pureLL]) ?_
  rintro _ rfl
  simp
  refine inv_p (Records_R h.toRLawR rs) rfl (pr _) ?_
  rintro _ rfl
  obtain ⟨l, hl⟩ : ∃ l, l = recordsL rs := ⟨_, rfl⟩
  have hw : rowW l := by rw [hl]; exact recordsW hn
  have h65 : l.length ≤ 65 := by rw [hl]; exact recordsL_len rs
  obtain ⟨p, hp⟩ : ∃ p, p = pagesL ps := ⟨_, rfl⟩
  have hpn : p.length < 2 ^ 40 := by rw [hp]; exact pageN ps
  rw [← hl, ← hp]
  have hlw : lastLsn l < 2 ^ 64 := by
    by_cases h0 : l = []
    · rw [h0]; decide
    · rw [lastLsn_get (List.length_pos_iff.2 h0)]; exact (hw _ (List.getElem_mem _)).1
  refine ⟨fun v st => v = .int .u64 ((succU (lastLsn l) : Nat) : Int) ∧ ∃ nv, st = ⟨[], nv⟩, ?_, ?_⟩
  · by_cases h0 : l = []
    · subst h0
      simp
      exact GhostV.refl ⟨by simp [lastLsn, succU], _, rfl⟩
    · have hp0 : 0 < l.length := List.length_pos_iff.2 h0
      have hws := wsub1 (x := l.length) (by omega) hp0
      simp [h0, hp0, hws, show l.length - 1 < l.length by omega]
      refine GhostV.refl ⟨?_, _, rfl⟩
      rw [← lastLsn_get hp0, add1_succU hlw]
  rintro v9 st ⟨rfl, nv, rfl⟩
  have hsl := succU_lt hlw
  simp
  refine inv_p (All_R h.toAllR p l (succU (lastLsn l)) hpn (by omega) hw hsl) rfl (by simp [pureL, V.pure, pureLL]) ?_
  rintro _ rfl
  obtain ⟨⟨q, made, e⟩, hall⟩ : ∃ x, x = allP p l (succU (lastLsn l)) := ⟨_, rfl⟩
  unfold redoAllR
  rw [← hall]
  have herr : e ≠ 0 → q = [] ∧ made = [] := by
    intro he
    unfold allP at hall
    split at hall
    · simp only [Prod.mk.injEq] at hall; exact ⟨hall.1, hall.2.1⟩
    · split at hall
      · simp only [Prod.mk.injEq] at hall; exact absurd hall.2.2 he
      · split at hall
        · simp only [Prod.mk.injEq] at hall; exact ⟨hall.1, hall.2.1⟩
        · simp only [Prod.mk.injEq] at hall; exact absurd hall.2.2 he
  by_cases he : e = 0
  case neg =>
    obtain ⟨rfl, rfl⟩ := herr he
    simp [he]
    exact GhostV.refl ⟨rfl, rfl⟩
  subst he
  obtain ⟨hm64, htx, hopen, hcut⟩ := cut_law hlw rfl hall.symm
  obtain ⟨n, hnm, hn1⟩ := cut_nat cut made.length
  have hw1 : IntKind.i64.wrap ((made.length : Int) + 1) = (made.length : Int) + 1 := by rw [wadd1 (by omega)]; rfl
  have hw2 : IntKind.u64.wrap ((made.length : Int) + 1) = (made.length : Int) + 1 := by rw [Go.IntWalk.u64_in _ (by omega)]
  have hw3 : ¬ ((made.length : Int) + 1 = 0) := by omega
  have hw4 : IntKind.i64.wrap (n : Int) = (n : Int) := by rw [wrap_i64 (by omega)]
  have hw5 : IntKind.u64.wrap (n : Int) = (n : Int) := by rw [Go.IntWalk.u64_in _ (by omega)]
  simp [hw1, hw2, hw3, hn1, hw4, hw5]
  refine ⟨hnm, by omega, hnm, by omega, ?_⟩
  rw [Nat.min_eq_left hnm]
  by_cases h64 : (64 : Int) < (l.length : Int) + (n : Int)
  · simp [h64]
    exact GhostV.refl ⟨rfl, rfl⟩
  simp [h64]
  obtain ⟨c1, c4, c2, c3⟩ := hcut n hnm
  have c3 := c3 (by simp; omega)
  obtain ⟨more, hmore⟩ : ∃ more, more = l ++ made.take n := ⟨_, rfl⟩
  have hmw : rowW more := by rw [hmore]; exact moreW hw (fun m hm => htx m (List.mem_of_mem_take hm)) c1 c4
  have hml : more.length = l.length + n := by rw [hmore]; simp; omega
  have em : l.map cRec ++ (made.map cRec).take n = more.map cRec := by rw [hmore, List.map_append, List.map_take]
  rw [← hmore] at c1 c2 c3 c4
  rw [em, ← hml]
  have hrm : rowErr more = 0 := rowErr_zero.2 ⟨by omega, c1⟩
  refine inv_look (CheckRow_R h.toRowR more (by omega) hmw) (Bors.cons (a := .msl 0 (nv + 1 + 1) 0 more.length) (Bor.rowG (sz := 9) (l := more) (c := cRec) (rows := more.map cRec) (fun _ => rfl) (by simp [St.get]) (List.take_of_length_le (by simp)) (by simp)) Bors.nil) (pr _) ?_
  rintro _ rfl
  refine ⟨rfl, ?_⟩
  have hw6 : IntKind.u64.wrap ((succU (lastLsn l) : Nat) + (n : Nat) : Int) = ((succU (lastLsn more) : Nat) : Int) := by
    rw [u64_wrap, ← c2]
    rw [← Int.natCast_add]
    exact (Int.natCast_emod (succU (lastLsn l) + n) 18446744073709551616).symm
  simp [hrm, hw5, hw6]
  refine inv_f0 (ACalls.gv (All_R h.toAllR [] [] 0 (by simp) (by simp) (fun r hr => by cases hr) (by omega)).1 (ghost_msl2 (sz := 9) (es := more.map cRec) (by simp) (by simp) ?_))
  refine (All_R h.toAllR p more (succU (lastLsn more)) hpn (by omega) hmw (succU_lt c4)).at (by simp [pureL, V.pure, pureLL]) ?_
  rintro _ rfl
  unfold redoAllR
  rw [c3]
  simp
  have hqn : q.length < 2 ^ 40 := by
    have := allP_len p l (succU (lastLsn l))
    rw [← hall] at this
    simp only at this
    omega
  refine inv_p (Same_P h.toPgsR q q hqn) rfl (by simp [pureL, V.pure, pureLL]) ?_
  rintro _ rfl
  have hws : IntKind.i64.wrap ((made.length : Int) - (n : Int)) = ((made.length - n : Nat) : Int) := wsub (by omega) hnm
  simp [hws]
  have hmk : Lok (l ++ made) := by
    have := (hcut made.length (Nat.le_refl _)).1
    rw [List.take_length] at this
    exact rowOk_Lok this
  have hmsz : ∀ m ∈ made, m.old.length < 2 ^ 40 ∧ m.new.length < 2 ^ 40 := by
    intro m hm
    have := hmk m (List.mem_append.2 (.inr hm))
    simp only [recOk, decide_eq_true_eq] at this
    omega
  refine ⟨CuI (made.length - n), ⟨made.length - n, GhostV.refl ⟨0, _, by simp, by simp, by simp, rfl⟩⟩, ?_⟩
  rintro k1 v105 st ⟨i, nv2, rfl, hi, rfl, rfl⟩
  by_cases hlt : i < made.length - n
  · have hnl : n + i < made.length := by omega
    have hwa : IntKind.i64.wrap ((n : Int) + (i : Int)) = ((n + i : Nat) : Int) := wadd (by omega)
    have et : ((n : Int) + (i : Int)).toNat = n + i := by omega
    simp [hlt, hwa, hnl]
    rw [et, List.getElem?_eq_getElem hnl]
    simp only [Option.map_some, Option.getD_some]
    refine ⟨⟨by omega, by omega⟩, by simp, ?_⟩
    have hsz := hmsz made[n + i] (List.getElem_mem _)
    refine inv_p (Same_R h.toRecR made[n + i] made[n + i] hsz.1 hsz.2) rfl (by simp [pureL, V.pure, pureLL]) ?_
    rintro _ rfl
    simp
    exact ⟨made.length - n - (i + 1), by omega, GhostV.keep (L := [none]) ⟨i + 1, _, rfl, by omega, by rw [wadd1 (by omega)], rfl⟩⟩
  · have hwl : IntKind.i64.wrap ((l.length : Int) + (made.length : Int)) = ((l.length + made.length : Nat) : Int) := wadd (by omega)
    by_cases h64b : (64 : Int) < (l.length : Int) + (made.length : Int)
    · simp [hlt, hwl, h64b]
      exact GhostV.refl ⟨rfl, rfl⟩
    simp [hlt, hwl, h64b]
    obtain ⟨o1, o2⟩ := hopen (by omega)
    have hgm := (hcut made.length (Nat.le_refl _))
    rw [List.take_length] at hgm
    have hw2 : rowW (l ++ made) := moreW hw htx hgm.1 hgm.2.1
    have e2 : l.map cRec ++ made.map cRec = (l ++ made).map cRec := (List.map_append ..).symm
    have el : l.length + made.length = (l ++ made).length := by simp
    have h80 : (l ++ made).length < 2 ^ 40 := by simp; omega
    rw [e2, el]
    refine ⟨by omega, by omega, ?_⟩
    obtain ⟨lm, hlm⟩ : ∃ lm, lm = l ++ made := ⟨_, rfl⟩
    rw [← hlm] at o1 o2 hw2 h80 ⊢
    refine inv_f0 (ACalls.gv (Open_R h.toOpnR [] (by simp) (fun r hr => by cases hr)).1 (GhostV.rowx (L := [none, some (nv2 + 1 + 1, .mem 9 (lm.map cRec))]) (id := 1) (sz := 9) (es := lm.map cRec) (by simp) (by simp) ?_))
    rw [List.drop_zero, take_map_len]
    refine (Open_R h.toOpnR lm h80 hw2).at (pr _) ?_
    rintro _ rfl
    simp [openR, o1, o2]
    exact GhostV.refl ⟨rfl, rfl⟩
end Go.Proofs.Ytmbhgjekjpkigaa.AM
