/- Redo: the plain law, and the statement, walked. -/
import Derived.Test.YtmbhgjekjpkigaaRC
namespace Go.Proofs.Ytmbhgjekjpkigaa.AM
open Go
set_option linter.unusedVariables false
set_option linter.unusedSimpArgs false
variable {P : Program}

structure PgsR (P : Program) : Prop extends RLawR P where
  eqF : R_slices_EqualFunc_Lbyte_LLbyte_Lbyte_Lbyte P
  psame : R_page_Same P
  copy6 : R_gazetteerref06_Copy P
  pages : R_gazetteerlaw12_pages P
  same12 : R_gazetteerlaw12_same P

theorem EqF_P (h : PgsR P) (a b : List (List UInt8)) (ha : a.length < 2 ^ 40) : PCalls P n_slices_EqualFunc_Lbyte_LLbyte_Lbyte_Lbyte [vBB a, vBB b, .fn (.func n_bytes_Equal) [] []] (fun r => r = .bool (decide (a = b))) := by
  refine A_slices_EqualFunc_Lbyte_LLbyte_Lbyte_Lbyte h.eqF ?_
  unfold F_slices_EqualFunc_Lbyte_LLbyte_Lbyte_Lbyte
  simp [st0, vBB]
  by_cases hl : a.length = b.length
  case neg =>
    simp [hl]
    exact GhostV.refl ⟨rfl, by have : ¬ a = b := fun e => hl (by rw [e]); simp [this]⟩
  · simp [hl]
    refine ⟨EqvI b.length (fun i => a.take i = b.take i), ⟨b.length, GhostV.refl ⟨0, 0, by simp, by simp, by simp, by simp, by simp⟩⟩, ?_⟩
    rintro k1 v17 st ⟨i, nv, rfl, hi, rfl, hn, rfl⟩
    by_cases hlt : i < b.length
    · have hlt' : i < a.length := by omega
      simp [hlt, hlt']
      refine inv_p (bEqual h.toBytR a[i] b[i]) rfl (by simp [pureL, V.pure]) ?_
      rintro _ rfl
      by_cases he : a[i] = b[i]
      · simp [he]
        refine ⟨b.length - (i + 1), by omega, GhostV.refl ⟨i + 1, nv, rfl, by omega, by rw [wadd1 (by omega)], ?_, rfl⟩⟩
        dsimp only
        rw [take_snoc hlt, take_snoc hlt', hn, he]
      · simp [he]
        exact GhostV.refl ⟨rfl, by have : ¬ a = b := fun e => he (by simp [e]); simp [this]⟩
    · simp [hlt]
      rw [List.take_of_length_le (by omega), List.take_of_length_le (by omega)] at hn
      exact GhostV.refl ⟨rfl, by simp [hn]⟩
/-- Of a box nobody writes any more, an array within it as a row: the second of two. -/
theorem ghost_asl2 {L : List (Option (Nat × Obj))} {nv id ver i off n k sz : Nat} {es : List (List V)} {a : V} {rest : List V} {K : List V → St → Prop} (ho : L[id]? = some (some (ver, .mem sz es))) (hi : i < es.length) (h0 : 0 < k) (h : off + n * k ≤ sz)
    (hk : K (a :: .sl .unk k (chunk k n ((es.getD i []).drop off)) [] :: rest) ⟨L.set id none, nv⟩) : GhostV (a :: .asl id ver i off n k :: rest) ⟨L, nv⟩ K :=
  GhostV.freeze (vs' := a :: .sl .unk k (chunk k n ((es.getD i []).drop off)) [] :: rest) (st' := ⟨L.set id none, nv⟩) (id := id) (ver := ver) (sz := sz) (es := es) (by simp [St.get, ho]) rfl rfl (fun j => by
    cases j with
    | zero => exact Frz.refl _
    | succ j => cases j with
      | zero => exact .asl id i off n k hi h0 h
      | succ j => simpa using Frz.refl _) (fun id1 ver1 o1 h1 => by
      by_cases e : id = id1
      · subst e
        simp only at h1
        rw [List.getElem?_set_self (List.getElem?_eq_some_iff.1 ho).1] at h1
        cases h1
      · simp only at h1
        rw [List.getElem?_set_ne e] at h1
        exact ⟨fun q => e q.symm, o1, h1, .inl rfl⟩) hk
theorem PSame (h : PgsR P) (p q : PageT) : PCalls P n_page_Same [.agg (cPage p), .agg (cPage q)] (fun r => r = .bool (decide (p = q))) := by
  refine A_page_Same h.psame ?_
  unfold F_page_Same
  simp [st0]
  by_cases h1 : p.num = q.num
  case neg =>
    simp [h1]
    exact GhostV.refl ⟨rfl, by have : ¬ p = q := fun e => h1 (by rw [e]); simp [this]⟩
  by_cases h2 : p.lsn = q.lsn
  case neg =>
    have h2' : ¬ ((p.lsn : Int) = (q.lsn : Int)) := by omega
    simp [h1, h2]
    exact GhostV.refl ⟨rfl, by have : ¬ p = q := fun e => h2 (by rw [e]); simp [this]⟩
  simp [eq_true h1, eq_true h2]
  refine inv_f0 (ACalls.gv (EqF_P h [] [] (by simp)).1 (ghost_asl (sz := 6) (es := [cPage p]) (by simp) (by simp) (by simp) (by simp) ?_))
  have e1 : V.sl .unk 1 (chunk 1 4 (([cPage p].getD 0 []).drop 2)) [] = vBB [p.s0, p.s1, p.s2, p.s3] := by simp [chunk, vBB]
  have e2 : V.sl .unk 1 (chunk 1 4 (([cPage q].getD 0 []).drop 2)) [] = vBB [q.s0, q.s1, q.s2, q.s3] := by simp [chunk, vBB]
  rw [e1]
  refine ACalls.gv (EqF_P h [] [] (by simp)).1 (ghost_asl2 (sz := 6) (es := [cPage q]) (by simp) (by simp) (by simp) (by simp) ?_)
  rw [e2]
  refine (EqF_P h [p.s0, p.s1, p.s2, p.s3] [q.s0, q.s1, q.s2, q.s3] (by simp)).at (by simp [pureL, V.pure, pureLL]) ?_
  rintro _ rfl
  simp
  refine GhostV.refl ⟨rfl, ?_⟩
  obtain ⟨pn, pl, p0, p1, p2, p3⟩ := p
  obtain ⟨qn, ql, q0, q1, q2, q3⟩ := q
  simp only at h1 h2
  subst h1 h2
  simp only [PageT.mk.injEq, true_and]
  by_cases g : p0 = q0 ∧ p1 = q1 ∧ p2 = q2 ∧ p3 = q3
  · obtain ⟨rfl, rfl, rfl, rfl⟩ := g
    simp
  · rw [decide_eq_false g]
    have : (decide (p0 = q0) && (decide (p1 = q1) && (decide (p2 = q2) && decide (p3 = q3)))) = false := by
      rw [Bool.eq_false_iff]; simpa using g
    rw [this]; rfl

/-! ### pages -/
@[simp] abbrev vT (l : List UInt8) (t : SK × List (List V)) : V := .sl t.1 1 (l.map c8) t.2
@[simp] abbrev tPage (p : PageT) (t0 t1 t2 t3 : SK × List (List V)) : List V := [.int .i64 p.num, .int .u64 p.lsn, vT p.s0 t0, vT p.s1 t1, vT p.s2 t2, vT p.s3 t3]
@[simp] def cpAt (p : PageT) (t0 t1 t2 t3 : SK × List (List V)) (i : Nat) : List V :=
  [.int .i64 p.num, .int .u64 p.lsn, vT p.s0 (if 0 < i then (.unk, []) else t0), vT p.s1 (if 1 < i then (.unk, []) else t1), vT p.s2 (if 2 < i then (.unk, []) else t2), vT p.s3 (if 3 < i then (.unk, []) else t3)]
def CpI (p : PageT) (t0 t1 t2 t3 : SK × List (List V)) (k : Nat) (v : V) (st : St) : Prop :=
  ∃ i nv, k = 4 - i ∧ i ≤ 4 ∧ v = .int .i64 ((i : Nat) : Int) ∧ st = ⟨[some (0, .mem 6 [cpAt p t0 t1 t2 t3 i]), some (1, .mem 6 [zCells])], nv⟩
set_option maxHeartbeats 2000000 in
theorem Copy_P (h : PgsR P) (p : PageT) (hp : pShort p) (t0 t1 t2 t3 : SK × List (List V)) (h0 : pureLL t0.2 = true) (h1 : pureLL t1.2 = true) (h2 : pureLL t2.2 = true) (h3 : pureLL t3.2 = true) :
    PCalls P n_gazetteerref06_Copy [.agg (tPage p t0 t1 t2 t3)] (fun r => r = .agg (cPage p)) := by
  obtain ⟨p0, p1, p2, p3⟩ := hp
  refine A_gazetteerref06_Copy h.copy6 ?_
  unfold F_gazetteerref06_Copy
  simp [st0]
  refine ⟨CpI p t0 t1 t2 t3, ⟨4, GhostV.refl ⟨0, _, by simp, by simp, by simp, rfl⟩⟩, ?_⟩
  rintro k1 v st ⟨j, nv, rfl, hj, rfl, rfl⟩
  have tk : ∀ b : List UInt8, List.take b.length (List.map c8 b) = List.map c8 b := fun b => List.take_of_length_le (by simp)
  have dk : ∀ b : List UInt8, List.drop b.length (List.map c8 b) = [] := fun b => List.drop_eq_nil_of_le (by simp)
  rcases (by omega : j = 0 ∨ j = 1 ∨ j = 2 ∨ j = 3 ∨ j = 4) with rfl | rfl | rfl | rfl | rfl
  · simp
    simp [offV]
    refine ⟨by omega, 3, by omega, GhostV.frzO (b := 0) (id := 2) (i := 0) (j := 2) (by decide) rfl rfl rfl rfl (by simp) ?_⟩
    simp [tk, dk]
    exact GhostV.keep (L := [_, _]) (M := [none]) ⟨1, _, rfl, by omega, by rw [wrap_i64 (by omega)]; rfl, by simp; rfl⟩
  · simp
    simp [offV]
    refine ⟨by omega, 2, by omega, GhostV.frzO (b := 0) (id := 2) (i := 0) (j := 3) (by decide) rfl rfl rfl rfl (by simp) ?_⟩
    simp [tk, dk]
    exact GhostV.keep (L := [_, _]) (M := [none]) ⟨2, _, rfl, by omega, by rw [wrap_i64 (by omega)]; rfl, by simp; rfl⟩
  · simp
    simp [offV]
    refine ⟨by omega, 1, by omega, GhostV.frzO (b := 0) (id := 2) (i := 0) (j := 4) (by decide) rfl rfl rfl rfl (by simp) ?_⟩
    simp [tk, dk]
    exact GhostV.keep (L := [_, _]) (M := [none]) ⟨3, _, rfl, by omega, by rw [wrap_i64 (by omega)]; rfl, by simp; rfl⟩
  · simp
    simp [offV]
    refine ⟨by omega, GhostV.frzO (b := 0) (id := 2) (i := 0) (j := 5) (by decide) rfl rfl rfl rfl (by simp) ?_⟩
    simp [tk, dk]
    exact GhostV.keep (L := [_, _]) (M := [none]) ⟨4, _, rfl, by omega, by rw [wrap_i64 (by omega)]; rfl, by simp; rfl⟩
  · simp
    exact GhostV.refl ⟨by simp [V.pure, pureL, pureLL], rfl⟩

def cutP (p : PageT) : PageT := { p with s0 := p.s0.take 53, s1 := p.s1.take 53, s2 := p.s2.take 53, s3 := p.s3.take 53 }
def pagesL (l : List PageT) : List PageT := (l.take 33).map cutP
theorem cutP_short (p : PageT) : pShort (cutP p) := by
  unfold cutP pShort
  simp only [List.length_take]
  exact ⟨by omega, by omega, by omega, by omega⟩
@[simp] def c53 (b : Bool) (l : List UInt8) : V := if b then .sl (if l = [] then .unk else .nn) 1 ((l.take 53).map c8) ((l.map c8).drop (min l.length 53)) else vB l
@[simp] def ctAt (p : PageT) (i : Nat) : List V := [.int .i64 p.num, .int .u64 p.lsn, c53 (decide (0 < i)) p.s0, c53 (decide (1 < i)) p.s1, c53 (decide (2 < i)) p.s2, c53 (decide (3 < i)) p.s3]
def PgI (l : List PageT) (k : Nat) (v3 v10 : V) (st : St) : Prop :=
  ∃ (i va nv : Nat) (out : List PageT), k = l.length - i ∧ i ≤ l.length ∧ i ≤ 33 ∧ out = (l.take i).map cutP ∧ v3 = .msl 0 va 0 out.length ∧ v10 = .int .i64 ((i : Nat) : Int) ∧ st = ⟨[some (va, .mem 6 (out.map cPage))], nv⟩
def PgJ (p : PageT) (out : List PageT) (va vb : Nat) (k : Nat) (v : V) (st : St) : Prop :=
  ∃ (i nv : Nat), k = 4 - i ∧ i ≤ 4 ∧ v = .int .i64 ((i : Nat) : Int) ∧ st = ⟨[some (va, .mem 6 (out.map cPage)), some (vb, .mem 6 [ctAt p i])], nv⟩
set_option maxHeartbeats 4000000 in
theorem Pages_G (h : PgsR P) (l : List PageT) {K : V → St → Prop} (hk : ∀ va nv M, GhostV [.msl 0 va 0 (pagesL l).length] ⟨[some (va, .mem 6 ((pagesL l).map cPage))] ++ M, nv⟩ fun vs st => K (mkres vs) st) :
    ACalls P n_gazetteerlaw12_pages [.sl .unk 6 (l.map cPage) []] st0 K := by
  refine A_gazetteerlaw12_pages h.pages ?_
  unfold F_gazetteerlaw12_pages
  simp [st0]
  have fin : ∀ {out : List PageT} {va nv : Nat} {M : List (Option (Nat × Obj))}, out = pagesL l → GhostV [.msl 0 va 0 out.length] ⟨[some (va, .mem 6 (out.map cPage))] ++ M, nv⟩ fun vs st => K (mkres vs) st := by
    rintro out va nv M rfl
    exact hk va nv M
  refine ⟨PgI l, ⟨l.length, GhostV.nilr 6 (by decide) ⟨0, 0, 1, [], by simp, by simp, by simp, by simp, by simp, by simp, by simp⟩⟩, ?_⟩
  rintro k1 v3 v10 st ⟨i, va, nv, out, rfl, hi, hi33, hout, rfl, rfl, rfl⟩
  by_cases hlt : i < l.length
  · by_cases h33 : (i : Int) = 33
    · simp [hlt, eq_true h33]
      exact fin (M := [_]) (by rw [hout, show i = 33 by omega]; rfl)
    · simp [hlt, h33]
      have hol : out.length = i := by rw [hout]; simp; omega
      refine ⟨PgJ l[i] out va nv, ⟨4, GhostV.refl ⟨0, _, by simp, by simp, by simp, by simp; rfl⟩⟩, ?_⟩
      rintro k2 v19 st ⟨j, nv2, rfl, hj, rfl, rfl⟩
      rcases (by omega : j = 0 ∨ j = 1 ∨ j = 2 ∨ j = 3 ∨ j = 4) with rfl | rfl | rfl | rfl | rfl
      · simp
        rw [min53, Int.toNat_natCast, take53]
        refine ⟨by omega, ?_⟩
        simp [offV]
        exact ⟨3, by omega, GhostV.refl ⟨1, _, rfl, by omega, by rw [wrap_i64 (by omega)]; rfl, by simp; rfl⟩⟩
      · simp
        rw [min53, Int.toNat_natCast, take53]
        refine ⟨by omega, ?_⟩
        simp [offV]
        exact ⟨2, by omega, GhostV.refl ⟨2, _, rfl, by omega, by rw [wrap_i64 (by omega)]; rfl, by simp; rfl⟩⟩
      · simp
        rw [min53, Int.toNat_natCast, take53]
        refine ⟨by omega, ?_⟩
        simp [offV]
        exact ⟨1, by omega, GhostV.refl ⟨3, _, rfl, by omega, by rw [wrap_i64 (by omega)]; rfl, by simp; rfl⟩⟩
      · simp
        rw [min53, Int.toNat_natCast, take53]
        refine ⟨by omega, ?_⟩
        simp [offV]
        exact GhostV.refl ⟨4, _, rfl, by omega, by rw [wrap_i64 (by omega)]; rfl, by simp; rfl⟩
      · simp
        refine inv_p (Copy_P h (cutP l[i]) (cutP_short _) (if l[i].s0 = [] then .unk else .nn, (l[i].s0.map c8).drop (min l[i].s0.length 53)) (if l[i].s1 = [] then .unk else .nn, (l[i].s1.map c8).drop (min l[i].s1.length 53))
          (if l[i].s2 = [] then .unk else .nn, (l[i].s2.map c8).drop (min l[i].s2.length 53)) (if l[i].s3 = [] then .unk else .nn, (l[i].s3.map c8).drop (min l[i].s3.length 53)) (p_drop8 _ _) (p_drop8 _ _) (p_drop8 _ _) (p_drop8 _ _)) (by simp [cutP, List.map_take]) (by simp [pureL, V.pure, p_drop8]) ?_
        rintro _ rfl
        simp
        have e : out.map cPage ++ [[V.int IntKind.i64 (cutP l[i]).num, V.int IntKind.u64 ((cutP l[i]).lsn : Nat), vB (cutP l[i]).s0, vB (cutP l[i]).s1, vB (cutP l[i]).s2, vB (cutP l[i]).s3]] = (out ++ [cutP l[i]]).map cPage := by
          rw [List.map_append]; rfl
        rw [e]
        exact ⟨by omega, l.length - (i + 1), by omega, GhostV.keep (L := [_]) ⟨i + 1, _, _, out ++ [cutP l[i]], rfl, by omega, by omega, by rw [take_snoc hlt, List.map_append, ← hout]; rfl, by simp, by rw [wadd1 (by omega)], rfl⟩⟩
  · simp [hlt]
    exact fin (M := []) (by rw [hout]; unfold pagesL; rw [List.take_of_length_le (by omega), List.take_of_length_le (by omega)])
theorem pagesL_len {l : List PageT} : (pagesL l).length ≤ 33 := by
  unfold pagesL; simp; omega
def SaI (a b : List PageT) (k : Nat) (v : V) (st : St) : Prop := ∃ i nv, k = b.length - i ∧ i ≤ b.length ∧ v = .int .i64 ((i : Nat) : Int) ∧ a.take i = b.take i ∧ st = ⟨[], nv⟩
theorem Same_P (h : PgsR P) (a b : List PageT) (ha : a.length < 2 ^ 40) : PCalls P n_gazetteerlaw12_same [.sl .unk 6 (a.map cPage) [], .sl .unk 6 (b.map cPage) []] (fun r => r = .bool (decide (a = b))) := by
  refine A_gazetteerlaw12_same h.same12 ?_
  unfold F_gazetteerlaw12_same
  simp [st0]
  by_cases hl : a.length = b.length
  case neg =>
    simp [hl]
    exact GhostV.refl ⟨rfl, by have : ¬ a = b := fun e => hl (by rw [e]); simp [this]⟩
  · simp [hl]
    refine ⟨SaI a b, ⟨b.length, GhostV.refl ⟨0, 0, by simp, by simp, by simp, by simp, by simp⟩⟩, ?_⟩
    rintro k1 v17 st ⟨i, nv, rfl, hi, rfl, hn, rfl⟩
    by_cases hlt : i < b.length
    · have hlt' : i < a.length := by omega
      simp [hlt, hlt']
      refine inv_p (PSame h a[i] b[i]) rfl (by simp [pureL, V.pure, pureLL]) ?_
      rintro _ rfl
      by_cases he : a[i] = b[i]
      · simp [eq_true he]
        refine ⟨b.length - (i + 1), by omega, GhostV.refl ⟨i + 1, nv, rfl, by omega, by rw [wadd1 (by omega)], ?_, rfl⟩⟩
        rw [take_snoc hlt, take_snoc hlt', hn, he]
      · simp [eq_false he]
        exact GhostV.refl ⟨rfl, by have : ¬ a = b := fun e => he (by simp [e]); simp [this]⟩
    · simp [hlt]
      rw [List.take_of_length_le (by omega), List.take_of_length_le (by omega)] at hn
      exact GhostV.refl ⟨rfl, by simp [hn]⟩
end Go.Proofs.Ytmbhgjekjpkigaa.AM

namespace Go.Proofs.Ytmbhgjekjpkigaa.AM
open Go
set_option linter.unusedVariables false
set_option linter.unusedSimpArgs false

def succU (n : Nat) : Nat := if n + 1 = 2 ^ 64 then 0 else n + 1

/-! ### which one comes first -/
theorem minO_foldl {x : OpenT} : ∀ {l : List OpenT} {m : OpenT}, (m = x ∨ x ∈ l) → (∀ y, (y = m ∨ y ∈ l) → y ≠ x → befO x y < 0 ∧ ¬ befO y x < 0) → l.foldl (fun m y => if befO y m < 0 then y else m) m = x
  | [], m, h, _ => by
    rcases h with h | h
    · simpa using h
    · cases h
  | y :: l, m, h, h1 => by
    rw [List.foldl_cons]
    by_cases hm : m = x
    · subst hm
      by_cases hy : y = m
      · subst hy
        rw [ite_self]
        exact minO_foldl (.inl rfl) (fun z hz => h1 z (by rcases hz with hz | hz; exact .inl hz; exact .inr (.tail _ hz)))
      · rw [if_neg (h1 y (.inr (.head _)) hy).2]
        exact minO_foldl (.inl rfl) (fun z hz => h1 z (by rcases hz with hz | hz; exact .inl hz; exact .inr (.tail _ hz)))
    · by_cases hy : y = x
      · subst hy
        rw [if_pos (h1 m (.inl rfl) hm).1]
        exact minO_foldl (.inl rfl) (fun z hz => h1 z (by rcases hz with hz | hz; exact .inr (hz ▸ .head _); exact .inr (.tail _ hz)))
      · have hx : x ∈ l := by
          rcases h with h | h
          · exact absurd h hm
          · rcases List.mem_cons.1 h with h | h
            · exact absurd h.symm hy
            · exact h
        refine minO_foldl (.inr hx) (fun z hz => h1 z ?_)
        rcases hz with hz | hz
        · split at hz
          · exact .inr (hz ▸ .head _)
          · exact .inl hz
        · exact .inr (.tail _ hz)
theorem minO_of {x : OpenT} {L : List OpenT} (hx : x ∈ L) (h1 : ∀ y ∈ L, y ≠ x → befO x y < 0 ∧ ¬ befO y x < 0) : minO L = x := by
  cases L with
  | nil => cases hx
  | cons a L =>
    refine minO_foldl ?_ (fun y hy => h1 y ?_)
    · rcases List.mem_cons.1 hx with h | h
      · exact .inl h.symm
      · exact .inr h
    · rcases hy with h | h
      · exact h ▸ .head _
      · exact .tail _ h
theorem befO_zn {x y : OpenT} (hx : x.next = 0) (hy : y.next ≠ 0) : befO x y < 0 ∧ ¬ befO y x < 0 := by
  have h : min y.next 1 = 1 := by omega
  unfold befO
  rw [if_pos (.inl hx), if_pos (.inr hx), hx, h]
  simp [orI, cmpN]
theorem befO_zz {x y : OpenT} (hx : x.next = 0) (hy : y.next = 0) (h : x.txn < y.txn) : befO x y < 0 ∧ ¬ befO y x < 0 := by
  unfold befO
  rw [if_pos (.inl hx), if_pos (.inr hx), hx, hy]
  have : ¬ y.txn < x.txn := by omega
  simp [orI, cmpN, h, this]
theorem befO_nn {x y : OpenT} (hx : x.next ≠ 0) (hy : y.next ≠ 0) (h : y.next < x.next) : befO x y < 0 ∧ ¬ befO y x < 0 := by
  unfold befO
  have : ¬ x.next < y.next := by omega
  rw [if_neg (by omega), if_neg (by omega)]
  simp [cmpN, h, this]
/-- The first of some transactions. -/
def Fst (ts : List Nat) (b : Nat → OpenT) (t : Nat) : Prop :=
  t ∈ ts ∧ (((b t).next = 0 ∧ ∀ u ∈ ts, (b u).next = 0 → t ≤ u) ∨ ((b t).next ≠ 0 ∧ ∀ u ∈ ts, (b u).next ≠ 0 ∧ (u ≠ t → (b u).next < (b t).next)))
theorem minO_fst {ts : List Nat} {b : Nat → OpenT} {t : Nat} (hb : ∀ u ∈ ts, (b u).txn = u) (h : Fst ts b t) : minO (ts.map b) = b t := by
  obtain ⟨ht, h⟩ := h
  refine minO_of (List.mem_map_of_mem ht) (fun y hy hne => ?_)
  obtain ⟨u, hu, rfl⟩ := List.mem_map.1 hy
  have hut : u ≠ t := fun e => hne (by rw [e])
  rcases h with ⟨h0, h1⟩ | ⟨h0, h1⟩
  · by_cases hz : (b u).next = 0
    · exact befO_zz h0 hz (by rw [hb t ht, hb u hu]; have := h1 u hu hz; omega)
    · exact befO_zn h0 hz
  · exact befO_nn h0 (h1 u hu).1 ((h1 u hu).2 hut)
theorem exists_max : ∀ (ts : List Nat) (f : Nat → Nat), ts ≠ [] → ∃ t ∈ ts, ∀ u ∈ ts, f u ≤ f t
  | [], _, h => absurd rfl h
  | [a], f, _ => ⟨a, .head _, fun u hu => by rw [List.mem_singleton.1 hu]; exact Nat.le_refl _⟩
  | a :: b :: l, f, _ => by
    obtain ⟨t, ht, h⟩ := exists_max (b :: l) f (by simp)
    by_cases e : f t ≤ f a
    · exact ⟨a, .head _, fun u hu => by
        rcases List.mem_cons.1 hu with rfl | hu
        · exact Nat.le_refl _
        · exact Nat.le_trans (h u hu) e⟩
    · exact ⟨t, .tail _ ht, fun u hu => by
        rcases List.mem_cons.1 hu with rfl | hu
        · omega
        · exact h u hu⟩
theorem exists_min : ∀ (ts : List Nat) (p : Nat → Prop) [DecidablePred p], (∃ t ∈ ts, p t) → ∃ t ∈ ts, p t ∧ ∀ u ∈ ts, p u → t ≤ u
  | [], _, _, h => by obtain ⟨t, h, _⟩ := h; cases h
  | a :: l, p, _, h => by
    by_cases hl : ∃ t ∈ l, p t
    · obtain ⟨t, h1, h2, h3⟩ := exists_min l p hl
      by_cases e : p a ∧ a ≤ t
      · exact ⟨a, .head _, e.1, fun u hu hp => by
          rcases List.mem_cons.1 hu with rfl | hu
          · exact Nat.le_refl _
          · have := h3 u hu hp; omega⟩
      · exact ⟨t, .tail _ h1, h2, fun u hu hp => by
          rcases List.mem_cons.1 hu with rfl | hu
          · by_cases q : u ≤ t
            · exact absurd ⟨hp, q⟩ e
            · omega
          · exact h3 u hu hp⟩
    · obtain ⟨t, ht, hp⟩ := h
      rcases List.mem_cons.1 ht with rfl | ht
      · exact ⟨t, .head _, hp, fun u hu hq => by
          rcases List.mem_cons.1 hu with rfl | hu
          · exact Nat.le_refl _
          · exact absurd ⟨u, hu, hq⟩ hl⟩
      · exact absurd ⟨t, ht, hp⟩ hl
theorem fst_exists {ts : List Nat} {b : Nat → OpenT} (hd : ∀ u ∈ ts, ∀ v ∈ ts, (b u).next ≠ 0 → (b u).next = (b v).next → u = v) (hne : ts ≠ []) : ∃ t, Fst ts b t := by
  by_cases hz : ∃ t ∈ ts, (b t).next = 0
  · obtain ⟨t, h1, h2, h3⟩ := exists_min ts (fun u => (b u).next = 0) hz
    exact ⟨t, h1, .inl ⟨h2, h3⟩⟩
  · obtain ⟨t, h1, h2⟩ := exists_max ts (fun u => (b u).next) hne
    have nz : ∀ u ∈ ts, (b u).next ≠ 0 := fun u hu e => hz ⟨u, hu, e⟩
    exact ⟨t, h1, .inr ⟨nz t h1, fun u hu => ⟨nz u hu, fun hut => by
      have := h2 u hu
      have h3 : (b u).next ≠ (b t).next := fun e => hut (hd u hu t h1 (nz u hu) e)
      omega⟩⟩⟩

/-! ### steps -/
def updB (b : Nat → OpenT) (t : Nat) (y : OpenT) (u : Nat) : OpenT := if u = t then y else b u
theorem idx_map {ts : List Nat} {b : Nat → OpenT} {t : Nat} (hb : ∀ u ∈ ts, (b u).txn = u) (hn : ts.Nodup) (ht : t ∈ ts) (y : OpenT) :
    (ts.map b).eraseIdx ((ts.map b).idxOf (b t)) = (ts.filter fun u => decide (u ≠ t)).map b ∧ (ts.map b).set ((ts.map b).idxOf (b t)) y = ts.map (updB b t y) ∧ (ts.map b).idxOf (b t) < (ts.map b).length ∧ (ts.map b)[(ts.map b).idxOf (b t)]? = some (b t) := by
  induction ts with
  | nil => cases ht
  | cons u ts ih =>
    rw [List.nodup_cons] at hn
    rw [List.map_cons, List.idxOf_cons]
    by_cases e : u = t
    · subst e
      have h1 : ∀ v ∈ ts, v ≠ u := fun v hv q => hn.1 (q ▸ hv)
      refine ⟨?_, ?_, ?_, ?_⟩
      · simp only [beq_self_eq_true, cond_true, List.eraseIdx_zero, List.tail_cons]
        rw [List.filter_cons, if_neg (by simp), List.filter_eq_self.2 (fun v hv => by simpa using h1 v hv)]
      · simp only [beq_self_eq_true, cond_true, List.set_cons_zero, List.map_cons]
        congr 1
        · simp [updB]
        · exact List.map_congr_left fun v hv => by simp [updB, h1 v hv]
      · simp
      · simp
    · have ht' : t ∈ ts := by
        rcases List.mem_cons.1 ht with h | h
        · exact absurd h.symm e
        · exact h
      have hne : (b u == b t) = false := by
        rw [beq_eq_false_iff_ne]
        intro q
        have := congrArg OpenT.txn q
        rw [hb u (.head _), hb t ht] at this
        exact e this
      obtain ⟨i1, i2, i3, i4⟩ := ih (fun v hv => hb v (.tail _ hv)) hn.2 ht'
      rw [hne]
      simp only [cond_false]
      refine ⟨?_, ?_, ?_, ?_⟩
      · rw [List.eraseIdx_cons_succ, i1, List.filter_cons, if_pos (by simpa using e)]; rfl
      · rw [List.set_cons_succ, i2, List.map_cons]
        congr 1
        simp [updB, e]
      · simpa using i3
      · simpa using i4
theorem undoS_at {l : List RecT} {ts : List Nat} {b : Nat → OpenT} {t nx : Nat} {o : List RecT} (hb : ∀ u ∈ ts, (b u).txn = u) (hn : ts.Nodup) (h : Fst ts b t) :
    undoS l ⟨nx, ts.map b, o⟩ = if (b t).next = 0 then emitU ⟨nx, ts.map b, o⟩ ((ts.filter fun u => decide (u ≠ t)).map b) (endRec ⟨nx, ts.map b, o⟩ (b t)) else match recAt l (b t).next with
      | none => .inr 220
      | some r => if r.txn ≠ t ∨ chgR r = false then .inr 220
        else if r.kind = 2 then .inl ⟨nx, ts.map (updB b t ⟨t, (b t).last, r.next⟩), o⟩
        else emitU ⟨nx, ts.map b, o⟩ (ts.map (updB b t ⟨t, nx, r.back⟩)) (undRec ⟨nx, ts.map b, o⟩ (b t) r) := by
  have e := minO_fst hb h
  unfold undoS
  simp only [e, hb t h.1]
  have hi := fun y => idx_map hb hn h.1 y
  rw [(hi (b t)).1]
  (simp only [fun y => (hi y).2.1]) <;> rfl

/-! ### that they end -/
def Lok (l : List RecT) : Prop := ∀ r ∈ l, recOk r = true
theorem Lok.lt {l : List RecT} (h : Lok l) {r : RecT} (hr : r ∈ l) : r.back < r.lsn ∧ r.next ≤ r.back := by
  have := h r hr
  simp only [recOk, decide_eq_true_eq] at this
  omega
theorem undoS_inl {l : List RecT} {s s' : US} (h : undoS l s = .inl s') :
    ((minO s.left).next = 0 ∧ s'.left = s.left.eraseIdx (s.left.idxOf (minO s.left)) ∧ s.next ≠ 0) ∨
    ((minO s.left).next ≠ 0 ∧ ∃ r y, recAt l (minO s.left).next = some r ∧ r.txn = (minO s.left).txn ∧ chgR r = true ∧ s'.left = s.left.set (s.left.idxOf (minO s.left)) y ∧ (y.next = r.next ∨ y.next = r.back) ∧ (s'.next = s.next ∨ s.next ≠ 0)) := by
  have emit : ∀ {L m}, emitU s L m = .inl s' → s'.left = L ∧ s.next ≠ 0 := by
    intro L m h
    unfold emitU at h
    split at h
    · cases h
    · rename_i hq
      simp only [Sum.inl.injEq] at h
      subst h
      exact ⟨rfl, fun q => hq (.inr q)⟩
  unfold undoS at h
  dsimp only at h
  split at h
  · rename_i h0
    exact .inl ⟨h0, emit h⟩
  · rename_i h0
    refine .inr ⟨h0, ?_⟩
    split at h
    · cases h
    · rename_i r hr
      split at h
      · cases h
      · rename_i hq
        have h1 : r.txn = (minO s.left).txn := Classical.byContradiction fun q => hq (.inl q)
        have h2 : chgR r = true := by
          cases e : chgR r
          · exact absurd (.inr e) hq
          · rfl
        split at h
        · simp only [Sum.inl.injEq] at h
          subst h
          exact ⟨r, _, hr, h1, h2, rfl, .inl rfl, .inl rfl⟩
        · exact ⟨r, _, hr, h1, h2, (emit h).1, .inr rfl, .inr (emit h).2⟩
theorem minO_in {L : List OpenT} (h : L ≠ []) : minO L ∈ L := by
  have key : ∀ (l : List OpenT) (m : OpenT), l.foldl (fun m y => if befO y m < 0 then y else m) m = m ∨ l.foldl (fun m y => if befO y m < 0 then y else m) m ∈ l := by
    intro l
    induction l with
    | nil => intro m; exact .inl rfl
    | cons y l ih =>
      intro m
      rw [List.foldl_cons]
      rcases ih (if befO y m < 0 then y else m) with h | h
      · rw [h]
        split
        · exact .inr (.head _)
        · exact .inl rfl
      · exact .inr (.tail _ h)
  cases L with
  | nil => exact absurd rfl h
  | cons a L =>
    rcases key L a with h | h
    · show (L.foldl _ a) ∈ _
      rw [h]; exact .head _
    · exact .tail _ h
theorem idx_min {L : List OpenT} (h : L ≠ []) : ∃ hi : L.idxOf (minO L) < L.length, L[L.idxOf (minO L)] = minO L :=
  ⟨List.idxOf_lt_length_iff.2 (minO_in h), List.getElem_idxOf _⟩
inductive Ends (l : List RecT) : US → List RecT → Prop
  | done {s : US} (h : s.left = []) : Ends l s s.out
  | step {s s' : US} {o : List RecT} (h : s.left ≠ []) (h1 : undoS l s = .inl s') (h2 : Ends l s' o) : Ends l s o
def GoodL (l : List RecT) (L : List OpenT) : Prop := ∀ x ∈ L, x.next = 0 ∨ ∃ r, recAt l x.next = some r ∧ r.txn = x.txn ∧ chgR r = true
theorem Ends.good {l : List RecT} {s : US} {o : List RecT} (h : Ends l s o) : GoodL l s.left := by
  induction h with
  | done h => rw [h]; intro x hx; cases hx
  | @step s s' o h h1 h2 ih =>
    intro z hz
    obtain ⟨hi, he⟩ := idx_min h
    by_cases e : z = minO s.left
    · subst e
      rcases undoS_inl h1 with ⟨h0, _⟩ | ⟨h0, r, y, hr, ht, hc, _⟩
      · exact .inl h0
      · exact .inr ⟨r, hr, ht, hc⟩
    · refine ih z ?_
      obtain ⟨j, hj, rfl⟩ := List.getElem_of_mem hz
      have hji : j ≠ s.left.idxOf (minO s.left) := fun q => e (by subst q; exact he)
      rcases undoS_inl h1 with ⟨_, h3, _⟩ | ⟨_, r, y, _, _, _, h3, _⟩
      · rw [h3, List.mem_eraseIdx_iff_getElem?]
        exact ⟨j, hji, List.getElem?_eq_getElem hj⟩
      · rw [h3]
        refine List.mem_iff_getElem?.2 ⟨j, ?_⟩
        rw [List.getElem?_set_ne hji.symm, List.getElem?_eq_getElem hj]
theorem Ends.next {l : List RecT} {s : US} {o : List RecT} (h : Ends l s o) (hne : s.left ≠ []) : s.next ≠ 0 := by
  induction h with
  | done h => exact absurd h hne
  | @step s s' o h h1 h2 ih =>
    rcases undoS_inl h1 with ⟨_, _, h3⟩ | ⟨_, r, y, _, _, _, h3, _, h4⟩
    · exact h3
    · rcases h4 with h4 | h4
      · rw [← h4]
        refine ih ?_
        rw [h3]
        simpa using h
      · exact h4
end Go.Proofs.Ytmbhgjekjpkigaa.AM

namespace Go.Proofs.Ytmbhgjekjpkigaa.AM
open Go
set_option linter.unusedVariables false
set_option linter.unusedSimpArgs false

/-- One skip of a record that undid. -/
def Skip (l : List RecT) (x y : OpenT) : Prop := x.next ≠ 0 ∧ ∃ r, recAt l x.next = some r ∧ r.txn = x.txn ∧ r.kind = 2 ∧ y = ⟨x.txn, x.last, r.next⟩
inductive Skips (l : List RecT) (c : Nat) : OpenT → OpenT → Prop
  | refl (x : OpenT) : Skips l c x x
  | step {x y z : OpenT} (h : Skip l x y) (hc : c ≤ x.next) (h2 : Skips l c y z) : Skips l c x z
theorem Skips.mono {l : List RecT} {c c' : Nat} {x y : OpenT} (h : Skips l c x y) (hc : c' ≤ c) : Skips l c' x y := by
  induction h with
  | refl x => exact .refl _
  | step h hc' _ ih => exact .step h (by omega) ih
theorem Skip.lt {l : List RecT} (hl : Lok l) {x y : OpenT} (h : Skip l x y) : y.next < x.next ∧ y.txn = x.txn ∧ y.last = x.last := by
  obtain ⟨h0, r, hr, ht, hk, rfl⟩ := h
  obtain ⟨q1, q2⟩ := recAt_mem hr
  have := hl.lt q1
  exact ⟨by show r.next < x.next; omega, rfl, rfl⟩
theorem Skips.le {l : List RecT} (hl : Lok l) {c : Nat} {x y : OpenT} (h : Skips l c x y) : y.next ≤ x.next ∧ y.txn = x.txn ∧ y.last = x.last := by
  induction h with
  | refl x => exact ⟨Nat.le_refl _, rfl, rfl⟩
  | step h hc' _ ih =>
    have := h.lt hl
    exact ⟨by omega, ih.2.1.trans this.2.1, ih.2.2.trans this.2.2⟩
theorem Skips.zero {l : List RecT} {c : Nat} {x y : OpenT} (h : Skips l c x y) (h0 : x.next = 0) : y = x := by
  cases h with
  | refl x => rfl
  | step h _ _ => exact absurd h0 h.1
theorem Skips.ne {l : List RecT} {c : Nat} {x y : OpenT} (h : Skips l c x y) (h0 : x ≠ y) : c ≤ x.next ∧ ∃ z, Skip l x z ∧ Skips l c z y := by
  cases h with
  | refl x => exact absurd rfl h0
  | step h hc h2 => exact ⟨hc, _, h, h2⟩
theorem Skip.good {l : List RecT} {x y : OpenT} (h : Skip l x y) : ∃ r, recAt l x.next = some r ∧ r.txn = x.txn ∧ chgR r = true := by
  obtain ⟨h0, r, hr, ht, hk, rfl⟩ := h
  exact ⟨r, hr, ht, by simp [chgR, hk]⟩
theorem good_dist {l : List RecT} {ts : List Nat} {b : Nat → OpenT} (hb : ∀ u ∈ ts, (b u).txn = u) (hg : ∀ u ∈ ts, (b u).next = 0 ∨ ∃ r, recAt l (b u).next = some r ∧ r.txn = (b u).txn ∧ chgR r = true) :
    ∀ u ∈ ts, ∀ v ∈ ts, (b u).next ≠ 0 → (b u).next = (b v).next → u = v := by
  intro u hu v hv h0 he
  rcases hg u hu with h | ⟨r, hr, ht, _⟩
  · exact absurd h h0
  rcases hg v hv with h | ⟨r', hr', ht', _⟩
  · exact absurd (he.trans h) h0
  rw [he, hr'] at hr
  cases hr
  rw [hb u hu] at ht
  rw [hb v hv] at ht'
  exact ht.symm.trans ht'
theorem mu_upd {ts : List Nat} {b : Nat → OpenT} {t : Nat} {y : OpenT} (hb : ∀ u ∈ ts, (b u).txn = u) (hn : ts.Nodup) (ht : t ∈ ts) (hy : y.next < (b t).next) : muO (ts.map (updB b t y)) < muO (ts.map b) := by
  obtain ⟨_, h2, h3, h4⟩ := idx_map hb hn ht y
  rw [← h2]
  have := muO_set h3 y
  rw [List.getElem?_eq_getElem h3, Option.some.injEq] at h4
  rw [h4] at this
  omega
theorem mu_del {ts : List Nat} {b : Nat → OpenT} {t : Nat} (hb : ∀ u ∈ ts, (b u).txn = u) (hn : ts.Nodup) (ht : t ∈ ts) : muO ((ts.filter fun u => decide (u ≠ t)).map b) < muO (ts.map b) := by
  obtain ⟨h1, _, h3, h4⟩ := idx_map hb hn ht (b t)
  rw [← h1]
  have := muO_erase h3
  omega
theorem updB_self {b : Nat → OpenT} {t : Nat} {y : OpenT} : updB b t y t = y := by simp [updB]
theorem updB_ne {b : Nat → OpenT} {t u : Nat} {y : OpenT} (h : u ≠ t) : updB b t y u = b u := by simp [updB, h]
theorem emitU_ok {s s' : US} {L : List OpenT} {m : RecT} (h : emitU s L m = .inl s') : s.out.length ≠ 64 ∧ s.next ≠ 0 ∧ s' = ⟨succU s.next, L, s.out ++ [m]⟩ := by
  unfold emitU at h
  split at h
  · cases h
  · rename_i hq
    simp only [Sum.inl.injEq] at h
    exact ⟨fun q => hq (.inl q), fun q => hq (.inr q), h.symm⟩
theorem emitU_mk {s : US} {L : List OpenT} {m : RecT} (h1 : s.out.length ≠ 64) (h2 : s.next ≠ 0) : emitU s L m = .inl ⟨succU s.next, L, s.out ++ [m]⟩ := by
  unfold emitU
  rw [if_neg (by omega)]; rfl

theorem resume {l more : List RecT} (hl : Lok l) (hM : ∀ n r, recAt l n = some r → recAt more n = some r) {res : List RecT} :
    ∀ (k : Nat) (ts : List Nat) (a b : Nat → OpenT) (c nx : Nat) (pre o : List RecT), muO (ts.map a) ≤ k → ts.Nodup → (∀ u ∈ ts, (a u).txn = u) → (∀ u ∈ ts, (b u).txn = u) → (∀ u ∈ ts, (b u).next < c) → (∀ u ∈ ts, Skips l c (a u) (b u)) →
      (∀ u ∈ ts, (b u).next = 0 → a u = b u) → (pre ++ o).length ≤ 64 → Ends l ⟨nx, ts.map b, pre ++ o⟩ res → ∃ res', res = pre ++ res' ∧ Ends more ⟨nx, ts.map a, o⟩ res' := by
  intro k
  induction k with
  | zero =>
    intro ts a b c nx pre o hk hn ha hb hbc hs hz ho he
    have : ts.map a = [] := Classical.byContradiction fun q => by have := muO_pos q; omega
    obtain rfl : ts = [] := by simpa using this
    cases he with
    | done h => exact ⟨o, rfl, .done rfl⟩
    | step h _ _ => exact absurd rfl h
  | succ k ih =>
    intro ts a b c nx pre o hk hn ha hb hbc hs hz ho he
    by_cases hts : ts = []
    · subst hts
      cases he with
      | done h => exact ⟨o, rfl, .done rfl⟩
      | step h _ _ => exact absurd rfl h
    have hgb : ∀ u ∈ ts, (b u).next = 0 ∨ ∃ r, recAt l (b u).next = some r ∧ r.txn = (b u).txn ∧ chgR r = true := fun u hu => he.good (b u) (List.mem_map_of_mem hu)
    have hga : ∀ u ∈ ts, (a u).next = 0 ∨ ∃ r, recAt l (a u).next = some r ∧ r.txn = (a u).txn ∧ chgR r = true := fun u hu => by
      by_cases e : a u = b u
      · rw [e]; exact hgb u hu
      · obtain ⟨_, z, h1, _⟩ := (hs u hu).ne e
        exact .inr h1.good
    obtain ⟨t, hft⟩ := fst_exists (good_dist hb hgb) hts
    have hnea : ts.map a ≠ [] := by simpa using hts
    have hneb : ts.map b ≠ [] := by simpa using hts
    -- a step of both, at the same one
    have both : Fst ts a t → a t = b t → (∀ u ∈ ts, (b u).next = 0 → u ≠ t → a u = b u) → ((b t).next ≠ 0 → ∀ u ∈ ts, a u = b u) → ∃ res', res = pre ++ res' ∧ Ends more ⟨nx, ts.map a, o⟩ res' := by
      intro hfa hat hz' hall
      cases he with
      | done h => exact absurd h hneb
      | @step _ s' _ _ h1 h2 =>
        rw [undoS_at hb hn hft] at h1
        have hA := undoS_at (l := more) (nx := nx) (o := o) ha hn hfa
        rw [hat] at hA
        by_cases h0 : (b t).next = 0
        · rw [if_pos h0] at h1 hA
          obtain ⟨e1, e2, rfl⟩ := emitU_ok h1
          have e1' : (pre ++ o).length ≠ 64 := e1
          rw [emitU_mk (s := ⟨nx, ts.map a, o⟩) (by show o.length ≠ 64; simp only [List.length_append] at ho e1'; omega) e2] at hA
          have hsub : ∀ u, u ∈ ts.filter (fun u => decide (u ≠ t)) → u ∈ ts := fun u hu => (List.mem_filter.1 hu).1
          have hm := mu_del ha hn hft.1
          obtain ⟨res', r1, r2⟩ := ih (ts.filter fun u => decide (u ≠ t)) a b c (succU nx) pre (o ++ [endRec ⟨nx, ts.map a, o⟩ (b t)]) (by omega) (hn.filter _) (fun u hu => ha u (hsub u hu)) (fun u hu => hb u (hsub u hu)) (fun u hu => hbc u (hsub u hu))
            (fun u hu => hs u (hsub u hu)) (fun u hu hq => hz' u (hsub u hu) hq (by simpa using (List.mem_filter.1 hu).2)) (by simp only [List.length_append, List.length_singleton] at ho e1' ⊢; omega)
            (by rw [← List.append_assoc]; exact h2)
          exact ⟨res', r1, .step hnea hA r2⟩
        · rw [if_neg h0] at h1 hA
          have hab := hall h0
          have hma : ts.map a = ts.map b := List.map_congr_left hab
          obtain hg | ⟨r, hr, hrt, hrc⟩ := hgb t hft.1
          · exact absurd hg h0
          obtain ⟨q1, q2⟩ := recAt_mem hr
          have hlt := hl.lt q1
          have hc := hbc t hft.1
          rw [hr] at h1
          rw [hM _ _ hr] at hA
          simp only at h1 hA
          have hcond : ¬ (r.txn ≠ t ∨ chgR r = false) := by rw [hrt, hb t hft.1, hrc]; simp
          rw [if_neg hcond] at h1 hA
          have facts : ∀ y : OpenT, y.txn = t → y.next < (b t).next → (∀ u ∈ ts, (updB a t y u).txn = u) ∧ (∀ u ∈ ts, (updB b t y u).txn = u) ∧ (∀ u ∈ ts, (updB b t y u).next < c) ∧ (∀ u ∈ ts, Skips l c (updB a t y u) (updB b t y u)) ∧ (∀ u ∈ ts, (updB b t y u).next = 0 → updB a t y u = updB b t y u) := by
            intro y hy1 hy2
            refine ⟨fun u hu => ?_, fun u hu => ?_, fun u hu => ?_, fun u hu => ?_, fun u hu _ => ?_⟩
            all_goals
              by_cases e : u = t
              · subst e
                (simp only [updB_self]) <;> first | exact hy1 | exact .refl _ | omega
              · simp only [updB_ne e]
                first | exact ha u hu | exact hb u hu | exact hbc u hu | exact hs u hu | exact hab u hu
          by_cases hk2 : r.kind = 2
          · rw [if_pos hk2] at h1 hA
            simp only [Sum.inl.injEq] at h1
            subst h1
            obtain ⟨f1, f2, f3, f4, f5⟩ := facts ⟨t, (b t).last, r.next⟩ rfl (by show r.next < _; omega)
            have hm := mu_upd (y := ⟨t, (b t).last, r.next⟩) ha hn hft.1 (by rw [hat]; show r.next < _; omega)
            obtain ⟨res', r1, r2⟩ := ih ts (updB a t ⟨t, (b t).last, r.next⟩) (updB b t ⟨t, (b t).last, r.next⟩) c nx pre o (by omega) hn f1 f2 f3 f4 f5 ho h2
            exact ⟨res', r1, .step hnea hA r2⟩
          · rw [if_neg hk2] at h1 hA
            obtain ⟨e1, e2, rfl⟩ := emitU_ok h1
            have e1' : (pre ++ o).length ≠ 64 := e1
            rw [emitU_mk (s := ⟨nx, ts.map a, o⟩) (by show o.length ≠ 64; simp only [List.length_append] at ho e1'; omega) e2] at hA
            obtain ⟨f1, f2, f3, f4, f5⟩ := facts ⟨t, nx, r.back⟩ rfl (by show r.back < _; omega)
            have hm := mu_upd (y := ⟨t, nx, r.back⟩) ha hn hft.1 (by rw [hat]; show r.back < _; omega)
            obtain ⟨res', r1, r2⟩ := ih ts (updB a t ⟨t, nx, r.back⟩) (updB b t ⟨t, nx, r.back⟩) c (succU nx) pre (o ++ [undRec ⟨nx, ts.map a, o⟩ (b t) r]) (by omega) hn f1 f2 f3 f4 f5 (by simp only [List.length_append, List.length_singleton] at ho e1' ⊢; omega)
              (by rw [← List.append_assoc]; exact h2)
            exact ⟨res', r1, .step hnea hA r2⟩
    obtain ⟨htm, hcase⟩ := hft
    rcases hcase with ⟨h0, hmin⟩ | ⟨h0, hmax⟩
    · -- one has nothing left
      have hat : a t = b t := hz t htm h0
      exact both ⟨htm, .inl ⟨by rw [hat]; exact h0, fun u hu hu0 => hmin u hu (by rw [(hs u hu).zero hu0]; exact hu0)⟩⟩ hat (fun u hu hq _ => hz u hu hq) (fun q => absurd h0 q)
    · by_cases hab : ∀ u ∈ ts, a u = b u
      · exact both ⟨htm, .inr ⟨by rw [hab t htm]; exact h0, fun u hu => by rw [hab u hu, hab t htm]; exact hmax u hu⟩⟩ (hab t htm) (fun u hu _ _ => hab u hu) (fun _ => hab)
      · -- the resuming run skips
        have hza : ∀ u ∈ ts, (a u).next ≠ 0 := fun u hu q => (hmax u hu).1 (by rw [(hs u hu).zero q]; exact q)
        obtain ⟨v, hv, hvn⟩ : ∃ v ∈ ts, a v ≠ b v := Classical.byContradiction fun q => hab fun u hu => Classical.byContradiction fun e => q ⟨u, hu, e⟩
        obtain ⟨t', hfa⟩ := fst_exists (good_dist ha hga) hts
        obtain ⟨ht', hc'⟩ := hfa
        have hmax' : ∀ u ∈ ts, (a u).next ≤ (a t').next := by
          intro u hu
          rcases hc' with ⟨q, _⟩ | ⟨_, q⟩
          · exact absurd q (hza t' ht')
          · by_cases e : u = t'
            · subst e; exact Nat.le_refl _
            · exact Nat.le_of_lt ((q u hu).2 e)
        have hcv := ((hs v hv).ne hvn).1
        have hne' : a t' ≠ b t' := fun e => by
          have h1 := hmax' v hv
          have h2 := hbc t' ht'
          rw [← e] at h2
          omega
        obtain ⟨hct, y, hsk, hsks⟩ := (hs t' ht').ne hne'
        obtain ⟨hlt, hyt, hyl⟩ := hsk.lt hl
        obtain ⟨hn0, r, hr, hrt, hrk, hy⟩ := hsk
        have hA := undoS_at (l := more) (nx := nx) (o := o) ha hn ⟨ht', hc'⟩
        rw [if_neg (hza t' ht'), hM _ _ hr] at hA
        simp only at hA
        rw [if_neg (by rw [hrt, ha t' ht']; simp [chgR, hrk]), if_pos hrk] at hA
        have hy' : y = ⟨t', (a t').last, r.next⟩ := by rw [hy, ha t' ht']
        rw [← hy'] at hA
        have hm := mu_upd (y := y) ha hn ht' hlt
        obtain ⟨res', r1, r2⟩ := ih ts (updB a t' y) b c nx pre o (by omega) hn (fun u hu => by
            by_cases e : u = t'
            · subst e; rw [updB_self, hyt]; exact ha u hu
            · rw [updB_ne e]; exact ha u hu) hb hbc (fun u hu => by
            by_cases e : u = t'
            · subst e; rw [updB_self]; exact hsks
            · rw [updB_ne e]; exact hs u hu) (fun u hu q => absurd q (hmax u hu).1) ho he
        exact ⟨res', r1, .step hnea hA r2⟩
end Go.Proofs.Ytmbhgjekjpkigaa.AM

namespace Go.Proofs.Ytmbhgjekjpkigaa.AM
open Go
set_option linter.unusedVariables false
set_option linter.unusedSimpArgs false

def openT (L : List RecT) : List Nat := (txnsL L).filter fun t => !overT L t
theorem openT_rise (L : List RecT) : (openT L).Pairwise (· < ·) := (txnsL_rise L).filter _
theorem openT_nodup (L : List RecT) : (openT L).Nodup := (openT_rise L).imp (fun h => Nat.ne_of_lt h)
theorem openOf_add (L : List RecT) (m : RecT) (t : Nat) : openOf (L ++ [m]) t = if m.txn = t then ⟨t, m.lsn, nextOf m⟩ else openOf L t := by
  unfold openOf; rw [List.foldl_append]; rfl
theorem overT_add (L : List RecT) (m : RecT) (t : Nat) : overT (L ++ [m]) t = (overT L t || decide (m.txn = t) && !chgR m) := by
  unfold overT; rw [List.any_append]; simp
theorem lastLsn_add (L : List RecT) (m : RecT) : lastLsn (L ++ [m]) = m.lsn := by simp [lastLsn]
theorem openOf_inv (t : Nat) (Q : OpenT → Prop) : ∀ (L : List RecT) (a : OpenT), Q a → (∀ r ∈ L, r.txn = t → Q ⟨t, r.lsn, nextOf r⟩) → Q (L.foldl (fun a r => if r.txn = t then ⟨t, r.lsn, nextOf r⟩ else a) a)
  | [], a, h, _ => h
  | r :: L, a, h, hq => by
    rw [List.foldl_cons]
    refine openOf_inv t Q L _ ?_ (fun q hq' => hq q (.tail _ hq'))
    split
    · rename_i e; exact hq r (.head _) e
    · exact h
theorem openOf_le {L : List RecT} (hl : Lok L) (t : Nat) : (openOf L t).next ≤ (openOf L t).last := by
  refine openOf_inv t (fun x => x.next ≤ x.last) L ⟨t, 0, 0⟩ (Nat.le_refl _) (fun r hr _ => ?_)
  have := hl.lt hr
  show nextOf r ≤ r.lsn
  unfold nextOf
  split <;> omega
theorem openOf_last (L : List RecT) (t : Nat) : (openOf L t).last = lastOf L t := by
  unfold openOf lastOf
  have key : ∀ (L : List RecT) (a : OpenT) (n : Nat), a.last = n → (L.foldl (fun a r => if r.txn = t then (⟨t, r.lsn, nextOf r⟩ : OpenT) else a) a).last = L.foldl (fun a r => if r.txn = t then r.lsn else a) n := by
    intro L
    induction L with
    | nil => intro a n h; exact h
    | cons r L ih =>
      intro a n h
      rw [List.foldl_cons, List.foldl_cons]
      refine ih _ _ ?_
      split
      · rfl
      · exact h
  exact key L _ _ rfl
theorem mem_openT {L : List RecT} {t : Nat} : t ∈ openT L ↔ (∃ r ∈ L, r.txn = t) ∧ overT L t = false := by
  unfold openT
  rw [List.mem_filter, mem_txnsL]
  simp
theorem txnsL_add {L : List RecT} {m : RecT} (h : ∃ r ∈ L, r.txn = m.txn) : txnsL (L ++ [m]) = txnsL L := by
  refine rise_ext (txnsL_rise _) (txnsL_rise _) (fun x => ?_)
  rw [mem_txnsL, mem_txnsL]
  constructor
  · rintro ⟨r, hr, rfl⟩
    rcases List.mem_append.1 hr with h1 | h1
    · exact ⟨r, h1, rfl⟩
    · obtain rfl := List.mem_singleton.1 h1
      exact h
  · rintro ⟨r, hr, rfl⟩
    exact ⟨r, List.mem_append.2 (.inl hr), rfl⟩
theorem openT_end {L : List RecT} {m : RecT} (h : m.txn ∈ openT L) (hc : chgR m = false) : openT (L ++ [m]) = (openT L).filter fun u => decide (u ≠ m.txn) := by
  unfold openT
  rw [txnsL_add (mem_openT.1 h).1, List.filter_filter]
  congr 1
  funext t
  rw [overT_add, hc]
  by_cases e : m.txn = t
  · subst e; simp
  · have : ¬ t = m.txn := fun q => e q.symm
    simp [e, this]

/-! ### rows in order -/
theorem rowOk_Lok {L : List RecT} (h : rowOk L = true) : Lok L := by
  intro r hr
  obtain ⟨i, hi, rfl⟩ := List.getElem_of_mem hr
  have := rowOk_iff.1 h i hi
  rw [okAt_eq hi] at this
  simp only [okB, Bool.and_eq_true] at this
  exact this.1.1
theorem rowOk_lsn {L : List RecT} (h : rowOk L = true) : ∀ (i : Nat) (hi : i < L.length), L[i].lsn = L[0].lsn + i
  | 0, hi => rfl
  | i + 1, hi => by
    have h1 := rowOk_iff.1 h (i + 1) hi
    rw [okAt_eq hi] at h1
    simp only [okB, Bool.and_eq_true] at h1
    have h2 := h1.1.2
    simp [List.getElem?_eq_getElem (show i < L.length by omega)] at h2
    rw [h2, rowOk_lsn h i (by omega)]; omega
theorem rowOk_last {L : List RecT} (h : rowOk L = true) {r : RecT} (hr : r ∈ L) : r.lsn ≤ lastLsn L := by
  obtain ⟨i, hi, rfl⟩ := List.getElem_of_mem hr
  rw [lastLsn_get (by omega), rowOk_lsn h i hi, rowOk_lsn h (L.length - 1) (by omega)]
  omega
theorem lastOf_mem {t : Nat} : ∀ (L : List RecT) (n : Nat), ((∃ r ∈ L, r.txn = t) → ∃ r ∈ L, r.txn = t ∧ r.lsn = L.foldl (fun a r => if r.txn = t then r.lsn else a) n) ∧ ((∀ r ∈ L, r.txn ≠ t) → L.foldl (fun a r => if r.txn = t then r.lsn else a) n = n)
  | [], n => ⟨(fun ⟨r, hr, _⟩ => by cases hr), fun _ => rfl⟩
  | q :: L, n => by
    rw [List.foldl_cons]
    obtain ⟨i1, i2⟩ := lastOf_mem (t := t) L (if q.txn = t then q.lsn else n)
    refine ⟨fun ⟨r, hr, ht⟩ => ?_, fun h => ?_⟩
    · by_cases hL : ∃ r ∈ L, r.txn = t
      · obtain ⟨r', a1, a2, a3⟩ := i1 hL
        exact ⟨r', .tail _ a1, a2, a3⟩
      · have hL' : ∀ r ∈ L, r.txn ≠ t := fun r hr e => hL ⟨r, hr, e⟩
        rw [i2 hL']
        rcases List.mem_cons.1 hr with h | h
        · subst h
          exact ⟨r, .head _, ht, by rw [if_pos ht]⟩
        · exact absurd ht (hL' r h)
    · rw [i2 (fun r hr => h r (.tail _ hr)), if_neg (h q (.head _))]
theorem lastOf_in {L : List RecT} {t : Nat} (h : ∃ r ∈ L, r.txn = t) : ∃ r ∈ L, r.txn = t ∧ r.lsn = lastOf L t := (lastOf_mem L 0).1 h
theorem rowOk_snoc {L : List RecT} {m : RecT} (h : rowOk L = true) (hne : L ≠ []) (hm : recOk m = true) (h1 : m.lsn = lastLsn L + 1) (h2 : lastOf L m.txn = m.back) : rowOk (L ++ [m]) = true := by
  rw [rowOk_iff]
  intro i hi
  have hp : 0 < L.length := List.length_pos_iff.2 hne
  have hh : headLsn (L ++ [m]) = headLsn L := by
    cases L with
    | nil => exact absurd rfl hne
    | cons a L => rfl
  rw [okAt_eq hi]
  by_cases e : i < L.length
  · have := rowOk_iff.1 h i e
    rw [okAt_eq e] at this
    unfold okB at this ⊢
    rw [List.getElem_append_left e, hh, List.take_append_of_le_length (by omega)]
    by_cases h0 : i = 0
    · subst h0; exact this
    · rw [List.getElem?_append_left (by omega)]; exact this
  · have hi' : i = L.length := by simp at hi; omega
    subst hi'
    unfold okB
    rw [List.getElem_append_right (Nat.le_refl _)]
    simp only [Nat.sub_self, List.getElem_cons_zero, hm, Bool.true_and]
    rw [List.take_append_of_le_length (Nat.le_refl _), List.take_length, h2, List.getElem?_append_left (by omega), List.getElem?_eq_getElem (by omega)]
    rw [lastLsn_get hp] at h1
    simp [h1]
end Go.Proofs.Ytmbhgjekjpkigaa.AM

namespace Go.Proofs.Ytmbhgjekjpkigaa.AM
open Go
set_option linter.unusedVariables false
set_option linter.unusedSimpArgs false

structure UInv (l : List RecT) (s : US) (b : Nat → OpenT) (c : Nat) : Prop where
  left : s.left = (openT (l ++ s.out)).map b
  txn : ∀ u ∈ openT (l ++ s.out), (b u).txn = u
  lt : ∀ u ∈ openT (l ++ s.out), (b u).next < c
  sk : ∀ u ∈ openT (l ++ s.out), Skips l c (openOf (l ++ s.out) u) (b u)
  row : rowOk (l ++ s.out) = true
  nx : s.next = succU (lastLsn (l ++ s.out))
  lsn : ∀ m ∈ s.out, lastLsn l < m.lsn
  up : lastLsn l ≤ lastLsn (l ++ s.out)
  w : lastLsn (l ++ s.out) < 2 ^ 64
  len : s.out.length ≤ 64
  pg : ∀ m ∈ s.out, chgR m = true → m.page ∈ chgPages l
  tx : ∀ m ∈ s.out, ∃ r ∈ l, r.txn = m.txn
def ZCut (l : List RecT) (s : US) (b : Nat → OpenT) : Prop := ∀ u ∈ openT (l ++ s.out), (b u).next = 0 → openOf (l ++ s.out) u = b u
def ZMid (l : List RecT) (s : US) (b : Nat → OpenT) : Prop := ZCut l s b ∨ ∃ i ∈ openT (l ++ s.out), (b i).next = 0 ∧ ∀ u ∈ openT (l ++ s.out), u ≠ i → (b u).next ≠ 0
theorem UInv.tx' {l : List RecT} {s : US} {b : Nat → OpenT} {c t : Nat} (h : UInv l s b c) (ht : t ∈ openT (l ++ s.out)) : ∃ r ∈ l, r.txn = t := by
  obtain ⟨⟨r, hr, rfl⟩, _⟩ := mem_openT.1 ht
  rcases List.mem_append.1 hr with h1 | h1
  · exact ⟨r, h1, rfl⟩
  · exact h.tx r h1
theorem succU_ne {n : Nat} (h : succU n ≠ 0) : succU n = n + 1 := by
  unfold succU at h ⊢
  split
  · rename_i e; rw [if_pos e] at h; exact absurd rfl h
  · rfl
theorem succU_lt {n : Nat} (h : n < 2 ^ 64) : succU n < 2 ^ 64 := by
  unfold succU
  split <;> omega
/-- What an emission needs. -/
theorem UInv.base {l : List RecT} {s : US} {b : Nat → OpenT} {c t : Nat} (h : UInv l s b c) (hl : Lok l) (ht : t ∈ openT (l ++ s.out)) (h0 : s.next ≠ 0) :
    l ++ s.out ≠ [] ∧ s.next = lastLsn (l ++ s.out) + 1 ∧ 0 < t ∧ (b t).last = lastOf (l ++ s.out) t ∧ (b t).last ≤ lastLsn (l ++ s.out) ∧ (b t).next ≤ (b t).last := by
  obtain ⟨⟨r, hr, hrt⟩, _⟩ := mem_openT.1 ht
  have hsk := (h.sk t ht).le hl
  have hok := rowOk_Lok h.row
  have hop := openOf_le hok t
  rw [openOf_last] at hsk hop
  obtain ⟨q, hq, hqt, hql⟩ := lastOf_in ⟨r, hr, hrt⟩
  have h1 := rowOk_last h.row hq
  have h2 := hok r hr
  simp only [recOk, decide_eq_true_eq] at h2
  refine ⟨(fun e => by rw [e] at hr; cases hr), ?_, by omega, hsk.2.2, by omega, by omega⟩
  have := h.nx
  rw [this] at h0
  rw [this, succU_ne h0]
theorem UInv.fin {l : List RecT} {s : US} {b : Nat → OpenT} {c t : Nat} (h : UInv l s b c) (hl : Lok l) (hf : Fst (openT (l ++ s.out)) b t) (hb0 : (b t).next = 0) (hz : ZMid l s b) (h0 : s.next ≠ 0) (h64 : s.out.length ≠ 64) :
    UInv l ⟨succU s.next, ((openT (l ++ s.out)).filter fun u => decide (u ≠ t)).map b, s.out ++ [endRec s (b t)]⟩ b c ∧ ZCut l ⟨succU s.next, ((openT (l ++ s.out)).filter fun u => decide (u ≠ t)).map b, s.out ++ [endRec s (b t)]⟩ b := by
  obtain ⟨e1, e2, e3, e4, e5, e6⟩ := h.base hl hf.1 h0
  have hbt := h.txn t hf.1
  have hmt : (endRec s (b t)).txn = t := hbt
  have hrow : rowOk (l ++ (s.out ++ [endRec s (b t)])) = true := by
    rw [← List.append_assoc]
    refine rowOk_snoc h.row e1 ?_ e2 ?_
    · simp only [recOk, decide_eq_true_eq, endRec, hbt]
      simp
      omega
    · rw [hmt, ← e4]; rfl
  have hT : openT (l ++ (s.out ++ [endRec s (b t)])) = (openT (l ++ s.out)).filter fun u => decide (u ≠ t) := by
    rw [← List.append_assoc, openT_end (by rw [hmt]; exact hf.1) (by simp [endRec, chgR]), hmt]
  have hO : ∀ u ∈ openT (l ++ (s.out ++ [endRec s (b t)])), u ∈ openT (l ++ s.out) ∧ u ≠ t ∧ openOf (l ++ (s.out ++ [endRec s (b t)])) u = openOf (l ++ s.out) u := by
    intro u hu
    rw [hT] at hu
    obtain ⟨h1, h2⟩ := List.mem_filter.1 hu
    have h2 : u ≠ t := by simpa using h2
    exact ⟨h1, h2, by rw [← List.append_assoc, openOf_add, if_neg (by rw [hmt]; exact fun q => h2 q.symm)]⟩
  have hlast : lastLsn (l ++ (s.out ++ [endRec s (b t)])) = s.next := by rw [← List.append_assoc, lastLsn_add]; rfl
  refine ⟨⟨by rw [hT], fun u hu => h.txn u (hO u hu).1, fun u hu => h.lt u (hO u hu).1, fun u hu => by rw [(hO u hu).2.2]; exact h.sk u (hO u hu).1, hrow, by rw [hlast], ?_, ?_, by rw [hlast, h.nx]; exact succU_lt h.w, ?_, ?_, ?_⟩, ?_⟩
  · intro m hm
    rcases List.mem_append.1 hm with h1 | h1
    · exact h.lsn m h1
    · obtain rfl := List.mem_singleton.1 h1
      have := h.up
      show lastLsn l < s.next
      omega
  · have := h.up
    rw [hlast]; omega
  · have := h.len
    simp only [List.length_append, List.length_singleton]; omega
  · intro m hm hc
    rcases List.mem_append.1 hm with h1 | h1
    · exact h.pg m h1 hc
    · obtain rfl := List.mem_singleton.1 h1
      simp [endRec, chgR] at hc
  · intro m hm
    rcases List.mem_append.1 hm with h1 | h1
    · exact h.tx m h1
    · obtain rfl := List.mem_singleton.1 h1
      rw [hmt]; exact h.tx' hf.1
  · intro u hu hq
    obtain ⟨a1, a2, a3⟩ := hO u hu
    rw [a3]
    rcases hz with hz | ⟨i, hi, hi0, hio⟩
    · exact hz u a1 hq
    · have : i = t := Classical.byContradiction fun q => hio t hf.1 (fun w => q w.symm) hb0
      subst this
      exact absurd hq (hio u a1 a2)
def CutOK (l made : List RecT) (n : Nat) : Prop :=
  rowOk (l ++ made.take n) = true ∧ Ends (l ++ made.take n) ⟨succU (lastLsn (l ++ made.take n)), openL (l ++ made.take n), []⟩ (made.drop n) ∧ lastLsn l ≤ lastLsn (l ++ made.take n) ∧ lastLsn (l ++ made.take n) < 2 ^ 64
theorem recAt_keep {l out : List RecT} (hl : rowOk l = true) (h : ∀ m ∈ out, lastLsn l < m.lsn) {n : Nat} {r : RecT} (hr : recAt l n = some r) : recAt (l ++ out) n = some r := by
  unfold recAt at hr ⊢
  rw [List.foldl_append, hr]
  obtain ⟨h1, h2⟩ := recAt_mem (l := l) hr
  have h3 := rowOk_last hl h1
  have key : ∀ (o : List RecT) (a : Option RecT), (∀ m ∈ o, lastLsn l < m.lsn) → a = some r → o.foldl (fun a r => if r.lsn = n then some r else a) a = some r := by
    intro o
    induction o with
    | nil => intro a _ h; exact h
    | cons m o ih =>
      intro a hm ha
      rw [List.foldl_cons]
      have := hm m (.head _)
      exact ih _ (fun q hq => hm q (.tail _ hq)) (by rw [if_neg (by omega)]; exact ha)
  exact key out _ h rfl
theorem UInv.cut {l : List RecT} {s : US} {b : Nat → OpenT} {c : Nat} (h : UInv l s b c) (hl : rowOk l = true) (hz : ZCut l s b) {made : List RecT} (he : Ends l s made) : made.take s.out.length = s.out ∧ CutOK l made s.out.length := by
  obtain ⟨nx, left, out⟩ := s
  obtain ⟨res', h1, h2⟩ := resume (rowOk_Lok hl) (more := l ++ out) (fun n r hr => recAt_keep hl h.lsn hr) (muO ((openT (l ++ out)).map (openOf (l ++ out)))) (openT (l ++ out)) (openOf (l ++ out)) b c nx out [] (Nat.le_refl _) (openT_nodup _)
    (fun u _ => openOf_txn _ u) h.txn h.lt h.sk hz (by simpa using h.len) (by have := h.left; simp only at this; rw [← this, List.append_nil]; exact he)
  have ht : made.take out.length = out := by rw [h1, List.take_left]
  have hd : made.drop out.length = res' := by rw [h1, List.drop_left]
  refine ⟨ht, ?_⟩
  show CutOK l made out.length
  unfold CutOK
  rw [ht, hd]
  refine ⟨h.row, ?_, h.up, h.w⟩
  have := h.nx
  simp only at this
  rw [← this]
  exact h2
end Go.Proofs.Ytmbhgjekjpkigaa.AM

namespace Go.Proofs.Ytmbhgjekjpkigaa.AM
open Go
set_option linter.unusedVariables false
set_option linter.unusedSimpArgs false

theorem rowErr_zero {l : List RecT} : rowErr l = 0 ↔ l.length ≤ 64 ∧ rowOk l = true := by
  unfold rowErr
  split
  · constructor
    · intro h; cases h
    · intro h; omega
  · split
    · rename_i h1 h2; simp [h2]; omega
    · rename_i h1 h2; simp [h2]
theorem Ends.nil {l : List RecT} {nx : Nat} {o res : List RecT} (h : Ends l ⟨nx, [], o⟩ res) : res = o := by
  cases h with
  | done h => rfl
  | step h _ _ => exact absurd rfl h
end Go.Proofs.Ytmbhgjekjpkigaa.AM

namespace Go.Proofs.Ytmbhgjekjpkigaa.AM
open Go
set_option linter.unusedVariables false
set_option linter.unusedSimpArgs false
variable {P : Program}

structure CutR (P : Program) : Prop extends PgsR P where

theorem u64_wrap (x : Int) : IntKind.u64.wrap x = x % 18446744073709551616 := by
  simp [IntKind.wrap, IntKind.bits, IntKind.signed]
theorem cut_nat (x : Int) (m : Nat) : ∃ n : Nat, n ≤ m ∧ (IntKind.u64.wrap x).tmod ((m : Int) + 1) = (n : Int) := by
  rw [u64_wrap]
  obtain ⟨y, hy⟩ : ∃ y : Nat, x % 18446744073709551616 = (y : Int) := ⟨(x % 18446744073709551616).toNat, by omega⟩
  rw [hy]
  refine ⟨y % (m + 1), by have := Nat.mod_lt y (show 0 < m + 1 by omega); omega, ?_⟩
  rw [Int.tmod_eq_emod_of_nonneg (by omega)]
  first | exact (Int.natCast_emod y (m + 1)).symm | exact (Int.ofNat_emod y (m + 1)).symm | (push_cast; rfl)
end Go.Proofs.Ytmbhgjekjpkigaa.AM

namespace Go.Proofs.Ytmbhgjekjpkigaa.AM
open Go
set_option linter.unusedVariables false
set_option linter.unusedSimpArgs false
variable {P : Program}

theorem CloneP_O (h : AgnR P) (l : List PageT) (hl : l.length < 2 ^ 40) {vp nv : Nat} {K : V → St → Prop}
    (hk : ∀ ver nv', K (.msl 1 ver 0 l.length) ⟨[some (vp, .mem 6 (l.map cPage)), some (ver, .mem 6 (l.map cPage))], nv'⟩) :
    ACalls P n_slices_Clone_Page_Page [.msl 0 vp 0 l.length] ⟨[some (vp, .mem 6 (l.map cPage))], nv⟩ K := by
  refine A_slices_Clone_Page_Page h.cloneP ?_
  unfold F_slices_Clone_Page_Page
  cases l with
  | nil =>
    simp
    exact ⟨GhostV.refl (by simpa using hk (nv + 1) (nv + 2)), GhostV.nilr 6 (by decide) (by simpa using hk nv (nv + 1))⟩
  | cons x l =>
    simp
    refine ⟨by simp at hl; omega, ?_⟩
    exact GhostV.refl (by simpa using hk (nv + 1) (nv + 2))
def AoI (vp : Nat) (ps : List PageT) (va : Nat) (k : Nat) (v : V) (st : St) : Prop :=
  ∃ (i nv : Nat), k = ps.length - i ∧ i ≤ ps.length ∧ v = .int .i64 ((i : Nat) : Int) ∧ st = ⟨[oPg vp ps, oPg va ps], nv⟩
def AoJ (vp : Nat) (ps : List PageT) (va vq : Nat) (p : PageT) (k : Nat) (v : V) (st : St) : Prop :=
  ∃ (j nv : Nat), k = 4 - j ∧ j ≤ 4 ∧ v = .int .i64 ((j : Nat) : Int) ∧ st = ⟨[oPg vp ps, oPg va ps, some (vq, .mem 6 [cPage p])], nv⟩
def AoK (vp : Nat) (ps : List PageT) (l : List RecT) (va : Nat) (k : Nat) (v : V) (st : St) : Prop :=
  ∃ (i nv : Nat), k = l.length - i ∧ i ≤ l.length ∧ v = .int .i64 ((i : Nat) : Int) ∧ st = ⟨[oPg vp ps, oPg va (againP ps (l.take i))], nv⟩
set_option maxHeartbeats 8000000 in
theorem Again_O (h : AgnR P) (ps : List PageT) (l : List RecT) (hp : ps.length < 2 ^ 40) (hl : l.length < 2 ^ 40) (hr : Rise ps) (hok : ∀ p ∈ ps, pageOk p = true) (hag : ∀ r ∈ l, agRec r)
    {vp nv : Nat} {K : V → St → Prop} (hk : ∀ nv, K (.sl .unk 6 ((againP ps l).map cPage) []) ⟨[oPg vp ps], nv⟩) :
    ACalls P n_redo_again [.msl 0 vp 0 ps.length, .sl .unk 9 (l.map cRec) []] ⟨[oPg vp ps], nv⟩ K := by
  refine A_redo_again h.again ?_
  unfold F_redo_again
  simp
  refine inv_f0 (CloneP_O h ps hp (fun va nv0 => ?_))
  simp
  refine ⟨AoI vp ps va, ⟨ps.length, GhostV.refl ⟨0, _, by simp, by simp, by simp, rfl⟩⟩, ?_⟩
  rintro k1 v18 st ⟨i, nv, rfl, hi, rfl, rfl⟩
  by_cases hlt : i < ps.length
  · have hg : (ps.map cPage)[i]? = some (cPage ps[i]) := by simp [hlt]
    have hset : (ps.map cPage).set i (cPage ps[i]) = ps.map cPage := by
      apply List.ext_getElem?
      intro j
      by_cases e : i = j
      · subst e; rw [List.getElem?_set_self (by simpa using hlt), hg]
      · rw [List.getElem?_set_ne e]
    have hset' : (ps.map cPage).set i [V.int .i64 ps[i].num, V.int .u64 ((ps[i].lsn : Nat) : Int), V.sl .unk 1 (ps[i].s0.map c8) [], V.sl .unk 1 (ps[i].s1.map c8) [], V.sl .unk 1 (ps[i].s2.map c8) [], V.sl .unk 1 (ps[i].s3.map c8) []] = ps.map cPage := hset
    have hps := pageOk.short (hok ps[i] (List.getElem_mem hlt))
    simp [hlt]
    refine ⟨AoJ vp ps va nv ps[i], ⟨4, GhostV.refl ⟨0, _, by simp, by simp, by simp, rfl⟩⟩, ?_⟩
    rintro k2 v25 st ⟨j, nv2, rfl, hj, rfl, rfl⟩
    have step : ∀ {nv'} j, j < 4 → GhostV [.int .i64 (IntKind.i64.wrap ((j : Nat) + 1))] ⟨[oPg vp ps, oPg va ps, some (nv, .mem 6 [cPage ps[i]])], nv'⟩ (app (n := 1) (AoJ vp ps va nv ps[i] (4 - (j + 1)))) := fun {nv'} j hj => GhostV.refl ⟨j + 1, _, rfl, by omega, by rw [wadd1 (by omega)], rfl⟩
    rcases (by omega : j = 0 ∨ j = 1 ∨ j = 2 ∨ j = 3 ∨ j = 4) with rfl | rfl | rfl | rfl | rfl
    · simp [hlt]
      refine inv_p (SClone h.toPagR ps[i].s0 hps.1) rfl (by simp [pureL, V.pure]) ?_
      rintro _ rfl
      simp [vB, offV, hlt]
      rw [hset']
      exact ⟨3, by omega, by simpa using step 0 (by omega)⟩
    · simp [hlt]
      refine inv_p (SClone h.toPagR ps[i].s1 hps.2.1) rfl (by simp [pureL, V.pure]) ?_
      rintro _ rfl
      simp [vB, offV, hlt]
      rw [hset']
      exact ⟨2, by omega, by simpa using step 1 (by omega)⟩
    · simp [hlt]
      refine inv_p (SClone h.toPagR ps[i].s2 hps.2.2.1) rfl (by simp [pureL, V.pure]) ?_
      rintro _ rfl
      simp [vB, offV, hlt]
      rw [hset']
      exact ⟨1, by omega, by simpa using step 2 (by omega)⟩
    · simp [hlt]
      refine inv_p (SClone h.toPagR ps[i].s3 hps.2.2.2) rfl (by simp [pureL, V.pure]) ?_
      rintro _ rfl
      simp [vB, offV, hlt]
      rw [hset']
      simpa using step 3 (by omega)
    · simp
      exact ⟨ps.length - (i + 1), by omega, GhostV.keep (L := [_, _]) ⟨i + 1, _, rfl, by omega, by rw [wadd1 (by omega)], rfl⟩⟩
  simp [hlt]
  refine ⟨AoK vp ps l va, ⟨l.length, GhostV.refl ⟨0, _, by simp, by simp, by simp, rfl⟩⟩, ?_⟩
  rintro k3 v41 st ⟨i, nv, rfl, hi, rfl, rfl⟩
  obtain ⟨hr2, hok2, hlen2⟩ := againP_inv (l := l.take i) hr hok (fun r hr => hag r (List.mem_of_mem_take hr))
  obtain ⟨cur, hcur⟩ : ∃ cur, cur = againP ps (l.take i) := ⟨_, rfl⟩
  rw [← hcur] at hr2 hok2 hlen2 ⊢
  rw [← hlen2]
  by_cases hlt : i < l.length
  · have hsn := againP_snoc (ps := ps) hlt
    rw [← hcur] at hsn
    have hri := hag l[i] (List.getElem_mem hlt)
    have nx : ∀ {M : List (Option (Nat × Obj))} {nv' : Nat}, ∃ j, j < l.length - i ∧ GhostV [.int .i64 (IntKind.i64.wrap ((i : Int) + 1))] ⟨[oPg vp ps, oPg va (redo1 cur l[i])] ++ M, nv'⟩ (app (n := 1) (AoK vp ps l va j)) := fun {M nv'} =>
      ⟨l.length - (i + 1), by omega, GhostV.keep ⟨i + 1, _, rfl, by omega, by rw [wadd1 (by omega)], by rw [hsn]⟩⟩
    simp [hlt]
    refine inv_look (bsG h cur l[i].page (by omega)) (Bors.cons (Bor.rowG (sz := 6) (l := cur) (c := cPage) (rows := cur.map cPage) (fun _ => rfl) (by simp [St.get]) (List.take_of_length_le (by simp)) (by simp)) Bors.refl) (by simp [pureL, V.pure, pureLL]) ?_
    rintro _ ⟨q, hq, rfl⟩
    refine ⟨rfl, ?_⟩
    have hfd := hq.found hr2
    cases hf : fndG cur q l[i].page
    · have hno : ¬ ∃ p ∈ cur, p.num = l[i].page := fun e => by rw [hfd.2 e] at hf; cases hf
      rw [redo1_none hno] at nx
      simp
      exact nx
    have hql : q < cur.length := by
      unfold fndG at hf
      split at hf
      · rename_i y hy; exact (List.getElem?_eq_some_iff.1 hy).1
      · cases hf
    have hqn : (cur[q]).num = l[i].page := by simpa [fndG, hql] using hf
    simp
    refine inv_p (Chg_R h.toTogR l[i]) rfl (by simp [pureL, V.pure, pureLL]) ?_
    rintro _ rfl
    cases hc : chgR l[i]
    · have hno : redo1 cur l[i] = cur := by simp [redo1, hc]
      rw [hno] at nx
      simp
      exact nx
    have hrs := redo1_set hr2 hc hql hqn
    obtain ⟨hs0, hs4, hnl⟩ := hri hc
    simp [hql]
    by_cases hls : cur[q].lsn < l[i].lsn
    · rw [if_pos hls] at hrs
      simp [hls, hql]
      refine inv_p (Set_P h.toPagR cur[q] l[i].slot l[i].new l[i].lsn) rfl (by simp [pureL, V.pure, pureLL]) ?_
      rintro _ rfl
      have hset : setR cur[q] l[i].slot l[i].new l[i].lsn = .tup [.agg (cPage (setP cur[q] l[i])), .int .i64 0] := by
        simp [setR, hok2 _ (List.getElem_mem hql), hs0, hs4, hnl, setP]
      rw [hset]
      simp [hql]
      have e2 : (cur.map cPage).set q (cPage (setP cur[q] l[i])) = (cur.set q (setP cur[q] l[i])).map cPage := List.map_set.symm
      have e3 : oPg va (cur.set q (setP cur[q] l[i])) = some (va, .mem 6 ((cur.map cPage).set q (cPage (setP cur[q] l[i])))) := by rw [oPg, e2]
      rw [hrs, e3] at nx
      exact nx
    · rw [if_neg hls] at hrs
      rw [hrs] at nx
      simp [hls]
      exact nx
  · simp [hlt]
    have e : cur = againP ps l := by rw [hcur, List.take_of_length_le (by omega)]
    refine GhostV.rowk (L := [oPg vp ps]) (id := 1) (sz := 6) (es := cur.map cPage) (by simp) (by simp) (by simp) ?_
    rw [List.drop_zero, take_map_len, e]
    exact hk _
end Go.Proofs.Ytmbhgjekjpkigaa.AM

namespace Go.Proofs.Ytmbhgjekjpkigaa.AM
open Go
set_option linter.unusedVariables false
set_option linter.unusedSimpArgs false
variable {P : Program}

theorem Redo_O (h : AllR P) (ps : List PageT) (l : List RecT) (hp : ps.length < 2 ^ 40) (hl : l.length < 2 ^ 40) (hw : rowW l) {vp nv : Nat} {K : V → St → Prop} (hk : ∀ nv, K (redoR ps l) ⟨[oPg vp ps], nv⟩) :
    ACalls P n_redo_Redo [.msl 0 vp 0 ps.length, .sl .unk 9 (l.map cRec) []] ⟨[oPg vp ps], nv⟩ K := by
  refine A_redo_Redo h.redo ?_
  unfold F_redo_Redo
  simp
  refine inv_look (Check12 h.toTogR ps l hp hl hw) (Bors.cons (a := .msl 0 vp 0 ps.length) (Bor.rowG (sz := 6) (l := ps) (c := cPage) (rows := ps.map cPage) (fun _ => rfl) (by simp [St.get]) (List.take_of_length_le (by simp)) (by simp)) Bors.refl) (by simp [pureL, V.pure, pureLL]) ?_
  rintro _ rfl
  refine ⟨rfl, ?_⟩
  by_cases hc : checkR ps l = 0
  case neg =>
    simp [hc]
    refine GhostV.le (LeVs.cons (.nil _ 6) (LeVs.refl _)) ?_
    have := hk nv
    unfold redoR at this
    rw [if_neg hc] at this
    exact this
  obtain ⟨h1, h2⟩ := checkR_zero hc
  obtain ⟨q1, q2, q3⟩ := togP_pages h2
  simp [hc]
  refine inv_f0 (Again_O h.toAgnR ps l hp hl q2 q3 (fun r hr => recOk_ag (rowErr_ok h1 r hr)) (fun nv => ?_))
  refine GhostV.refl ?_
  have := hk nv
  unfold redoR at this
  rw [if_pos hc] at this
  exact this

/-! ### plain -/
def step1 (p : PageT) (r : RecT) : PageT := if chgR r = true ∧ p.num = r.page ∧ p.lsn < r.lsn then setP p r else p
def again1 (p : PageT) (l : List RecT) : PageT := l.foldl step1 p
theorem redo1_map (ps : List PageT) (r : RecT) : redo1 ps r = ps.map fun p => step1 p r := by
  unfold redo1 step1
  cases chgR r
  · simp
  · simp
theorem againP_map (ps : List PageT) (l : List RecT) : againP ps l = ps.map fun p => again1 p l := by
  unfold againP again1
  induction l generalizing ps with
  | nil => simp
  | cons r l ih => rw [List.foldl_cons, ih, redo1_map, List.map_map]; rfl
theorem setP_nl (p : PageT) (r : RecT) : (setP p r).num = p.num ∧ (setP p r).lsn = r.lsn := ⟨setP_num p r, rfl⟩
theorem step1_num (p : PageT) (r : RecT) : (step1 p r).num = p.num := by
  unfold step1
  split
  · exact (setP_nl p r).1
  · rfl
theorem step1_lsn (p : PageT) (r : RecT) : p.lsn ≤ (step1 p r).lsn ∧ ((step1 p r).lsn = p.lsn ∨ (step1 p r).lsn = r.lsn) ∧ (chgR r = true → p.num = r.page → r.lsn ≤ (step1 p r).lsn) := by
  unfold step1
  split
  · rename_i h
    rw [(setP_nl p r).2]
    exact ⟨by omega, .inr rfl, fun _ _ => Nat.le_refl _⟩
  · rename_i h
    exact ⟨Nat.le_refl _, .inl rfl, fun h1 h2 => Classical.byContradiction fun q => h ⟨h1, h2, by omega⟩⟩
theorem again1_num : ∀ (l : List RecT) (p : PageT), (again1 p l).num = p.num
  | [], p => rfl
  | r :: l, p => by
    show (again1 (step1 p r) l).num = _
    rw [again1_num l, step1_num]
theorem again1_lsn : ∀ (l : List RecT) (p : PageT), p.lsn ≤ (again1 p l).lsn ∧ ((again1 p l).lsn = p.lsn ∨ ∃ r ∈ l, (again1 p l).lsn = r.lsn) ∧ ∀ r ∈ l, chgR r = true → p.num = r.page → r.lsn ≤ (again1 p l).lsn
  | [], p => ⟨Nat.le_refl _, .inl rfl, fun r hr => by cases hr⟩
  | r :: l, p => by
    show p.lsn ≤ (again1 (step1 p r) l).lsn ∧ ((again1 (step1 p r) l).lsn = p.lsn ∨ ∃ q ∈ r :: l, (again1 (step1 p r) l).lsn = q.lsn) ∧ ∀ q ∈ r :: l, chgR q = true → p.num = q.page → q.lsn ≤ (again1 (step1 p r) l).lsn
    obtain ⟨i1, i2, i3⟩ := again1_lsn l (step1 p r)
    obtain ⟨s1, s2, s3⟩ := step1_lsn p r
    refine ⟨by omega, ?_, fun q hq hc hn => ?_⟩
    · rcases i2 with e | ⟨q, hq, e⟩
      · rw [e]
        rcases s2 with e | e
        · exact .inl e
        · exact .inr ⟨r, .head _, e⟩
      · exact .inr ⟨q, .tail _ hq, e⟩
    · rcases List.mem_cons.1 hq with h | h
      · subst h
        have := s3 hc hn
        omega
      · exact i3 q h hc (by rw [step1_num]; exact hn)
theorem again1_id : ∀ (l : List RecT) (p : PageT), (∀ r ∈ l, chgR r = true → p.num = r.page → r.lsn ≤ p.lsn) → again1 p l = p
  | [], p, _ => rfl
  | r :: l, p, h => by
    show again1 (step1 p r) l = p
    have : step1 p r = p := by
      unfold step1
      rw [if_neg]
      rintro ⟨h1, h2, h3⟩
      have := h r (.head _) h1 h2
      omega
    rw [this]
    exact again1_id l p (fun q hq => h q (.tail _ hq))
theorem again1_app (p : PageT) (l o : List RecT) : again1 p (l ++ o) = again1 (again1 p l) o := by unfold again1; rw [List.foldl_append]
theorem again1_twice (p : PageT) (l : List RecT) (n : Nat) : again1 (again1 p (l.take n)) l = again1 p l := by
  conv => lhs; rw [← List.take_append_drop n l, again1_app, List.take_append_drop]
  conv => rhs; rw [← List.take_append_drop n l, again1_app]
  rw [again1_id (l.take n) (again1 p (l.take n))]
  intro r hr hc hn
  rw [again1_num] at hn
  exact (again1_lsn _ p).2.2 r hr hc hn
theorem againP_twice (ps : List PageT) (l : List RecT) (n : Nat) : againP (againP ps (l.take n)) l = againP ps l := by
  rw [againP_map, againP_map, againP_map, List.map_map]
  exact List.map_congr_left fun p _ => again1_twice p l n
theorem check_younger {ps : List PageT} {l : List RecT} (h : checkR ps l = 0) (n : Nat) : checkR (againP ps (l.take n)) l = 0 := by
  obtain ⟨h1, h2⟩ := checkR_zero h
  obtain ⟨q1, q2, q3⟩ := togP_pages h2
  have hrow := (rowErr_zero.1 h1).2
  obtain ⟨i1, i2, i3⟩ := againP_inv (l := l.take n) q2 q3 (fun r hr => recOk_ag (rowErr_ok h1 r (List.mem_of_mem_take hr)))
  unfold checkR
  rw [if_pos h1, if_pos]
  simp only [togP, Bool.and_eq_true, decide_eq_true_eq, List.all_eq_true] at h2 ⊢
  obtain ⟨⟨a, b⟩, c⟩ := h2
  have hnum : (againP ps (l.take n)).map (·.num) = ps.map (·.num) := by
    rw [againP_map, List.map_map]
    exact List.map_congr_left fun p _ => again1_num _ p
  refine ⟨⟨by omega, ?_⟩, fun m hm => by rw [hnum]; exact c m hm⟩
  simp only [pagesOk, List.all_eq_true, List.mem_range] at b ⊢
  intro i hi
  have hi' : i < ps.length := by omega
  have := b i hi'
  simp only [togI, List.getElem?_eq_getElem hi', List.getElem?_eq_getElem hi, togAt, Bool.and_eq_true] at this ⊢
  have hg : (againP ps (l.take n))[i] = again1 ps[i] (l.take n) := by simp only [againP_map, List.getElem_map]
  obtain ⟨⟨t1, t2⟩, t3⟩ := this
  refine ⟨⟨i2 _ (List.getElem_mem hi), ?_⟩, ?_⟩
  · rw [hg, again1_num]
    by_cases h0 : i = 0
    · simp [h0]
    · have hg2 : (againP ps (l.take n))[i - 1]? = some (again1 (ps[i - 1]'(by omega)) (l.take n)) := by
        rw [List.getElem?_eq_getElem (by omega)]
        simp only [againP_map, List.getElem_map]
      rw [hg2]
      rw [List.getElem?_eq_getElem (show i - 1 < ps.length by omega)] at t2
      simp only [Option.map_some, Option.getD_some, again1_num] at t2 ⊢
      exact t2
  · rw [hg, again1_num]
    simp only [Bool.not_eq_true', Bool.and_eq_false_iff, decide_eq_false_iff_not] at t3 ⊢
    rcases t3 with t3 | t3
    · exact .inl t3
    · refine .inr ?_
      rcases (again1_lsn (l.take n) ps[i]).2.1 with e | ⟨r, hr, e⟩
      · rw [e]; exact t3
      · rw [e]
        have := rowOk_last hrow (List.mem_of_mem_take hr)
        omega
end Go.Proofs.Ytmbhgjekjpkigaa.AM

namespace Go.Proofs.Ytmbhgjekjpkigaa.AM
open Go
set_option linter.unusedVariables false
set_option linter.unusedSimpArgs false
variable {P : Program}

structure AgaR (P : Program) : Prop extends PgsR P where
  aga : R_gazetteerlaw12_RedoAgain P

/-- The first j pages behind a record. -/
def mixP (ps : List PageT) (r : RecT) (j : Nat) : List PageT := (redo1 ps r).take j ++ ps.drop j
theorem mixP_len (ps : List PageT) (r : RecT) (j : Nat) (h : j ≤ ps.length) : (mixP ps r j).length = ps.length := by
  unfold mixP
  rw [redo1_map]
  simp
  omega
theorem mixP_get {ps : List PageT} {r : RecT} {j : Nat} (h : j < ps.length) : (mixP ps r j)[j]'(by rw [mixP_len _ _ _ (by omega)]; exact h) = ps[j] := by
  unfold mixP
  rw [List.getElem_append_right (by rw [redo1_map]; simp; omega)]
  simp [redo1_map, Nat.min_eq_left (Nat.le_of_lt h)]
theorem mixP_step {ps : List PageT} {r : RecT} {j : Nat} (h : j < ps.length) : (mixP ps r j).set j (step1 ps[j] r) = mixP ps r (j + 1) := by
  unfold mixP
  have hl : ((redo1 ps r).take j).length = j := by rw [redo1_map]; simp; omega
  have hd : ps.drop j = ps[j] :: ps.drop (j + 1) := List.drop_eq_getElem_cons h
  rw [List.set_append_right _ _ (by omega), hl, Nat.sub_self, take_snoc (by rw [redo1_map]; simpa using h), List.append_assoc, hd, List.set_cons_zero]
  simp only [redo1_map, List.getElem_map]; rfl
theorem mixP_stay {ps : List PageT} {r : RecT} {j : Nat} (h : j < ps.length) (he : step1 ps[j] r = ps[j]) : mixP ps r (j + 1) = mixP ps r j := by
  have hl := mixP_len ps r j (by omega)
  rw [← mixP_step h, he]
  have := mixP_get (r := r) h
  conv => lhs; rw [← this]
  exact List.set_getElem_self _
theorem mixP_zero (ps : List PageT) (r : RecT) : mixP ps r 0 = ps := by simp [mixP]
theorem mixP_all (ps : List PageT) (r : RecT) {j : Nat} (h : ps.length ≤ j) : mixP ps r j = redo1 ps r := by
  unfold mixP
  rw [List.drop_eq_nil_of_le h, List.take_of_length_le (by rw [redo1_map]; simpa using h), List.append_nil]
def AaI (p : List PageT) (l : List RecT) (vp n : Nat) (k : Nat) (v : V) (st : St) : Prop :=
  ∃ i nv, k = n - i ∧ i ≤ n ∧ v = .int .i64 ((i : Nat) : Int) ∧ st = ⟨[oPg vp (againP p (l.take i))], nv⟩
def AaJ (cur : List PageT) (r : RecT) (vp vr : Nat) (k : Nat) (v : V) (st : St) : Prop :=
  ∃ j nv, k = cur.length - j ∧ j ≤ cur.length ∧ v = .int .i64 ((j : Nat) : Int) ∧ st = ⟨[oPg vp (mixP cur r j), some (vr, .mem 9 [cRec r])], nv⟩
set_option maxHeartbeats 4000000 in
theorem lAgain (h : AgaR P) (ps : List PageT) (rs : List RecT) (hn : ∀ r ∈ rs, recN r) (cut : Int) : PCalls P n_gazetteerlaw12_RedoAgain [.sl .unk 6 (ps.map cPage) [], .sl .unk 9 (rs.map cRec) [], .int .i64 cut] (fun r => r = .bool true) := by
  refine A_gazetteerlaw12_RedoAgain h.aga ?_
  unfold F_gazetteerlaw12_RedoAgain
  simp [st0]
  refine inv_p (Wakes_R h.toRLawR) rfl rfl ?_
  rintro _ rfl
  simp
  have pr : ∀ l : List RecT, pureL [V.sl .unk 9 (l.map cRec) []] = true := fun l => by simp [pureL, V.pure, pureLL]
  refine inv_f0 (Pages_G h.toPgsR ps (fun vp nv M => GhostV.keep (L := [_]) ?_))
  obtain ⟨p, hp⟩ : ∃ p, p = pagesL ps := ⟨_, rfl⟩
  have hpn : p.length < 2 ^ 40 := by rw [hp]; have := pagesL_len (l := ps); omega
  rw [← hp]
  simp
  refine inv_p (Records_R h.toRLawR rs) rfl (pr _) ?_
  rintro _ rfl
  obtain ⟨l, hl⟩ : ∃ l, l = recordsL rs := ⟨_, rfl⟩
  have hw : rowW l := by rw [hl]; exact recordsW hn
  have h65 : l.length ≤ 65 := by rw [hl]; exact recordsL_len rs
  rw [← hl]
  simp
  refine inv_f0 (Redo_O h.toAllR p l hpn (by omega) hw (fun nv => ?_))
  by_cases hc : checkR p l = 0
  case neg =>
    simp [redoR, hc]
    exact GhostV.refl ⟨rfl, rfl⟩
  have hq : checkR (againP p l) l = 0 := by
    have := check_younger hc l.length
    rwa [List.take_length] at this
  have hqq : againP (againP p l) l = againP p l := by
    have := againP_twice p l l.length
    rwa [List.take_length] at this
  have hlq : (againP p l).length < 2 ^ 40 := by rw [againP_map]; simpa using hpn
  simp [redoR, hc]
  refine inv_p (Redo_R h.toAllR (againP p l) l hlq (by omega) hw) rfl (by simp [pureL, V.pure, pureLL]) ?_
  rintro _ rfl
  simp [redoR, hq, hqq]
  refine inv_p (Same_P h.toPgsR (againP p l) (againP p l) hlq) rfl (by simp [pureL, V.pure, pureLL]) ?_
  rintro _ rfl
  simp
  by_cases h0 : l = []
  · simp [h0]
    exact GhostV.refl ⟨rfl, rfl⟩
  obtain ⟨n, hnm, hn1⟩ := cut_nat cut l.length
  have hw1 : IntKind.i64.wrap ((l.length : Int) + 1) = (l.length : Int) + 1 := by rw [wadd1 (by omega)]; rfl
  have hw2 : IntKind.u64.wrap ((l.length : Int) + 1) = (l.length : Int) + 1 := by rw [Go.IntWalk.u64_in _ (by omega)]
  have hw3 : ¬ ((l.length : Int) + 1 = 0) := by omega
  have hw4 : IntKind.i64.wrap (n : Int) = (n : Int) := by rw [wrap_i64 (by omega)]
  simp [h0, hw1, hw2, hw3, hn1, hw4]
  refine ⟨hnm, ?_⟩
  rw [Nat.min_eq_left hnm]
  obtain ⟨h1, h2⟩ := checkR_zero hc
  obtain ⟨q1, q2, q3⟩ := togP_pages h2
  have hrec := rowErr_ok h1
  refine ⟨AaI p l vp n, ⟨n, GhostV.refl ⟨0, _, by simp, by simp, by simp, rfl⟩⟩, ?_⟩
  rintro k1 v66 st ⟨i, nv1, rfl, hi, rfl, rfl⟩
  by_cases hlt : i < n
  · have hil : i < l.length := by omega
    obtain ⟨i1, i2, i3⟩ := againP_inv (l := l.take i) q2 q3 (fun r hr => recOk_ag (hrec r (List.mem_of_mem_take hr)))
    obtain ⟨cur, hcur⟩ : ∃ cur, cur = againP p (l.take i) := ⟨_, rfl⟩
    have hsn := againP_snoc (ps := p) hil
    rw [← hcur] at i1 i2 i3 hsn ⊢
    have hri := recOk_ag (hrec l[i] (List.getElem_mem hil))
    rw [← i3]
    simp [hlt, hil, Nat.min_eq_left hnm]
    refine ⟨AaJ cur l[i] vp nv1, ⟨cur.length, GhostV.refl ⟨0, _, by simp, by simp, by simp, by rw [mixP_zero]; rfl⟩⟩, ?_⟩
    rintro k2 v72 st ⟨j, nv2, rfl, hj, rfl, rfl⟩
    by_cases hjl : j < cur.length
    · have hml := mixP_len cur l[i] j hj
      have hmg := mixP_get (r := l[i]) hjl
      have hjm : j < (mixP cur l[i] j).length := by omega
      have stay : step1 cur[j] l[i] = cur[j] → ∀ nv, ∃ q, q < cur.length - j ∧ GhostV [.int .i64 (IntKind.i64.wrap ((j : Int) + 1))] ⟨[oPg vp (mixP cur l[i] j), some (nv1, .mem 9 [cRec l[i]])], nv⟩ (app (n := 1) (AaJ cur l[i] vp nv1 q)) := by
        intro he nv
        refine ⟨cur.length - (j + 1), by omega, GhostV.refl ⟨j + 1, nv, rfl, by omega, by rw [wadd1 (by omega)], by rw [mixP_stay hjl he]⟩⟩
      by_cases hk : l[i].kind = 1 ∨ l[i].kind = 2
      case neg =>
        have hk1 : ¬ l[i].kind = 1 := fun e => hk (.inl e)
        have hk2 : ¬ l[i].kind = 2 := fun e => hk (.inr e)
        simp [hjl, hjm, hk1, hk2]
        exact stay (by unfold step1; rw [if_neg]; rintro ⟨e, _⟩; simp [chgR, hk1, hk2] at e) _
      have hch : chgR l[i] = true := by rcases hk with e | e <;> simp [chgR, e]
      obtain ⟨hs0, hs4, hnl⟩ := hri hch
      rcases hk with hk | hk
      · have hk1 := hk
        by_cases hpn2 : cur[j].num = l[i].page
        case neg =>
          simp [hjl, hjm, eq_true hk, hmg, hpn2]
          exact stay (by unfold step1; rw [if_neg]; rintro ⟨_, e, _⟩; exact hpn2 e) _
        by_cases hls : cur[j].lsn < l[i].lsn
        case neg =>
          simp [hjl, hjm, eq_true hk, hmg, eq_true hpn2, hls]
          exact stay (by unfold step1; rw [if_neg]; rintro ⟨_, _, e⟩; exact hls e) _
        simp [hjl, hjm, eq_true hk, hmg, eq_true hpn2, hls]
        refine inv_p (Set_P h.toPagR cur[j] l[i].slot l[i].new l[i].lsn) rfl (by simp [pureL, V.pure, pureLL]) ?_
        rintro _ rfl
        have hset : setR cur[j] l[i].slot l[i].new l[i].lsn = .tup [.agg (cPage (setP cur[j] l[i])), .int .i64 0] := by
          simp [setR, i2 _ (List.getElem_mem hjl), hs0, hs4, hnl, setP]
        rw [hset]
        simp [hjl, hjm]
        have hst : step1 cur[j] l[i] = setP cur[j] l[i] := by unfold step1; rw [if_pos ⟨hch, hpn2, hls⟩]
        have e2 : ((mixP cur l[i] j).map cPage).set j (cPage (setP cur[j] l[i])) = (mixP cur l[i] (j + 1)).map cPage := by
          rw [← hst, ← mixP_step hjl, List.map_set]
        exact ⟨cur.length - (j + 1), by omega, GhostV.refl ⟨j + 1, nv2, rfl, by omega, by rw [wadd1 (by omega)], by rw [oPg, ← e2]; rfl⟩⟩
      · have hk1 : ¬ l[i].kind = 1 := by omega
        by_cases hpn2 : cur[j].num = l[i].page
        case neg =>
          simp [hjl, hjm, hk1, eq_true hk, hmg, hpn2]
          exact stay (by unfold step1; rw [if_neg]; rintro ⟨_, e, _⟩; exact hpn2 e) _
        by_cases hls : cur[j].lsn < l[i].lsn
        case neg =>
          simp [hjl, hjm, hk1, eq_true hk, hmg, eq_true hpn2, hls]
          exact stay (by unfold step1; rw [if_neg]; rintro ⟨_, _, e⟩; exact hls e) _
        simp [hjl, hjm, hk1, eq_true hk, hmg, eq_true hpn2, hls]
        refine inv_p (Set_P h.toPagR cur[j] l[i].slot l[i].new l[i].lsn) rfl (by simp [pureL, V.pure, pureLL]) ?_
        rintro _ rfl
        have hset : setR cur[j] l[i].slot l[i].new l[i].lsn = .tup [.agg (cPage (setP cur[j] l[i])), .int .i64 0] := by
          simp [setR, i2 _ (List.getElem_mem hjl), hs0, hs4, hnl, setP]
        rw [hset]
        simp [hjl, hjm]
        have hst : step1 cur[j] l[i] = setP cur[j] l[i] := by unfold step1; rw [if_pos ⟨hch, hpn2, hls⟩]
        have e2 : ((mixP cur l[i] j).map cPage).set j (cPage (setP cur[j] l[i])) = (mixP cur l[i] (j + 1)).map cPage := by
          rw [← hst, ← mixP_step hjl, List.map_set]
        exact ⟨cur.length - (j + 1), by omega, GhostV.refl ⟨j + 1, nv2, rfl, by omega, by rw [wadd1 (by omega)], by rw [oPg, ← e2]; rfl⟩⟩
    · simp [hjl]
      rw [mixP_all cur l[i] (by omega), ← hsn]
      exact ⟨n - (i + 1), by omega, GhostV.keep (L := [_]) ⟨i + 1, _, rfl, by omega, by rw [wadd1 (by omega)], rfl⟩⟩
  · simp [hlt]
    obtain rfl : i = n := by omega
    obtain ⟨i1, i2, i3⟩ := againP_inv (l := l.take i) q2 q3 (fun r hr => recOk_ag (hrec r (List.mem_of_mem_take hr)))
    have hcy := check_younger hc i
    have htw := againP_twice p l i
    obtain ⟨cur, hcur⟩ : ∃ cur, cur = againP p (l.take i) := ⟨_, rfl⟩
    rw [← hcur] at i1 i2 i3 hcy htw ⊢
    rw [← i3]
    refine inv_f0 (ACalls.gv (Redo_R h.toAllR [] [] (by simp) (by simp) (fun r hr => by cases hr)).1 (GhostV.rowk (L := []) (id := 0) (sz := 6) (es := cur.map cPage) (by simp) (by simp) (by simp) ?_))
    rw [List.drop_zero, take_map_len]
    refine (Redo_R h.toAllR cur l (by omega) (by omega) hw).at (by simp [pureL, V.pure, pureLL]) ?_
    rintro _ rfl
    simp [redoR, hcy, htw]
    refine inv_p (Same_P h.toPgsR (againP p l) (againP p l) hlq) rfl (by simp [pureL, V.pure, pureLL]) ?_
    rintro _ rfl
    simp
    exact GhostV.refl ⟨rfl, rfl⟩
end Go.Proofs.Ytmbhgjekjpkigaa.AM
