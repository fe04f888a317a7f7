/- GraphRings, GraphSteps, GraphEnds: walks and plain laws. -/
import Derived.Test.YthoaclojobgelaaGF
namespace Go.Proofs.Ythoaclojobgelaa.AM
open Go
set_option linter.unusedVariables false
set_option linter.unusedSimpArgs false
variable {P : Program}

structure SlR (P : Program) : Prop where
  comp : R_slices_Compact_uint64_uint64 P
  equal : R_slices_Equal_uint64_uint64 P
  cont : R_slices_Contains_uint64_uint64 P
  index : R_slices_Index_uint64_uint64 P
  contE : R_slices_Contains_Edge_Edge P
  indexE : R_slices_Index_Edge_Edge P

theorem sEqual (h : SlR P) (a b : List Nat) (ha : a.length < 2 ^ 40) : PCalls P n_slices_Equal_uint64_uint64 [.sl .unk 1 (a.map cN) [], .sl .unk 1 (b.map cN) []] (fun r => r = .bool (decide (a = b))) := by
  refine A_slices_Equal_uint64_uint64 h.equal ?_
  unfold F_slices_Equal_uint64_uint64
  simp [st0]
  by_cases hlen : a.length = b.length
  · simp [hlen]
    refine ⟨WalkI a.length (fun i => a.take i = b.take i), ⟨a.length, GhostV.refl ⟨0, 0, by simp, by simp, by simp, by simp, by simp⟩⟩, ?_⟩
    rintro k1 v8 st ⟨i, nv, rfl, hi, rfl, hn, rfl⟩
    by_cases hlt : i < a.length
    · have hlt2 : i < b.length := by omega
      simp [hlt, hlt2]
      by_cases he : a[i] = b[i]
      · simp [he]
        refine ⟨a.length - (i + 1), by omega, GhostV.refl ⟨i + 1, nv, rfl, by omega, by rw [wadd1 (by omega)], ?_, rfl⟩⟩
        dsimp only
        rw [take_snoc hlt, take_snoc hlt2, hn, he]
      · simp [he]
        refine GhostV.refl ⟨rfl, ?_⟩
        have : a ≠ b := fun e => he (by subst e; rfl)
        simp [this]
    · have hlt2 : ¬ i < b.length := by omega
      simp [hlt, hlt2]
      rw [List.take_of_length_le (by omega), List.take_of_length_le (by omega)] at hn
      exact GhostV.refl ⟨rfl, by simp [hn]⟩
  · simp [hlen]
    refine GhostV.refl ⟨rfl, ?_⟩
    have : a ≠ b := fun e => hlen (by rw [e])
    simp [this]

theorem sIndex (h : SlR P) (l : List Nat) (n : Nat) (hl : l.length < 2 ^ 40) : PCalls P n_slices_Index_uint64_uint64 [.sl .unk 1 (l.map cN) [], .int .u64 n] (fun r => ∃ i : Int, r = .int .i64 i ∧ (0 ≤ i ↔ n ∈ l)) := by
  refine A_slices_Index_uint64_uint64 h.index ?_
  unfold F_slices_Index_uint64_uint64
  simp [st0]
  refine ⟨WalkI l.length (fun i => n ∉ l.take i), ⟨l.length, GhostV.refl ⟨0, 0, by simp, by simp, by simp, by simp, by simp⟩⟩, ?_⟩
  rintro k1 v8 st ⟨i, nv, rfl, hi, rfl, hn, rfl⟩
  by_cases hlt : i < l.length
  · simp [hlt]
    by_cases he : n = l[i]
    · simp [he]
      exact GhostV.refl ⟨rfl, i, rfl, by simp⟩
    · have he2 : ¬ l[i] = n := fun q => he q.symm
      simp [he, he2]
      refine ⟨l.length - (i + 1), by omega, GhostV.refl ⟨i + 1, nv, rfl, by omega, by rw [wadd1 (by omega)], ?_, rfl⟩⟩
      dsimp only
      rw [take_snoc hlt, List.mem_append]
      rintro (h | h)
      · exact hn h
      · exact he (List.mem_singleton.1 h)
  · simp [hlt]
    rw [List.take_of_length_le (by omega)] at hn
    exact GhostV.refl ⟨rfl, -1, rfl, by simp [hn]⟩
theorem sContains (h : SlR P) (l : List Nat) (n : Nat) (hl : l.length < 2 ^ 40) : PCalls P n_slices_Contains_uint64_uint64 [.sl .unk 1 (l.map cN) [], .int .u64 n] (fun r => r = .bool (decide (n ∈ l))) := by
  refine A_slices_Contains_uint64_uint64 h.cont ?_
  unfold F_slices_Contains_uint64_uint64
  simp [st0]
  refine inv_p (sIndex h l n hl) (by simp) (by simp [pureL, pureLL]) ?_
  rintro _ ⟨i, rfl, hi⟩
  simp
  exact GhostV.refl (by simp [hi])

/-! ### slices.Compact -/
def RiseOf (out m : List Nat) : Prop := out.Pairwise (· < ·) ∧ ∀ x, x ∈ out ↔ x ∈ m
theorem RiseOf.snoc {out m : List Nat} {y x : Nat} (h : RiseOf out (m ++ [y])) (hs : (m ++ [y] ++ [x]).Pairwise (· ≤ ·)) (hne : x ≠ y) : RiseOf (out ++ [x]) (m ++ [y] ++ [x]) := by
  have hy : y ≤ x := (List.pairwise_append.1 hs).2.2 y (by simp) x (by simp)
  have hm : ∀ z ∈ m ++ [y], z ≤ y := by
    intro z hz
    rcases List.mem_append.1 hz with hz | hz
    · exact (List.pairwise_append.1 (List.pairwise_append.1 hs).1).2.2 z hz y (by simp)
    · rw [List.mem_singleton.1 hz]; exact Nat.le_refl _
  refine ⟨List.pairwise_append.2 ⟨h.1, by simp, fun a ha b hb => ?_⟩, fun z => ?_⟩
  · rw [List.mem_singleton.1 hb]
    have := hm a ((h.2 a).1 ha)
    omega
  · rw [List.mem_append, List.mem_append, h.2]
theorem RiseOf.same {out m : List Nat} {y x : Nat} (h : RiseOf out (m ++ [y])) (he : x = y) : RiseOf out (m ++ [y] ++ [x]) := by
  subst he
  exact ⟨h.1, fun z => by rw [h.2]; simp⟩
def Comp1 (d : List Nat) (L : List (Option (Nat × Obj))) (k : Nat) (v3 : V) (st : St) : Prop := ∃ j nv, d.length - j = k ∧ 0 < j ∧ j ≤ d.length ∧ v3 = .int .i64 ((j : Nat) : Int) ∧ RiseOf (d.take j) (d.take j) ∧ st = ⟨L, nv⟩
def Comp2 (d : List Nat) (L : List (Option (Nat × Obj))) (id ver k0 : Nat) (k : Nat) (v3 v5 : V) (st : St) : Prop :=
  ∃ i j nv c, (d.length - k0) - j = k ∧ 0 < j ∧ j ≤ d.length - k0 ∧ i < k0 + j ∧ v3 = .int .i64 ((i : Nat) : Int) ∧ v5 = .int .i64 ((j : Nat) : Int) ∧ (c : List Nat).length = d.length ∧ c.drop (k0 + j - 1) = d.drop (k0 + j - 1) ∧ RiseOf (c.take i) (d.take (k0 + j)) ∧ st = ⟨L.set id (some (ver, .mem 1 (c.map cN))), nv⟩
theorem take2 {d : List Nat} {j : Nat} (h : j + 1 < d.length) : d.take (j + 2) = d.take j ++ [d[j]] ++ [d[j + 1]] := by
  rw [take_snoc h, take_snoc (show j < d.length by omega)]
theorem drop_get {c d : List Nat} {k j : Nat} (h : c.drop k = d.drop k) (hk : k ≤ j) : c[j]? = d[j]? := by
  have := congrArg (fun x => x[j - k]?) h
  simp only [List.getElem?_drop] at this
  rwa [show k + (j - k) = j by omega] at this
theorem Compact_N (h : SlR P) (d : List Nat) (hs : d.Pairwise (· ≤ ·)) (hl : d.length < 2 ^ 40) {L : List (Option (Nat × Obj))} {nv id ver : Nat} (hL : L[id]? = some (some (ver, .mem 1 (d.map cN)))) {K : V → St → Prop}
    (hk : ∀ out rows nv', RiseOf out d → rows.take out.length = out.map cN → out.length ≤ rows.length → K (.msl id ver 0 out.length) ⟨L.set id (some (ver, .mem 1 rows)), nv'⟩) :
    ACalls P n_slices_Compact_uint64_uint64 [.msl id ver 0 d.length] ⟨L, nv⟩ K := by
  have hid : id < L.length := (List.getElem?_eq_some_iff.1 hL).1
  have whole : RiseOf d d → ∀ nv', K (.msl id ver 0 d.length) ⟨L, nv'⟩ := by
    intro hr nv'
    have := hk d (d.map cN) nv' hr (by simp) (by simp)
    rwa [set_self hL] at this
  refine A_slices_Compact_uint64_uint64 h.comp ?_
  unfold F_slices_Compact_uint64_uint64
  simp
  by_cases h2 : d.length < 2
  · have : (d.length : Int) < 2 := by omega
    simp [this]
    refine GhostV.refl (whole ⟨?_, fun x => Iff.rfl⟩ nv)
    match d, h2 with
    | [], _ => exact List.Pairwise.nil
    | [x], _ => simp
  · have : ¬ (d.length : Int) < 2 := by omega
    simp [this]
    refine ⟨Comp1 d L, ⟨d.length - 1, GhostV.refl ⟨1, nv, rfl, by decide, by omega, rfl, ⟨?_, fun x => Iff.rfl⟩, rfl⟩⟩, ?_⟩
    · match d, h2 with
      | x :: y :: d, _ => simp
      | [x], h2 => simp at h2
      | [], h2 => simp at h2
    rintro _ v3 st ⟨j, nv1, rfl, hj0, hj, rfl, hr, rfl⟩
    by_cases hlt : j < d.length
    · obtain ⟨p, hp⟩ : ∃ p, j = p + 1 := ⟨j - 1, by omega⟩
      have e1 : IntKind.i64.wrap ((j : Int) - 1) = (p : Int) := by rw [wrap_i64 (by omega)]; omega
      have hpl : p < d.length := by omega
      simp [hlt, hL, e1, hpl]
      by_cases he : d[j] = d[p]
      · simp [he, hL]
        refine ⟨hj, Comp2 d L id ver j, ⟨d.length - j - 1, GhostV.refl ⟨j, 1, nv1, d, rfl, by decide, by omega, by omega, rfl, rfl, rfl, rfl, ?_, by rw [set_self hL]⟩⟩, ?_⟩
        · subst hp
          rw [take2 hlt]
          rw [take_snoc hpl] at hr ⊢
          exact hr.same he
        rintro _ v3' v5 st ⟨i, t, nv2, c, rfl, ht0, ht, hit, rfl, rfl, hc, hdr, hri, rfl⟩
        by_cases hlt2 : t < d.length - j
        · obtain ⟨u, hu⟩ : ∃ u, t = u + 1 := ⟨t - 1, by omega⟩
          have e2 : IntKind.i64.wrap ((t : Int) - 1) = (u : Int) := by rw [wrap_i64 (by omega)]; omega
          have hjt : j + t < d.length := by omega
          have hju : j + u < d.length := by omega
          have hul : u < d.length - j := by omega
          have hg1 : c[j + t]? = some d[j + t] := by rw [drop_get hdr (by omega)]; simp [hjt]
          have hg2 : c[j + u]? = some d[j + u] := by rw [drop_get hdr (by omega)]; simp [hju]
          have hi2 : i < d.length := by omega
          simp [hlt2, hid, e2, hg1, hg2, hul]
          by_cases hne : d[j + t] = d[j + u]
          · simp [hne]
            refine ⟨d.length - j - (t + 1), by omega, GhostV.refl ⟨i, t + 1, nv2, c, rfl, by omega, by omega, by omega, rfl, by rw [wadd1 (by omega)], hc, ?_, ?_, rfl⟩⟩
            · have := congrArg (List.drop 1) hdr
              rw [List.drop_drop, List.drop_drop] at this
              rw [show j + (t + 1) - 1 = j + t - 1 + 1 by omega]; exact this
            · subst hu
              rw [show j + (u + 1 + 1) = (j + u) + 2 by omega, take2 (by omega)]
              rw [show j + (u + 1) = (j + u) + 1 by omega, take_snoc hju] at hri
              exact hri.same hne
          · simp [hne, hid, hg1, hlt2, hi2, hc]
            have hset : (c.map cN).set i [.int .u64 (d[j + t] : Nat)] = (c.set i d[j + t]).map cN := by rw [List.map_set]; rfl
            rw [hset]
            refine ⟨d.length - j - (t + 1), by omega, GhostV.refl ⟨i + 1, t + 1, nv2, c.set i d[j + t], rfl, by omega, by omega, by omega, by rw [wadd1 (by omega)], by rw [wadd1 (by omega)], by simp [hc], ?_, ?_, rfl⟩⟩
            · rw [List.drop_set_of_lt (by omega)]
              have := congrArg (List.drop 1) hdr
              rw [List.drop_drop, List.drop_drop] at this
              rw [show j + (t + 1) - 1 = j + t - 1 + 1 by omega]; exact this
            · have hic : i < (c.set i d[j + t]).length := by simp [hc]; omega
              rw [take_snoc hic, List.take_set_of_le (Nat.le_refl _)]
              simp only [List.getElem_set_self]
              subst hu
              have e3 : j + (u + 1) = (j + u) + 1 := by omega
              have htk : d.take (j + (u + 1) + 1) = d.take (j + u) ++ [d[j + u]] ++ [d[j + (u + 1)]] := by
                have := take2 (d := d) (j := j + u) (by omega)
                simp only [e3]; exact this
              rw [show j + (u + 1 + 1) = j + (u + 1) + 1 by omega, htk]
              rw [e3, take_snoc hju] at hri
              refine hri.snoc ?_ hne
              rw [← htk]; exact hs.sublist (List.take_sublist _ _)
        · have htl : t = d.length - j := by omega
          subst htl
          rw [show j + (d.length - j) = d.length by omega, List.take_length] at hri
          have hid2 : i < d.length := by omega
          have hil : i ≤ d.length := by omega
          simp [hid, hc, hil]
          have htl2 : (c.take i).length = i := by simp [hc]; omega
          have := hk (c.take i) (List.take i (c.map cN) ++ (List.replicate (d.length - i) [V.int .u64 0] ++ List.drop d.length (c.map cN))) nv2 hri (by rw [htl2, List.take_append_of_le_length (by simp [hc]; omega), List.take_take, Nat.min_self, List.map_take]) (by rw [htl2]; simp [hc]; omega)
          rw [htl2] at this
          exact GhostV.refl (by simpa using this)
      · simp [he]
        refine ⟨d.length - (j + 1), by omega, GhostV.refl ⟨j + 1, nv1, rfl, by omega, by omega, by rw [wadd1 (by omega)], ?_, rfl⟩⟩
        subst hp
        rw [take2 hlt]
        rw [take_snoc hpl] at hr
        have hs2 : (d.take p ++ [d[p]] ++ [d[p + 1]]).Pairwise (· ≤ ·) := by rw [← take2 hlt]; exact hs.sublist (List.take_sublist _ _)
        exact hr.snoc hs2 he
    · simp [hlt]
      rw [List.take_of_length_le (by omega)] at hr
      exact GhostV.refl (whole hr nv1)
end Go.Proofs.Ythoaclojobgelaa.AM

namespace Go.Proofs.Ythoaclojobgelaa.AM
open Go
set_option linter.unusedVariables false
set_option linter.unusedSimpArgs false
variable {P : Program}

def wantStep (F : List EdgeT) (n : Nat) (out : List Nat) (e : EdgeT) : List Nat := if e.f = n then out ++ (e.t :: reachG F e.t) else out
def wantS (F : List EdgeT) (n : Nat) : List Nat := F.foldl (wantStep F n) []
theorem want_fold (F : List EdgeT) (n : Nat) : ∀ (m : List EdgeT) (out : List Nat), (∀ x, x ∈ m.foldl (wantStep F n) out ↔ x ∈ out ∨ ∃ e ∈ m, e.f = n ∧ (x = e.t ∨ x ∈ reachG F e.t)) ∧ (m.foldl (wantStep F n) out).length ≤ out.length + m.length * (F.length + 1)
  | [], out => by simp
  | e :: m, out => by
    obtain ⟨h1, h2⟩ := want_fold F n m (wantStep F n out e)
    refine ⟨fun x => ?_, ?_⟩
    · rw [List.foldl_cons, h1]
      have : x ∈ wantStep F n out e ↔ x ∈ out ∨ (e.f = n ∧ (x = e.t ∨ x ∈ reachG F e.t)) := by
        unfold wantStep; split
        · rename_i hf; simp [hf]
        · rename_i hf; simp [hf]
      rw [this]
      constructor
      · rintro ((a | a) | ⟨e', a, b⟩)
        · exact .inl a
        · exact .inr ⟨e, by simp, a⟩
        · exact .inr ⟨e', by simp [a], b⟩
      · rintro (a | ⟨e', a, b⟩)
        · exact .inl (.inl a)
        · rcases List.mem_cons.1 a with rfl | a
          · exact .inl (.inr b)
          · exact .inr ⟨e', a, b⟩
    · have h3 : (wantStep F n out e).length ≤ out.length + (F.length + 1) := by
        unfold wantStep; split
        · have := reachG_len F e.t; simp; omega
        · omega
      simp only [List.foldl_cons, List.length_cons, Nat.succ_mul]
      omega
theorem reachG_mem {F : List EdgeT} (hw : wrongS F = 0) (a x : Nat) : x ∈ reachG F a ↔ Rc F a x := by
  unfold reachG; rw [if_pos hw, sortL_mem, far_mem (wrong_len hw)]
theorem want_law {F : List EdgeT} (hw : wrongS F = 0) (n x : Nat) : x ∈ wantS F n ↔ x ∈ reachG F n := by
  unfold wantS
  rw [(want_fold F n F []).1, reachG_mem hw]
  constructor
  · rintro (h | ⟨e, he, rfl, rfl | h⟩)
    · cases h
    · exact ⟨1, by decide, Wk.one.2 he⟩
    · obtain ⟨k, hk, hkw⟩ := (reachG_mem hw _ _).1 h
      exact ⟨1 + k, by omega, (Wk.one.2 he).add hkw⟩
  · rintro ⟨k, hk, hkw⟩
    obtain ⟨j, rfl⟩ : ∃ j, k = 1 + j := ⟨k - 1, by omega⟩
    obtain ⟨m, h1, h2⟩ := Wk.split hkw
    refine .inr ⟨⟨n, m⟩, Wk.one.1 h1, rfl, ?_⟩
    cases j with
    | zero => exact .inl h2.symm
    | succ j => exact .inr ((reachG_mem hw _ _).2 ⟨j + 1, by omega, h2⟩)
theorem reachG_rise (F : List EdgeT) (a : Nat) : (reachG F a).Pairwise (· < ·) := by
  unfold reachG; split
  · exact sortL_rise (farF_out F a).nd
  · exact List.Pairwise.nil

theorem Bor.pre {st : St} {id ver : Nat} {l : List Nat} {rows : List (List V)} (h : st.get id ver = some (.mem 1 rows)) (ht : rows.take l.length = l.map cN) (hl : l.length ≤ rows.length) : Bor st (.msl id ver 0 l.length) (.sl .unk 1 (l.map cN) []) :=
  .msl id ver 0 l.length 1 _ _ h (by omega) (by simp) (fun i hi => by rw [getD_map _ _ _ hi]; rfl) (fun i j hi hj => by
    have : rows.getD (0 + i) [] = (l.map cN).getD i [] := by
      rw [← ht, Nat.zero_add]
      simp [List.getD, List.getElem?_take, hi]
    rw [this]; exact .refl _)
def WoO {α : Type} (sz n : Nat) (enc : α → List V) (r : Nat → List α) (k : Nat) (v5 v : V) (st : St) : Prop := ∃ i va nv out, k = n - i ∧ i ≤ n ∧ v = .int .i64 ((i : Nat) : Int) ∧ r i = out ∧ v5 = .msl 0 va 0 (out : List α).length ∧ st = ⟨[some (va, .mem sz (out.map enc))], nv⟩
theorem lSteps (h : LawR P) (hs : SlR P) (hR : R_gazetteerlaw16_GraphSteps P) (l : List EdgeT) (n : Nat) :
    PCalls P n_gazetteerlaw16_GraphSteps [.sl .unk 2 (l.map cEd) [], .int .u64 n] (fun r => r = .bool true) := by
  refine A_gazetteerlaw16_GraphSteps hR ?_
  unfold F_gazetteerlaw16_GraphSteps
  simp [st0]
  refine inv_p (wWakes h) (by simp) (by simp [pureL]) ?_
  rintro _ rfl
  simp
  refine inv_p (wFew h l) (by simp) (by simp [pureL, pureLL]) ?_
  rintro _ rfl
  have hF := fewS_len l
  generalize fewS l = F at hF ⊢
  simp
  refine inv_p (PCalls.le slkE (gReach h.toGrR2 F n (by omega))) rfl (by simp [pureL, pureLL]) ?_
  rintro _ rfl
  by_cases hw : wrongS F = 0
  · simp [hw]
    refine ⟨WoO 1 F.length cN (fun i => (F.take i).foldl (wantStep F n) []), ⟨F.length, GhostV.nilr 1 (by decide) ⟨0, 0, 1, [], by simp, by simp, by simp, by simp, by simp, by simp⟩⟩, ?_⟩
    rintro k1 v7 v29 st ⟨i, va, nv, out, rfl, hi, rfl, hout, rfl, rfl⟩
    simp only at hout
    have hol := (want_fold F n (F.take i) []).2
    rw [hout] at hol
    have hol2 : out.length ≤ 65 * 66 := by
      refine Nat.le_trans hol ?_
      simp only [List.length_nil, Nat.zero_add, List.length_take]
      exact Nat.mul_le_mul (by omega) (by omega)
    by_cases hlt : i < F.length
    · have hstep := foldl_snoc (f := wantStep F n) (b := []) hlt
      rw [hout] at hstep
      simp [hlt]
      by_cases h1 : F[i].f = n
      · simp only [wantStep, h1, if_true] at hstep
        simp [h1]
        refine inv_p (PCalls.le slkE (gReach h.toGrR2 F F[i].t (by omega))) rfl (by simp [pureL, pureLL]) ?_
        rintro _ rfl
        have hrl := reachG_len F F[i].t
        simp [hw]
        exact ⟨by omega, by omega, F.length - (i + 1), by omega, GhostV.keep (L := [_]) ⟨i + 1, nv + 1 + 1 + 1, nv + 1 + 1 + 1 + 1, out ++ (F[i].t :: reachG F F[i].t), rfl, by omega, by rw [wadd1 (by omega)], hstep, by rw [List.length_append, List.length_cons, show out.length + 1 + (reachG F F[i].t).length = out.length + ((reachG F F[i].t).length + 1) by omega], by simp⟩⟩
      · simp [wantStep, h1] at hstep
        simp [h1]
        exact ⟨F.length - (i + 1), by omega, GhostV.keep (L := [_]) ⟨i + 1, va, nv + 1, out, rfl, by omega, by rw [wadd1 (by omega)], hstep, rfl, rfl⟩⟩
    · rw [List.take_of_length_le (by omega)] at hout
      have hout : wantS F n = out := hout
      simp [hlt]
      have hsl : (sortL out).length = out.length := sortL_len out
      have e1 : ([some (va, Obj.mem 1 (out.map cN))] : List (Option (Nat × Obj))) = [some (va, Obj.mem 1 (out.map cN))].set 0 (some (va, .mem 1 (rowsN out.toArray))) := by simp [rowsN]
      refine inv_f0 ?_
      rw [e1, show out.length = out.toArray.size by simp]
      refine Sort_N h.toSortR (by simp) out.toArray (by simp; omega) ?_
      intro nv2
      have e2 : ([some (va, Obj.mem 1 (out.map cN))] : List (Option (Nat × Obj))).set 0 (some (va, .mem 1 (rowsN (Go.Sort.sort ltN out.toArray)))) = [some (va, .mem 1 ((sortL out).map cN))] := rfl
      rw [e2]
      have e3 : out.toArray.size = (sortL out).length := by rw [hsl]; simp
      rw [e3]
      simp
      rw [← hsl]
      refine inv_f0 (Compact_N hs (sortL out) (sortL_sorted out) (by omega) (by simp) ?_)
      intro out2 rows nv3 hr2 ht2 hl2
      have hm2 : out2.length < 2 ^ 40 := by
        have := sub_len (rise_nodup hr2.1) (b := sortL out) (fun x hx => (hr2.2 x).1 hx)
        omega
      have heq : reachG F n = out2 := by
        refine rise_eq (reachG_rise F n) hr2.1 (fun x => ?_)
        rw [hr2.2, sortL_mem, ← hout, want_law hw]
      simp
      refine inv_look (sEqual hs (reachG F n) out2 (by rw [heq]; exact hm2)) (Bors.cons (.refl _) (Bors.cons (Bor.pre (by simp [St.get]) ht2 hl2) Bors.nil)) (by simp [pureL, pureLL]) ?_
      rintro _ rfl
      refine ⟨rfl, ?_⟩
      exact GhostV.refl ⟨rfl, by simp [heq]⟩
  · simp [hw, reachG_wrong hw]
    exact GhostV.refl ⟨rfl, rfl⟩
end Go.Proofs.Ythoaclojobgelaa.AM

namespace Go.Proofs.Ythoaclojobgelaa.AM
open Go
set_option linter.unusedVariables false
set_option linter.unusedSimpArgs false
variable {P : Program}

theorem circ_chain {F : List EdgeT} (hl : F.length ≤ 64) (n : Nat) : ∀ s a, Dist F a n (s + 1) → ∀ i x, (a :: circLp F n s a)[i]? = some x →
    Dist F x n (s + 1 - i) ∧ (∀ y, (a :: circLp F n s a)[i + 1]? = some y → (⟨x, y⟩ : EdgeT) ∈ F) ∧ (x = a ∨ Rc F a x)
  | 0, a, h, i, x, hx => by
    cases i with
    | zero => simp [circLp] at hx; subst hx; exact ⟨h, fun y hy => by simp [circLp] at hy, .inl rfl⟩
    | succ i => simp [circLp] at hx
  | s + 1, a, h, i, x, hx => by
    have hp := (pick_law hl h).1
    have ih := circ_chain hl n s (pickG F n (s + 1) a) hp.2
    have ec : circLp F n (s + 1) a = pickG F n (s + 1) a :: circLp F n s (pickG F n (s + 1) a) := rfl
    rw [ec] at hx ⊢
    cases i with
    | zero =>
      simp at hx; subst hx
      refine ⟨h, fun y hy => ?_, .inl rfl⟩
      simp at hy; subst hy
      exact hp.1
    | succ i =>
      rw [List.getElem?_cons_succ] at hx
      obtain ⟨h1, h2, h3⟩ := ih i x hx
      refine ⟨by rw [show s + 1 + 1 - (i + 1) = s + 1 - i by omega]; exact h1, fun y hy => ?_, .inr ?_⟩
      · rw [List.getElem?_cons_succ] at hy; exact h2 y hy
      · have he := Wk.one.2 hp.1
        rcases h3 with rfl | ⟨k, hk, hw⟩
        · exact ⟨1, by decide, he⟩
        · exact ⟨1 + k, by omega, he.add hw⟩
theorem onG_mem {F : List EdgeT} (hw : wrongS F = 0) (x : Nat) : x ∈ onG F ↔ Rc F x x := by rw [on_law hw, onS_mem (wrong_len hw)]
structure RingOk (F : List EdgeT) (n : Nat) (c : List Nat) : Prop where
  len : 0 < c.length ∧ c.length ≤ 100
  zero : c[0]? = some n
  all : ∀ i x y, c[i]? = some x → c[(i + 1) % c.length]? = some y → (⟨x, y⟩ : EdgeT) ∈ F ∧ x ∈ onG F ∧ x ∉ c.take i
theorem ring_law {F : List EdgeT} (hw : wrongS F = 0) {n : Nat} (hn : n ∈ onG F) : RingOk F n (circG F n) ∧ circE F n = 0 := by
  have hl := wrong_len hw
  have hr := (onG_mem hw n).1 hn
  have hm := (far_law hl n).all n hr
  have hd := ((far_law hl n).dist n hm).1
  have hE : circE F n = 0 := by simp [circE, hw, hm]
  have hc : circG F n = circO F n := by simp [circG, hw, hm]
  refine ⟨?_, hE⟩
  have hlen := circG_len F n
  rw [hc] at hlen ⊢
  obtain ⟨s, hs⟩ : ∃ s, (farF F n).d n = s + 1 := ⟨(farF F n).d n - 1, by have := hd.pos; omega⟩
  have ho : circO F n = n :: circLp F n s n := by simp [circO, hs]
  rw [hs] at hd
  have hch := circ_chain hl n s n hd
  rw [ho] at hlen ⊢
  have hL : (n :: circLp F n s n).length = s + 1 := by simp [circLp_len]
  refine ⟨⟨by omega, hlen⟩, rfl, fun i x y hx hy => ?_⟩
  have hi : i < s + 1 := by rw [← hL]; exact (List.getElem?_eq_some_iff.1 hx).1
  obtain ⟨h1, h2, h3⟩ := hch i x hx
  refine ⟨?_, ?_, ?_⟩
  · by_cases hlast : i + 1 < s + 1
    · rw [hL, Nat.mod_eq_of_lt hlast] at hy
      exact h2 y hy
    · have : i + 1 = s + 1 := by omega
      rw [hL, this, Nat.mod_self] at hy
      simp at hy; subst hy
      have : s + 1 - i = 1 := by omega
      rw [this] at h1
      exact Wk.one.1 h1.wk
  · rw [onG_mem hw]
    rcases h3 with rfl | ⟨k, hk, hkw⟩
    · exact hr
    · exact ⟨(s + 1 - i) + k, by omega, h1.wk.add hkw⟩
  · intro hmem
    obtain ⟨j, hj, hjx⟩ := List.mem_take_iff_getElem.1 hmem
    have hj2 : (n :: circLp F n s n)[j]? = some x := by rw [List.getElem?_eq_getElem (by omega), hjx]
    have h4 := (hch j x hj2).1
    have := h1.uniq h4
    omega

theorem lRings (h : LawR P) (hs : SlR P) (hR : R_gazetteerlaw16_GraphRings P) (l : List EdgeT) :
    PCalls P n_gazetteerlaw16_GraphRings [.sl .unk 2 (l.map cEd) []] (fun r => r = .bool true) := by
  refine A_gazetteerlaw16_GraphRings hR ?_
  unfold F_gazetteerlaw16_GraphRings
  simp [st0]
  refine inv_p (wWakes h) (by simp) (by simp [pureL]) ?_
  rintro _ rfl
  simp
  refine inv_p (wFew h l) (by simp) (by simp [pureL, pureLL]) ?_
  rintro _ rfl
  have hF := fewS_len l
  generalize fewS l = F at hF ⊢
  simp
  refine inv_p (PCalls.le slkE (gOn h.toGrR2 F (by omega))) rfl (by simp [pureL, pureLL]) ?_
  rintro _ rfl
  by_cases hw : wrongS F = 0
  · have hon := onG_len F
    simp [hw]
    refine ⟨WalkI (onG F).length (fun _ => True), ⟨(onG F).length, GhostV.refl ⟨0, 0, by simp, by simp, by simp, trivial, rfl⟩⟩, ?_⟩
    rintro k1 v st ⟨i, nv, rfl, hi, rfl, _, rfl⟩
    by_cases hlt : i < (onG F).length
    · obtain ⟨n, hn⟩ : ∃ n, n = (onG F)[i] := ⟨_, rfl⟩
      obtain ⟨hring, hE⟩ := ring_law hw (n := n) (by rw [hn]; exact List.getElem_mem hlt)
      simp [hlt, ← hn]
      refine inv_p (PCalls.le slkE (gCircle h.toGrR4 F n (by omega))) rfl (by simp [pureL, pureLL]) ?_
      rintro _ rfl
      rw [hE]
      generalize circG F n = c at hring ⊢
      have hl0 := hring.len
      have hc0 : c[0]? = some n := hring.zero
      have hne : ¬ c = [] := by rintro rfl; simp at hl0
      simp [hne, hc0]
      refine ⟨hl0.1, WalkI c.length (fun _ => True), ⟨c.length, GhostV.refl ⟨0, nv, by simp, by simp, by simp, trivial, rfl⟩⟩, ?_⟩
      rintro k2 v54 st ⟨j, nv2, rfl, hj, rfl, _, rfl⟩
      by_cases hlt2 : j < c.length
      · obtain ⟨q, hq⟩ : ∃ q, q = (j + 1) % c.length := ⟨_, rfl⟩
        have hql : q < c.length := by rw [hq]; exact Nat.mod_lt _ hl0.1
        have e1 : IntKind.i64.wrap ((j : Int) + 1) = ((j + 1 : Nat) : Int) := wadd1 (by omega)
        have hx : c[j]? = some c[j] := List.getElem?_eq_getElem hlt2
        have hy : c[q]? = some c[q] := List.getElem?_eq_getElem hql
        obtain ⟨hed, hin, hnot⟩ := hring.all j c[j] c[q] hx (by rw [← hq]; exact hy)
        have e2 : ((j : Int) + 1).tmod (c.length : Int) = (q : Int) := by
          rw [hq, show (j : Int) + 1 = ((j + 1 : Nat) : Int) by omega]; exact (Int.ofNat_tmod _ _).symm
        simp [hlt2, e1, e2, hne, hql]
        refine inv_p (PCalls.le slkE (Contains_Edge hs.indexE hs.contE F ⟨c[j], c[q]⟩ (by omega))) rfl (by simp [pureL, pureLL]) ?_
        rintro _ rfl
        simp [hed]
        refine inv_p (sContains hs (onG F) c[j] (by omega)) rfl (by simp [pureL, pureLL]) ?_
        rintro _ rfl
        simp [hin]
        have p1 : pureLL (List.take j (c.map cN)) = true := by rw [← List.map_take]; exact p_N _
        have p2 : pureLL (List.drop j (c.map cN)) = true := by rw [← List.map_drop]; exact p_N _
        rw [← List.map_take, ← List.map_drop]
        refine ⟨by omega, inv_p (PCalls.le (.cons .slk (.refl _)) (sContains hs (c.take j) c[j] (by simp; omega))) rfl (by simp [pureL, pureLL, p1, p2]) ?_⟩
        rintro _ rfl
        simp [hnot]
        exact ⟨c.length - (j + 1), by omega, GhostV.refl ⟨j + 1, nv2, rfl, by omega, by first | rfl | rw [wadd1 (by omega)], trivial, rfl⟩⟩
      · simp [hlt2]
        exact ⟨(onG F).length - (i + 1), by omega, GhostV.refl ⟨i + 1, nv2, rfl, by omega, by rw [wadd1 (by omega)], trivial, rfl⟩⟩
    · simp [hlt]
      exact GhostV.refl ⟨rfl, rfl⟩
  · simp [hw, onG_wrong hw]
    exact GhostV.refl ⟨rfl, rfl⟩
end Go.Proofs.Ythoaclojobgelaa.AM

namespace Go.Proofs.Ythoaclojobgelaa.AM
open Go
set_option linter.unusedVariables false
set_option linter.unusedSimpArgs false
variable {P : Program}

theorem wo_sub {F : List EdgeT} {n : Nat} : ∀ e ∈ woS F n, e ∈ F := fun e he => (List.mem_filter.1 he).1
theorem wo_free {F : List EdgeT} {n : Nat} : ∀ e ∈ woS F n, e.f ≠ n ∧ e.t ≠ n := fun e he => by have := (List.mem_filter.1 he).2; simpa using this
theorem Wk.mono {F G : List EdgeT} (h : ∀ e ∈ F, e ∈ G) {a : Nat} : ∀ {k b : Nat}, Wk F k a b → Wk G k a b
  | 0, b, e => e
  | k + 1, b, ⟨c, h1, h2⟩ => ⟨c, Wk.mono h h1, h _ h2⟩
theorem wrong_sub {F G : List EdgeT} (h : ∀ e ∈ F, e ∈ G) (hl : F.length ≤ G.length) (hw : wrongS G = 0) : wrongS F = 0 := by
  have h64 := wrong_len hw
  have ho : okS G = true := by
    unfold wrongS at hw
    rw [if_neg (by omega)] at hw
    cases ho : okS G
    · rw [ho] at hw; simp at hw
    · rfl
  have : okS F = true := by
    unfold okS at ho ⊢
    rw [List.all_eq_true] at ho ⊢
    exact fun e he => ho e (h e he)
  unfold wrongS
  rw [if_neg (by omega), this]; rfl
theorem wo_wrong {F : List EdgeT} {n : Nat} (hw : wrongS F = 0) : wrongS (woS F n) = 0 := wrong_sub wo_sub (List.length_filter_le _ _) hw
theorem wo_on {F : List EdgeT} {n : Nat} (hw : wrongS F = 0) : (∀ x ∈ onG (woS F n), x ∈ onG F) ∧ n ∉ onG (woS F n) := by
  have hw2 : wrongS (woS F n) = 0 := wo_wrong hw
  constructor
  · intro x hx
    rw [onG_mem hw2] at hx; rw [onG_mem hw]
    obtain ⟨k, hk, hkw⟩ := hx
    exact ⟨k, hk, hkw.mono wo_sub⟩
  · intro hx
    rw [onG_mem hw2] at hx
    obtain ⟨e, he, hf⟩ := hx.source
    exact (wo_free e he).1 hf
theorem onG_rise (F : List EdgeT) : (onG F).Pairwise (· < ·) := by
  unfold onG; split
  · exact sortL_rise (onK_nodup F)
  · exact List.Pairwise.nil
theorem wo_less {F : List EdgeT} {n : Nat} (hw : wrongS F = 0) (hn : n ∈ onG F) : (onG (woS F n)).length < (onG F).length := by
  obtain ⟨h1, h2⟩ := wo_on (n := n) hw
  have := sub_len (a := n :: onG (woS F n)) (b := onG F) (List.nodup_cons.2 ⟨h2, rise_nodup (onG_rise _)⟩) (fun x hx => by
    rcases List.mem_cons.1 hx with rfl | hx
    · exact hn
    · exact h1 x hx)
  simp only [List.length_cons] at this; omega
theorem vic_on {F : List EdgeT} (hw : wrongS F = 0) (order : List Nat) (ho : ∀ e ∈ F, e.f ∈ order) : ((vicG F order).2 = true ∧ (vicG F order).1 ∈ onG F) ∨ ((vicG F order).2 = false ∧ onG F = []) := by
  rw [vic_law hw, ← on_law hw]
  unfold vicS
  cases hf : order.reverse.find? (fun x => decide (x ∈ onG F)) with
  | some x => left; exact ⟨rfl, by simpa using List.find?_some hf⟩
  | none =>
    right
    refine ⟨rfl, ?_⟩
    rw [List.find?_eq_none] at hf
    refine List.eq_nil_iff_forall_not_mem.2 (fun x hx => ?_)
    obtain ⟨e, he, hfe⟩ := ((onG_mem hw x).1 hx).source
    have := hf x (by rw [← hfe]; simpa using ho e he)
    simp [hx] at this
/-- Where there is no circle somebody waits for nobody. -/
theorem sink {F : List EdgeT} (hw : wrongS F = 0) (hon : onG F = []) : ∀ n, ∀ e ∈ F, (reachG F e.t).length ≤ n → ∃ e' ∈ F, ∀ x ∈ F, x.f ≠ e'.t := by
  intro n
  induction n with
  | zero =>
    intro e he hn
    refine ⟨e, he, fun x hx hxe => ?_⟩
    have : x.t ∈ reachG F e.t := (reachG_mem hw _ _).2 ⟨1, by decide, Wk.one.2 (by rw [← hxe]; exact hx)⟩
    have := List.length_pos_of_mem this
    omega
  | succ n ih =>
    intro e he hn
    by_cases hs : ∀ x ∈ F, x.f ≠ e.t
    · exact ⟨e, he, hs⟩
    · obtain ⟨x, hx, hxe⟩ : ∃ x ∈ F, x.f = e.t := by
        refine Classical.byContradiction fun hno => hs fun x hx hxe => hno ⟨x, hx, hxe⟩
      have hst : Wk F 1 e.t x.t := Wk.one.2 (by rw [← hxe]; exact hx)
      have hno : x.t ∉ reachG F x.t := by
        rw [reachG_mem hw, ← onG_mem hw, hon]; simp
      have := sub_len (a := x.t :: reachG F x.t) (b := reachG F e.t) (List.nodup_cons.2 ⟨hno, rise_nodup (reachG_rise _ _)⟩) (fun y hy => by
        rw [reachG_mem hw]
        rcases List.mem_cons.1 hy with rfl | hy
        · exact ⟨1, by decide, hst⟩
        · obtain ⟨k, hk, hkw⟩ := (reachG_mem hw _ _).1 hy
          exact ⟨1 + k, by omega, hst.add hkw⟩)
      simp only [List.length_cons] at this
      exact ih x hx (by omega)

/-! ### the walk -/
theorem gWithout (h : GrR2 P) (l : List EdgeT) (n : Nat) (hl : l.length < 2 ^ 40) (hw : wrongS l = 0) : PCalls P n_graph_Without [.sl .unk 2 (l.map cEd) [], .int .u64 n] (fun r => r = .tup [.sl .unk 2 ((woS l n).map cEd) [], .int .i64 0]) := by
  refine A_graph_Without h.gwo ?_
  unfold F_graph_Without
  simp [st0]
  refine inv_p (gCheck h.toGrR l hl) (by simp) (by simp [pureL, pureLL]) ?_
  rintro _ rfl
  simp [hw]
  have hf : ∀ x, PCalls P n_graph_Without_1 ([.agg (cEd x)] ++ [.eptr [.int .u64 n] 0]) (fun r => r = .bool (!(x.f != n && x.t != n))) := fun x => gWithout_1 h x n
  have hw2 : l.filter (fun x => !!(x.f != n && x.t != n)) = woS l n := by simp [woS]
  refine inv_f0 (Clone_Edge h.clone l hl ?_ ?_)
  · rintro rfl
    simp
    refine inv_f0 (DeleteNil h.idxf h.del (by simp [pureL, pureLL]) hf (Bors.cons (.box1 (by simp [St.get])) Bors.nil) ?_)
    exact GhostV.le (LeVs.nilrow (sz := 2)) ⟨by simp [pureL, pureLL], by simp [woS]⟩
  · simp
    refine inv_f0 (DeleteFunc h.idxf h.del (L := [some (0, .mem 1 [[.int .u64 n]]), some (2, .mem 2 (l.map cEd))]) (cap := [.ptr 0 0 0 0]) l (by omega) (by simp [pureL, pureLL]) hf (by simp) ?_ ?_)
    · intro L' nv' hL'
      have := hL' 0 (by omega) (by simp)
      exact Bors.cons (.box1 (by simp [St.get, this])) Bors.nil
    · intro nv' rows h1 h2
      rw [hw2] at h1 h2 ⊢
      refine GhostV.rowk (L := [some (0, .mem 1 [[.int .u64 n]])]) (M := [some (2, .mem 2 rows)]) (sz := 2) (es := rows) (by simp) (by simp) (by omega) ?_
      rw [List.drop_zero, h1]
      exact ⟨by simp [pureL, pureLL], by simp⟩

structure EndsR (P : Program) : Prop extends SlR P where
  ends1 : R_gazetteerlaw16_GraphEnds_1 P
  law : R_gazetteerlaw16_GraphEnds P
theorem Ends_1 (h : EndsR P) (e x : EdgeT) : PCalls P n_gazetteerlaw16_GraphEnds_1 [.agg (cEd x), .eptr (cEd e) 0] (fun r => r = .bool (decide (x.f = e.t))) := by
  refine A_gazetteerlaw16_GraphEnds_1 h.ends1 ?_
  unfold F_gazetteerlaw16_GraphEnds_1
  simp [st0]
  exact GhostV.refl ⟨rfl, rfl⟩
theorem ContainsFuncC (hI : R_slices_IndexFunc_Edge_Edge P) (hR : R_slices_ContainsFunc_Edge_Edge P) {k : FuncId} {cap : List V} {p : EdgeT → Bool} (l : List EdgeT) (hl : l.length < 2 ^ 43) (hc : pureL cap = true) (hf : ∀ x, PCalls P k ([.agg (cEd x)] ++ cap) (fun r => r = .bool (p x))) :
    PCalls P n_slices_ContainsFunc_Edge_Edge [.sl .unk 2 (l.map cEd) [], .fn (.func k) [] cap] (fun r => r = .bool (l.any p)) := by
  refine A_slices_ContainsFunc_Edge_Edge hR ?_
  unfold F_slices_ContainsFunc_Edge_Edge
  simp [st0]
  refine inv_p (IndexFunc hI (first := []) (cap := cap) (p := p) l hl rfl hc (fun x => hf x)) (by simp) (by simp [pureL, pureLL, hc]) ?_
  rintro _ rfl
  have e : l.any p = decide (0 ≤ fIdx p l) := by
    unfold fIdx
    cases h : l.findIdx? p with
    | none => simp [List.findIdx?_eq_none_iff] at h; simpa using h
    | some i =>
      have := List.findIdx?_eq_some_iff_getElem.1 h
      obtain ⟨h1, h2, _⟩ := this
      simp; exact ⟨l[i], List.getElem_mem h1, h2⟩
  simp
  exact GhostV.refl ⟨rfl, by rw [e]; rfl⟩
theorem Bor.preE {st : St} {id ver : Nat} {l : List EdgeT} {rows : List (List V)} (h : st.get id ver = some (.mem 2 rows)) (ht : rows.take l.length = l.map cEd) (hl : l.length ≤ rows.length) : Bor st (.msl id ver 0 l.length) (.sl .unk 2 (l.map cEd) []) :=
  .msl id ver 0 l.length 2 _ _ h (by omega) (by simp) (fun i hi => by rw [getD_map _ _ _ hi]; rfl) (fun i j hi hj => by
    have : rows.getD (0 + i) [] = (l.map cEd).getD i [] := by
      rw [← ht, Nat.zero_add]
      simp [List.getD, List.getElem?_take, hi]
    rw [this]; exact .refl _)
def WalkI' (n : Nat) (L : List (Option (Nat × Obj))) (q : Nat → Prop) (k : Nat) (v : V) (st : St) : Prop := ∃ i nv, k = n - i ∧ i ≤ n ∧ v = .int .i64 ((i : Nat) : Int) ∧ q i ∧ st = ⟨L, nv⟩
def EndI (F : List EdgeT) (O : List Nat) (va : Nat) (k : Nat) (v0 v7 v50 : V) (st : St) : Prop :=
  ∃ i nv G, k = 65 - i ∧ i ≤ 65 ∧ v50 = .int .i64 ((i : Nat) : Int) ∧ wrongS G = 0 ∧ (∀ e ∈ G, e ∈ F) ∧ (onG G).length + i ≤ 64 ∧ v0 = .sl .unk 2 (G.map cEd) [] ∧ v7 = .sl .unk 1 ((onG G).map cN) [] ∧ st = ⟨[some (va, .mem 1 (O.map cN))], nv⟩
def EndJ (F : List EdgeT) (v0 v7 : V) (st : St) : Prop := ∃ L nv G, wrongS G = 0 ∧ onG G = [] ∧ v0 = .sl .unk 2 (G.map cEd) [] ∧ v7 = .sl .unk 1 ((onG G).map cN) [] ∧ st = ⟨L, nv⟩
theorem lEnds (h : LawR P) (hs : EndsR P) (l : List EdgeT) (r : List Nat) :
    PCalls P n_gazetteerlaw16_GraphEnds [.sl .unk 2 (l.map cEd) [], .sl .unk 1 (r.map cN) []] (fun r => r = .bool true) := by
  refine A_gazetteerlaw16_GraphEnds hs.law ?_
  unfold F_gazetteerlaw16_GraphEnds
  obtain ⟨m, hm⟩ : ∃ m, m = min r.length 40 := ⟨_, rfl⟩
  have hm2 : (if (40 : Int) < (r.length : Int) then (40 : Int) else (r.length : Int)) = (m : Int) := by split <;> omega
  have hml : m ≤ r.length := by omega
  have hmm : min m r.length = m := by omega
  simp [st0]
  refine inv_p (wWakes h) (by simp) (by simp [pureL]) ?_
  rintro _ rfl
  simp
  refine inv_p (wFew h l) (by simp) (by simp [pureL, pureLL]) ?_
  rintro _ rfl
  have hF := fewS_len l
  generalize fewS l = F at hF ⊢
  simp
  refine inv_p (PCalls.le slkE (gCheck h.toGrR F (by omega))) rfl (by simp [pureL, pureLL]) ?_
  rintro _ rfl
  by_cases hw : wrongS F = 0
  · have hl64 := wrong_len hw
    have hon := onG_len F
    simp [hw, hm2, hml, hmm]
    have hrl : (r.take m).length = m := by simp; omega
    refine ⟨by omega, WoO 1 F.length cN (fun i => r.take m ++ (F.map (·.f)).take i), ⟨F.length, GhostV.refl ⟨0, 1, 2, r.take m, by simp, by simp, by simp, by simp, by simp [hrl], by simp⟩⟩, ?_⟩
    rintro k1 v1 v33 st ⟨i, va, nv, out, rfl, hi, rfl, hout, rfl, rfl⟩
    simp only at hout
    have hol : out.length ≤ 40 + 64 := by rw [← hout]; simp; omega
    by_cases hlt : i < F.length
    · have hstep : r.take m ++ (F.map (·.f)).take (i + 1) = out ++ [F[i].f] := by rw [take_snoc (show i < (F.map (·.f)).length by simpa using hlt), ← List.append_assoc, hout, List.getElem_map]
      simp [hlt]
      exact ⟨by omega, F.length - (i + 1), by omega, GhostV.keep (L := [_]) ⟨i + 1, nv + 1 + 1, nv + 1 + 1 + 1, out ++ [F[i].f], rfl, by omega, by rw [wadd1 (by omega)], hstep, by simp, by simp⟩⟩
    · rw [show (F.map (·.f)).take i = F.map (·.f) from List.take_of_length_le (by simp; omega)] at hout
      have hord : ∀ e ∈ F, e.f ∈ out := fun e he => by rw [← hout]; exact List.mem_append.2 (.inr (List.mem_map.2 ⟨e, he, rfl⟩))
      simp [hlt]
      refine inv_p (PCalls.le slkE (gOn h.toGrR2 F (by omega))) rfl (by simp [pureL, pureLL]) ?_
      rintro _ rfl
      simp [hw]
      refine ⟨EndJ F, ⟨EndI F out va, ⟨65, GhostV.le (.cons .slk (.refl _)) ⟨0, nv, F, rfl, by decide, rfl, hw, fun e he => he, by omega, rfl, rfl, rfl⟩⟩, ?_⟩, ?_⟩
      · rintro k3 v0 v7 v50 st ⟨i2, nv2, G, rfl, hi2, rfl, hwG, hsub, hlG, rfl, rfl, rfl⟩
        have hG64 := wrong_len hwG
        have hi65 : (i2 : Int) < 65 := by omega
        simp [hi65]
        refine inv_look (gVictim h.toGrR3 G out (by omega) (by omega)) (Bors.cons (.refl _) (Bors.cons (Bor.row (by simp [St.get])) Bors.nil)) (by simp [pureL, pureLL]) ?_
        rintro _ rfl
        refine ⟨rfl, ?_⟩
        rcases vic_on hwG out (fun e he => hord e (hsub e he)) with ⟨h1, h2⟩ | ⟨h1, h2⟩
        · obtain ⟨n, hn⟩ : ∃ n, n = (vicG G out).1 := ⟨_, rfl⟩
          rw [h1, hwG, ← hn]
          rw [← hn] at h2
          have hpos := List.length_pos_of_mem h2
          have hne : ¬ onG G = [] := by intro e; rw [e] at hpos; simp at hpos
          have hw' : wrongS (woS G n) = 0 := wo_wrong hwG
          have hless := wo_less hwG h2
          have hge : ¬ ((onG G).length ≤ (onG (woS G n)).length) := by omega
          simp [hne, hpos]
          refine inv_p (gWithout h.toGrR2 G n (by omega) hwG) rfl (by simp [pureL, pureLL]) ?_
          rintro _ rfl
          simp
          refine inv_p (gOn h.toGrR2 (woS G n) (by have := List.length_filter_le (fun e : EdgeT => e.f != n && e.t != n) G; unfold woS; omega)) rfl (by simp [pureL, pureLL]) ?_
          rintro _ rfl
          simp [hw', hge]
          refine inv_p (sContains hs.toSlR (onG G) n (by have := onG_len G; omega)) rfl (by simp [pureL, pureLL]) ?_
          rintro _ rfl
          simp [h2]
          refine ⟨WalkI' (onG (woS G n)).length [some (va, .mem 1 (out.map cN))] (fun _ => True), ⟨(onG (woS G n)).length, GhostV.refl ⟨0, nv2, by simp, by simp, by simp, trivial, rfl⟩⟩, ?_⟩
          rintro k4 v100 st ⟨q, nvq, rfl, hq, rfl, _, rfl⟩
          by_cases hltq : q < (onG (woS G n)).length
          · have hin := (wo_on (n := n) hwG).1 _ (List.getElem_mem hltq)
            simp [hltq]
            refine inv_p (sContains hs.toSlR (onG G) (onG (woS G n))[q] (by have := onG_len G; omega)) rfl (by simp [pureL, pureLL]) ?_
            rintro _ rfl
            simp [hin]
            exact ⟨(onG (woS G n)).length - (q + 1), by omega, GhostV.refl ⟨q + 1, nvq, rfl, by omega, by rw [wadd1 (by have := onG_len G; omega)], trivial, rfl⟩⟩
          · simp [hltq]
            exact ⟨65 - (i2 + 1), by omega, GhostV.refl ⟨i2 + 1, nvq, woS G n, rfl, by omega, by rw [wadd1 (by omega)], hw', fun e he => hsub e (wo_sub e he), by omega, rfl, rfl, rfl⟩⟩
        · rw [h1, hwG]
          simp [h2]
          refine GhostV.refl ?_
          show EndJ F _ _ _
          exact ⟨_, nv2, G, hwG, h2, rfl, by rw [h2]; rfl, rfl⟩
      · rintro v0 v7 st ⟨L, nv2, G, hwG, honG, rfl, rfl, rfl⟩
        by_cases hG : G = []
        · subst hG
          simp [honG]
          exact GhostV.refl ⟨rfl, rfl⟩
        · simp [honG, hG]
          refine ⟨WalkI' G.length L (fun i => ∀ e ∈ G.take i, ∃ x ∈ G, x.f = e.t), ⟨G.length, GhostV.refl ⟨0, nv2, by simp, by simp, by simp, by simp, rfl⟩⟩, ?_⟩
          rintro k5 v st ⟨i5, nv5, rfl, hi5, rfl, hq, rfl⟩
          by_cases hlt5 : i5 < G.length
          · simp [hlt5]
            refine inv_look (ContainsFuncC h.idxf h.conf (k := n_gazetteerlaw16_GraphEnds_1) (cap := [.eptr (cEd G[i5]) 0]) (p := fun x => decide (x.f = G[i5].t)) G (by have := wrong_len hwG; omega) (by simp [pureL]) (fun x => Ends_1 hs G[i5] x)) (Bors.cons (.refl _) (Bors.cons (.fn _ _ _ _ _ rfl rfl (fun i hi => by simp at hi) (fun i hi => ?_)) Bors.nil)) (by simp [pureL, pureLL]) ?_
            · obtain rfl : i = 0 := by simpa using hi
              exact .ptr _ _ 0 0 2 [cEd G[i5]] (cEd G[i5]) (by simp [St.get]) (by simp) rfl (fun j hj => .refl _)
            rintro _ rfl
            refine ⟨rfl, ?_⟩
            by_cases hex : ∃ x ∈ G, x.f = G[i5].t
            · have hany : (G.any fun x => decide (x.f = G[i5].t)) = true := by
                obtain ⟨x, hx, hxe⟩ := hex
                exact List.any_eq_true.2 ⟨x, hx, by simp [hxe]⟩
              rw [hany]
              simp
              refine ⟨G.length - (i5 + 1), by omega, GhostV.keep ⟨i5 + 1, nv5 + 1, rfl, by omega, by rw [wadd1 (by have := wrong_len hwG; omega)], ?_, rfl⟩⟩
              intro e he
              rw [take_snoc hlt5, List.mem_append] at he
              rcases he with he | he
              · exact hq e he
              · rw [List.mem_singleton.1 he]; exact hex
            · have hany : (G.any fun x => decide (x.f = G[i5].t)) = false := by
                rw [List.any_eq_false]
                intro x hx
                simp
                exact fun hxe => hex ⟨x, hx, hxe⟩
              rw [hany]
              simp
              exact GhostV.refl ⟨rfl, rfl⟩
          · rw [List.take_of_length_le (by omega)] at hq
            exfalso
            obtain ⟨e, he⟩ := List.exists_mem_of_ne_nil G hG
            obtain ⟨e', he', hno⟩ := sink hwG honG _ e he (Nat.le_refl _)
            obtain ⟨x, hx, hxe⟩ := hq e' he'
            exact hno x hx hxe
  · simp [hw]
    exact GhostV.refl ⟨rfl, rfl⟩
end Go.Proofs.Ythoaclojobgelaa.AM
