/- The statements' functions, walked. -/
import Derived.Test.YthoaclojobgelaaGL
namespace Go.Proofs.Ythoaclojobgelaa.AM
open Go
set_option linter.unusedVariables false
set_option linter.unusedSimpArgs false
variable {P : Program}

def firstL : List EdgeT := [⟨1, 2⟩, ⟨2, 3⟩, ⟨3, 1⟩, ⟨3, 4⟩, ⟨5, 5⟩]
theorem first_wrong : wrongS firstL = 0 := by decide +kernel
theorem first_reach2 : reachS firstL 2 = [1, 2, 3, 4] := by decide +kernel
theorem first_reach3 : reachS firstL 3 = [1, 2, 3, 4] := by decide +kernel
theorem first_circ : circS firstL 3 = [3, 1, 2] := by decide +kernel
theorem first_vic : vicS (fun x => decide (x ∈ onS firstL)) [2, 1, 4] = (1, true) := by decide +kernel

theorem Bor.row {st : St} {id ver : Nat} {l : List Nat} (h : st.get id ver = some (.mem 1 (l.map cN))) : Bor st (.msl id ver 0 l.length) (.sl .unk 1 (l.map cN) []) :=
  .msl id ver 0 l.length 1 _ _ h (by simp) (by simp) (fun i hi => by rw [getD_map _ _ _ hi]; rfl) (fun i j hi hj => by rw [Nat.zero_add]; exact .refl _)
structure LawR (P : Program) : Prop extends GrR4 P, RefR2 P where
  wfirst : R_gazetteerlaw16_first P
  wfew : R_gazetteerlaw16_few P
  wwhole : R_gazetteerlaw16_whole P
  wwakes : R_gazetteerlaw16_wakes P
theorem wFirst (h : LawR P) : PCalls P n_gazetteerlaw16_first [] (fun r => r = .sl .unk 2 (firstL.map cEd) []) := by
  refine A_gazetteerlaw16_first h.wfirst ?_
  unfold F_gazetteerlaw16_first
  simp [st0]
  exact GhostV.row1 (st := ⟨_, _⟩) (sz := 2) (es := firstL.map cEd) (by simp [St.get, firstL]) (by simp [firstL]) ⟨by simp [pureL, pureLL, firstL], by simp [firstL]⟩
theorem wWakes (h : LawR P) : PCalls P n_gazetteerlaw16_wakes [] (fun r => r = .bool true) := by
  refine A_gazetteerlaw16_wakes h.wwakes ?_
  unfold F_gazetteerlaw16_wakes
  simp [st0]
  refine inv_p (wFirst h) (by simp) (by simp [pureL, pureLL]) ?_
  rintro _ rfl
  simp
  refine inv_p (gReach h.toGrR2 firstL 2 (by decide)) (by simp) (by simp [pureL, pureLL]) ?_
  rintro _ rfl
  rw [reach_law first_wrong, first_reach2, first_wrong]
  simp
  refine inv_p (wFirst h) (by simp) (by simp [pureL, pureLL]) ?_
  rintro _ rfl
  simp
  refine inv_p (gCircle h.toGrR4 firstL 3 (by decide)) (by simp) (by simp [pureL, pureLL]) ?_
  rintro _ rfl
  rw [circ_law first_wrong (by rw [first_reach3]; decide), first_circ, circE_law first_wrong, if_pos (by rw [first_reach3]; decide)]
  simp
  refine inv_p (wFirst h) (by simp) (by simp [pureL, pureLL]) ?_
  rintro _ rfl
  simp
  refine inv_look (gVictim h.toGrR3 firstL [2, 1, 4] (by decide) (by decide)) (Bors.cons (.refl _) (Bors.cons (Bor.row (l := [2, 1, 4]) (by simp [St.get])) Bors.nil)) (by simp [pureL, pureLL]) ?_
  rintro _ rfl
  refine ⟨rfl, ?_⟩
  rw [vic_law first_wrong, first_vic, first_wrong]
  simp
  refine inv_look (rSame h.toRefR [1, 2, 3, 4] [1, 2, 3, 4] (by decide)) (Bors.cons (.refl _) (Bors.cons (Bor.row (l := [1, 2, 3, 4]) (by simp [St.get])) Bors.nil)) (by simp [pureL, pureLL]) ?_
  rintro _ rfl
  refine ⟨rfl, ?_⟩
  simp
  refine inv_look (rSame h.toRefR [3, 1, 2] [3, 1, 2] (by decide)) (Bors.cons (.refl _) (Bors.cons (Bor.row (l := [3, 1, 2]) (by simp [St.get])) Bors.nil)) (by simp [pureL, pureLL]) ?_
  rintro _ rfl
  refine ⟨rfl, ?_⟩
  simp
  exact GhostV.refl ⟨rfl, rfl⟩

/-- A row is written no more; what room is behind it is known. -/
theorem GhostV.rows1 {st : St} {K : List V → St → Prop} {id ver sz off len : Nat} {es : List (List V)} (ho : st.get id ver = some (.mem sz es)) (h : off + len ≤ es.length)
    (hk : K [.sl .unk sz ((es.drop off).take len) ((es.drop off).drop len)] ⟨[], st.nv⟩) : GhostV [.msl id ver off len] st K := GhostV.frozen1 ho h hk
def fewS (l : List EdgeT) : List EdgeT := l.take 65
theorem fewS_len (l : List EdgeT) : (fewS l).length ≤ 65 := by simp [fewS]; omega
abbrev roomE : List (List V) := [cEd ⟨77, 78⟩, cEd ⟨0, 0⟩]
theorem wFew (h : LawR P) (l : List EdgeT) : PCalls P n_gazetteerlaw16_few [.sl .unk 2 (l.map cEd) []] (fun r => r = .sl .unk 2 ((fewS l).map cEd) roomE) := by
  refine A_gazetteerlaw16_few h.wfew ?_
  unfold F_gazetteerlaw16_few
  obtain ⟨n, hn⟩ : ∃ n, n = min l.length 65 := ⟨_, rfl⟩
  have hn2 : (if (65 : Int) < (l.length : Int) then (65 : Int) else (l.length : Int)) = (n : Int) := by split <;> omega
  have hnl : n ≤ l.length := by omega
  have hmn : min n l.length = n := by omega
  have hw : IntKind.i64.wrap ((n : Int) + 2) = ((n + 2 : Nat) : Int) := by rw [wrap_i64 (by omega)]; omega
  have t1 : ((n : Int) + 2).toNat = n + 2 := by omega
  have t0 : ¬ ((n : Int) + 2 ≤ 0) := by omega
  have t2 : n + 2 - n = 2 := by omega
  have hfl : (fewS l).length = n := by simp [fewS]; omega
  have hfe : List.take n (l.map cEd) = (fewS l).map cEd := by
    unfold fewS
    by_cases h65 : l.length ≤ 65
    · rw [List.take_of_length_le (by simp; omega), List.take_of_length_le h65]
    · rw [show n = 65 by omega, List.map_take]
  have hfe2 : ((fewS l).map cEd).length = n := by simp [hfl]
  simp [st0, hn2, hw, hnl, hmn, t0, t1, t2, show ∀ x : List V, List.replicate 2 x = [x, x] from fun _ => rfl]
  rw [hfe]
  have hdr : List.drop (n + 1) ((fewS l).map cEd ++ [[.int .u64 0, .int .u64 0], [.int .u64 0, .int .u64 0]]) = [[V.int .u64 0, V.int .u64 0]] := by
    rw [List.drop_append, List.drop_eq_nil_of_le (by omega), hfe2, show n + 1 - n = 1 by omega]; rfl
  rw [hdr]
  refine ⟨⟨by omega, by omega⟩, by omega, by omega, by omega, GhostV.rows1 (sz := 2) (es := (fewS l).map cEd ++ roomE) (by simp [St.get]) (by simp [hfl]) ?_⟩
  have h1 : ((fewS l).map cEd ++ roomE).take n = (fewS l).map cEd := by rw [← hfe2]; simp
  have h2 : ((fewS l).map cEd ++ roomE).drop n = roomE := by rw [← hfe2]; simp
  rw [List.drop_zero, h1, h2]
  exact ⟨by simp [pureL, pureLL], by simp⟩
theorem wWhole (h : LawR P) (l : List EdgeT) (hl : l.length ≤ 100) : PCalls P n_gazetteerlaw16_whole [.sl .unk 2 (l.map cEd) roomE, .sl .unk 2 (l.map cEd) []] (fun r => r = .bool true) := by
  refine A_gazetteerlaw16_whole h.wwhole ?_
  unfold F_gazetteerlaw16_whole
  simp [st0]
  refine inv_p (PCalls.le (.cons .slk (.refl _)) (rSameE h.toRefR l l (by omega))) rfl (by simp [pureL, pureLL]) ?_
  rintro _ rfl
  simp [wadd1 (show l.length < 2 ^ 62 by omega)]
  exact ⟨by omega, by omega, GhostV.refl ⟨rfl, rfl⟩⟩
end Go.Proofs.Ythoaclojobgelaa.AM

namespace Go.Proofs.Ythoaclojobgelaa.AM
open Go
set_option linter.unusedVariables false
set_option linter.unusedSimpArgs false
variable {P : Program}

theorem slkE {X sp : List (List V)} {vs : List V} {sz : Nat} : LeVs (.sl .unk sz X sp :: vs) (.sl .unk sz X [] :: vs) := .cons .slk (.refl _)
theorem onG_wrong {l : List EdgeT} (h : wrongS l ≠ 0) : onG l = [] := by simp [onG, h]
theorem reachG_wrong {l : List EdgeT} (h : wrongS l ≠ 0) (n : Nat) : reachG l n = [] := by simp [reachG, h]
theorem circG_wrong {l : List EdgeT} (h : wrongS l ≠ 0) (n : Nat) : circG l n = [] := by simp [circG, h]
theorem circE_wrong {l : List EdgeT} (h : wrongS l ≠ 0) (n : Nat) : circE l n = wrongS l := by simp [circE, h]
theorem onG_len (l : List EdgeT) : (onG l).length ≤ l.length := by unfold onG; split; (rw [sortL_len]; exact onK_len l); simp
theorem reachG_len (l : List EdgeT) (n : Nat) : (reachG l n).length ≤ l.length := by unfold reachG; split; (rw [sortL_len]; exact (farF_out l n).len); simp

theorem lReaches (h : LawR P) (hR : R_gazetteerlaw16_GraphReaches P) (l : List EdgeT) (r : List Nat) :
    PCalls P n_gazetteerlaw16_GraphReaches [.sl .unk 2 (l.map cEd) [], .sl .unk 1 (r.map cN) []] (fun r => r = .bool true) := by
  refine A_gazetteerlaw16_GraphReaches hR ?_
  unfold F_gazetteerlaw16_GraphReaches
  simp [st0]
  refine inv_p (wWakes h) (by simp) (by simp [pureL]) ?_
  rintro _ rfl
  simp
  refine inv_p (wFew h l) (by simp) (by simp [pureL, pureLL]) ?_
  rintro _ rfl
  simp
  refine inv_p (wFew h l) (by simp) (by simp [pureL, pureLL]) ?_
  rintro _ rfl
  have hF := fewS_len l
  generalize fewS l = F at hF ⊢
  simp
  refine inv_p (PCalls.le slkE (rWrong h.toRefR F (by omega))) rfl (by simp [pureL, pureLL]) ?_
  rintro _ rfl
  simp
  refine inv_p (PCalls.le slkE (gOn h.toGrR2 F (by omega))) rfl (by simp [pureL, pureLL]) ?_
  rintro _ rfl
  simp
  refine inv_p (PCalls.le slkE (gCheck h.toGrR F (by omega))) rfl (by simp [pureL, pureLL]) ?_
  rintro _ rfl
  have hon := onG_len F
  by_cases hw : wrongS F = 0
  · simp [hw]
    refine inv_p (PCalls.le slkE (rOn h.toRefR2 F (by omega))) rfl (by simp [pureL, pureLL]) ?_
    rintro _ rfl
    simp
    refine inv_p (rSame h.toRefR (onG F) (onS F) (by omega)) rfl (by simp [pureL, pureLL]) ?_
    rintro _ rfl
    simp [on_law hw]
    refine ⟨WalkI r.length (fun i => i ≤ 10), ⟨r.length, GhostV.refl ⟨0, 0, by simp, by simp, by simp, by decide, rfl⟩⟩, ?_⟩
    rintro k1 v st ⟨i, nv, rfl, hi, rfl, hmax, rfl⟩
    by_cases hlt : i < r.length
    · simp [hlt]
      by_cases h10 : i = 10
      · subst h10
        simp
        refine inv_p (PCalls.le (.cons (.refl _) (.cons .slk .nil)) (wWhole h F (by omega))) rfl (by simp [pureL, pureLL]) ?_
        rintro _ rfl
        exact GhostV.refl ⟨rfl, rfl⟩
      · have h10' : ¬ ((i : Int) = 10) := by omega
        simp [h10']
        refine inv_p (PCalls.le slkE (gReach h.toGrR2 F r[i] (by omega))) rfl (by simp [pureL, pureLL]) ?_
        rintro _ rfl
        simp [hw]
        refine inv_p (PCalls.le slkE (rReach h.toRefR2 F r[i] (by omega))) rfl (by simp [pureL, pureLL]) ?_
        rintro _ rfl
        simp
        refine inv_p (rSame h.toRefR (reachG F r[i]) (reachS F r[i]) (by have := reachG_len F r[i]; omega)) rfl (by simp [pureL, pureLL]) ?_
        rintro _ rfl
        simp [reach_law hw]
        exact ⟨r.length - (i + 1), by omega, GhostV.refl ⟨i + 1, nv, rfl, by omega, by rw [wadd1 (by omega)], show i + 1 ≤ 10 by omega, rfl⟩⟩
    · simp [hlt]
      refine inv_p (PCalls.le (.cons (.refl _) (.cons .slk .nil)) (wWhole h F (by omega))) rfl (by simp [pureL, pureLL]) ?_
      rintro _ rfl
      exact GhostV.refl ⟨rfl, rfl⟩
  · simp [hw, onG_wrong hw]
    refine ⟨WalkI r.length (fun i => i ≤ 10), ⟨r.length, GhostV.refl ⟨0, 0, by simp, by simp, by simp, by decide, rfl⟩⟩, ?_⟩
    rintro k1 v st ⟨i, nv, rfl, hi, rfl, hmax, rfl⟩
    by_cases hlt : i < r.length
    · simp [hlt]
      by_cases h10 : i = 10
      · subst h10
        simp
        refine inv_p (PCalls.le (.cons (.refl _) (.cons .slk .nil)) (wWhole h F (by omega))) rfl (by simp [pureL, pureLL]) ?_
        rintro _ rfl
        exact GhostV.refl ⟨rfl, rfl⟩
      · have h10' : ¬ ((i : Int) = 10) := by omega
        simp [h10']
        refine inv_p (PCalls.le slkE (gReach h.toGrR2 F r[i] (by omega))) rfl (by simp [pureL, pureLL]) ?_
        rintro _ rfl
        simp [hw, reachG_wrong hw]
        exact ⟨r.length - (i + 1), by omega, GhostV.refl ⟨i + 1, nv, rfl, by omega, by rw [wadd1 (by omega)], show i + 1 ≤ 10 by omega, rfl⟩⟩
    · simp [hlt]
      refine inv_p (PCalls.le (.cons (.refl _) (.cons .slk .nil)) (wWhole h F (by omega))) rfl (by simp [pureL, pureLL]) ?_
      rintro _ rfl
      exact GhostV.refl ⟨rfl, rfl⟩
theorem circLp_len (l : List EdgeT) (n : Nat) : ∀ s a, (circLp l n s a).length = s
  | 0, a => rfl
  | s + 1, a => by simp [circLp, circLp_len l n s]
theorem circG_len (l : List EdgeT) (n : Nat) : (circG l n).length ≤ 100 := by
  unfold circG; split
  · rename_i hc
    have := farF_d l n n hc.2
    simp only [circO, List.length_cons, circLp_len]; omega
  · simp
theorem lCircles (h : LawR P) (hR : R_gazetteerlaw16_GraphCircles P) (l : List EdgeT) (r : List Nat) :
    PCalls P n_gazetteerlaw16_GraphCircles [.sl .unk 2 (l.map cEd) [], .sl .unk 1 (r.map cN) []] (fun r => r = .bool true) := by
  refine A_gazetteerlaw16_GraphCircles hR ?_
  unfold F_gazetteerlaw16_GraphCircles
  simp [st0]
  refine inv_p (wWakes h) (by simp) (by simp [pureL]) ?_
  rintro _ rfl
  simp
  refine inv_p (wFew h l) (by simp) (by simp [pureL, pureLL]) ?_
  rintro _ rfl
  simp
  refine inv_p (wFew h l) (by simp) (by simp [pureL, pureLL]) ?_
  rintro _ rfl
  have hF := fewS_len l
  generalize fewS l = F at hF ⊢
  simp
  refine inv_p (PCalls.le slkE (rWrong h.toRefR F (by omega))) rfl (by simp [pureL, pureLL]) ?_
  rintro _ rfl
  simp
  refine ⟨WalkI r.length (fun i => i ≤ 8), ⟨r.length, GhostV.refl ⟨0, 0, by simp, by simp, by simp, by decide, rfl⟩⟩, ?_⟩
  rintro k1 v st ⟨i, nv, rfl, hi, rfl, hmax, rfl⟩
  by_cases hlt : i < r.length
  · simp [hlt]
    by_cases h8 : i = 8
    · subst h8
      simp
      refine inv_p (PCalls.le (.cons (.refl _) (.cons .slk .nil)) (wWhole h F (by omega))) rfl (by simp [pureL, pureLL]) ?_
      rintro _ rfl
      exact GhostV.refl ⟨rfl, rfl⟩
    · have h8' : ¬ ((i : Int) = 8) := by omega
      simp [h8']
      refine inv_p (PCalls.le slkE (gCircle h.toGrR4 F r[i] (by omega))) rfl (by simp [pureL, pureLL]) ?_
      rintro _ rfl
      by_cases hw : wrongS F = 0
      · simp [hw]
        refine inv_p (PCalls.le slkE (rReach h.toRefR2 F r[i] (by omega))) rfl (by simp [pureL, pureLL]) ?_
        rintro _ rfl
        simp
        refine inv_p (rHas h.toRefR (reachS F r[i]) r[i] (by have := reachS_len F r[i] (by omega); omega)) rfl (by simp [pureL, pureLL]) ?_
        rintro _ rfl
        have hE := circE_law hw r[i]
        by_cases hm : r[i] ∈ reachS F r[i]
        · rw [if_pos hm] at hE
          simp [hm, hE]
          refine inv_p (PCalls.le slkE (rCircle h.toRefR2 F r[i] (by omega))) rfl (by simp [pureL, pureLL]) ?_
          rintro _ rfl
          simp
          refine inv_p (rSame h.toRefR (circG F r[i]) (circS F r[i]) (by have := circG_len F r[i]; omega)) rfl (by simp [pureL, pureLL]) ?_
          rintro _ rfl
          simp [circ_law hw hm]
          exact ⟨r.length - (i + 1), by omega, GhostV.refl ⟨i + 1, nv, rfl, by omega, by rw [wadd1 (by omega)], show i + 1 ≤ 8 by omega, rfl⟩⟩
        · rw [if_neg hm] at hE
          simp [hm, hE, circG_none hw hm]
          exact ⟨r.length - (i + 1), by omega, GhostV.refl ⟨i + 1, nv, rfl, by omega, by rw [wadd1 (by omega)], show i + 1 ≤ 8 by omega, rfl⟩⟩
      · simp [hw, circG_wrong hw, circE_wrong hw]
        exact ⟨r.length - (i + 1), by omega, GhostV.refl ⟨i + 1, nv, rfl, by omega, by rw [wadd1 (by omega)], show i + 1 ≤ 8 by omega, rfl⟩⟩
  · simp [hlt]
    refine inv_p (PCalls.le (.cons (.refl _) (.cons .slk .nil)) (wWhole h F (by omega))) rfl (by simp [pureL, pureLL]) ?_
    rintro _ rfl
    exact GhostV.refl ⟨rfl, rfl⟩
end Go.Proofs.Ythoaclojobgelaa.AM
