/- GraphVictims: the walk. -/
import Derived.Test.YthoaclojobgelaaGH
namespace Go.Proofs.Ythoaclojobgelaa.AM
open Go
set_option linter.unusedVariables false
set_option linter.unusedSimpArgs false
variable {P : Program}

@[simp] def cRow (r : List Nat) : List V := [.sl .unk 1 (r.map cN) []]
theorem p_row : ∀ R : List (List Nat), pureLL (R.map cRow) = true
  | [] => rfl
  | r :: R => by simp only [List.map_cons, pureLL, p_row R, Bool.and_true]; simp [pureL, pureLL]
def VicJ (F : List EdgeT) (O : List Nat) (s : St) (v15 v16 : V) (st : St) : Prop := v15 = .int .u64 (vicG F O).1 ∧ v16 = .bool (vicG F O).2 ∧ st = s
def Vic4 (m : Nat) (L : List (Option (Nat × Obj))) (X : Option (Nat × Obj)) (va : Nat) (k : Nat) (v : V) (st : St) : Prop := ∃ i nv rows, k = m - i ∧ i ≤ m ∧ v = .int .i64 ((i : Nat) : Int) ∧ (m ≤ (rows : List (List V)).length) ∧ (∀ j e, j < m → rows[j]? = some e → e.length = 2) ∧ st = ⟨L ++ [X, some (va, .mem 2 rows)], nv⟩
theorem lVictims (h : LawR P) (hs : SlR P) (hR : R_gazetteerlaw16_GraphVictims P) (l : List EdgeT) (R : List (List Nat)) :
    PCalls P n_gazetteerlaw16_GraphVictims [.sl .unk 2 (l.map cEd) [], .sl .unk 1 (R.map cRow) []] (fun r => r = .bool true) := by
  refine A_gazetteerlaw16_GraphVictims hR ?_
  unfold F_gazetteerlaw16_GraphVictims
  simp [st0]
  refine inv_p (wWakes h) (by simp) (by simp [pureL]) ?_
  rintro _ rfl
  simp
  refine inv_p (wFew h l) (by simp) (by simp [pureL, pureLL]) ?_
  rintro _ rfl
  simp
  refine inv_p (wFew h l) (by simp) (by simp [pureL, pureLL]) ?_
  rintro _ rfl
  have hF := fewS_len l
  generalize fewS l = F at hF ⊢
  simp
  refine inv_p (PCalls.le slkE (rWrong h.toRefR F (by omega))) rfl (by simp [pureL, pureLL]) ?_
  rintro _ rfl
  simp
  refine ⟨WalkI R.length (fun i => i ≤ 8), ⟨R.length, GhostV.refl ⟨0, 0, by simp, by simp, by simp, by decide, rfl⟩⟩, ?_⟩
  rintro k1 v st ⟨i, nv, rfl, hi, rfl, hmax, rfl⟩
  by_cases hlt : i < R.length
  · obtain ⟨r, hr⟩ : ∃ r, r = R[i] := ⟨_, rfl⟩
    simp [hlt, ← hr]
    by_cases h8 : i = 8
    · subst h8
      simp
      refine inv_p (PCalls.le (.cons (.refl _) (.cons .slk .nil)) (wWhole h F (by omega))) rfl (by simp [pureL, pureLL]) ?_
      rintro _ rfl
      exact GhostV.refl ⟨rfl, rfl⟩
    · have h8' : ¬ ((i : Int) = 8) := by omega
      obtain ⟨m, hm⟩ : ∃ m, m = min r.length 40 := ⟨_, rfl⟩
      have hm2 : (if (40 : Int) < (r.length : Int) then (40 : Int) else (r.length : Int)) = (m : Int) := by split <;> omega
      have hml : m ≤ r.length := by omega
      have hmm : min m r.length = m := by omega
      have hrl : (r.take m).length = m := by simp; omega
      have hrm : List.take m (r.map cN) = (r.take m).map cN := by rw [List.map_take]
      simp [h8', hm2, hml, hmm]
      rw [List.take_take, Nat.min_self, hrm]
      generalize r.take m = O at hrl hrm ⊢
      have hol : O.length ≤ 40 := by omega
      rw [← hrl]
      refine ⟨by omega, inv_look (PCalls.le slkE (gVictim h.toGrR3 F O (by omega) (by omega))) (Bors.cons (.refl _) (Bors.cons (Bor.row (by simp [St.get])) Bors.nil)) (by simp [pureL, pureLL]) ?_⟩
      rintro _ rfl
      refine ⟨rfl, ?_⟩
      simp
      refine ⟨VicJ F O ⟨[some (nv + 1, .mem 1 (O.map cN)), some (nv + 1 + 1 + 1, .mem 1 (O.map cN))], nv + 1 + 1 + 1 + 1⟩, ?_, ?_⟩
      · by_cases hw : wrongS F = 0
        · simp [hw]
          refine inv_look (PCalls.le slkE (rVictim h.toRefR2 F O (by omega) (by omega))) (Bors.cons (.refl _) (Bors.cons (Bor.row (by simp [St.get])) Bors.nil)) (by simp [pureL, pureLL]) ?_
          rintro _ rfl
          refine ⟨rfl, ?_⟩
          simp
          refine GhostV.refl ?_
          show VicJ F O _ _ _ _
          exact ⟨by rw [vic_law hw], by rw [vic_law hw], rfl⟩
        · simp [hw]
          refine GhostV.refl ?_
          show VicJ F O _ _ _ _
          exact ⟨by simp [vicG, hw], by simp [vicG, hw], rfl⟩
      · rintro v15 v16 st ⟨rfl, rfl, rfl⟩
        simp
        refine inv_look (rSame h.toRefR O O (by omega)) (Bors.cons (Bor.row (by simp [St.get])) (Bors.cons (Bor.row (by simp [St.get])) Bors.nil)) (by simp [pureL, pureLL]) ?_
        rintro _ rfl
        refine ⟨rfl, ?_⟩
        simp
        refine ⟨WalkI' O.length [some (nv + 1, .mem 1 (O.map cN)), some (nv + 1 + 1 + 1, .mem 1 (O.map cN))] (fun _ => True), ⟨O.length, GhostV.refl ⟨0, _, by simp, by simp, by simp, trivial, rfl⟩⟩, ?_⟩
        rintro k3 v85 st ⟨j, nv3, rfl, hj, rfl, _, rfl⟩
        by_cases hlt3 : j < O.length
        · simp [hlt3]
          refine inv_f0 (ACalls.le (Without_N h.toGrR2 F O[j] (by omega) ?_ ?_) slkE)
          · intro nv4 hc
            by_cases hw : wrongS F = 0
            · have hnil : woS F O[j] = [] := by
                rcases hc with hc | hc
                · exact absurd hw hc
                · exact hc.2
              simp [hw]
              refine inv_p (PCalls.le slkE (rWithout h.toRefR F O[j] (by omega))) rfl (by simp [pureL, pureLL]) ?_
              rintro _ rfl
              rw [hnil]
              simp
              refine inv_p (PCalls.le (LeVs.nilrow (sz := 2)) (rSameE h.toRefR [] [] (by decide))) rfl (by simp [pureL, pureLL]) ?_
              rintro _ rfl
              simp
              refine ⟨WalkI' 0 [some (nv + 1, .mem 1 (O.map cN)), some (nv + 1 + 1 + 1, .mem 1 (O.map cN))] (fun _ => True), ⟨0, GhostV.refl ⟨0, nv4, by simp, by simp, by simp, trivial, rfl⟩⟩, ?_⟩
              rintro k4 v st ⟨q, nv5, rfl, hq, rfl, _, rfl⟩
              obtain rfl : q = 0 := by omega
              simp
              exact ⟨O.length - (j + 1), by omega, GhostV.refl ⟨j + 1, nv5, rfl, by omega, by rw [wadd1 (by omega)], trivial, rfl⟩⟩
            · simp [hw]
              refine ⟨WalkI' 0 [some (nv + 1, .mem 1 (O.map cN)), some (nv + 1 + 1 + 1, .mem 1 (O.map cN))] (fun _ => True), ⟨0, GhostV.refl ⟨0, nv4, by simp, by simp, by simp, trivial, rfl⟩⟩, ?_⟩
              rintro k4 v st ⟨q, nv5, rfl, hq, rfl, _, rfl⟩
              obtain rfl : q = 0 := by omega
              simp
              exact ⟨O.length - (j + 1), by omega, GhostV.refl ⟨j + 1, nv5, rfl, by omega, by rw [wadd1 (by omega)], trivial, rfl⟩⟩
          · intro hw nv4 va X rows ht hle
            simp [hw]
            refine inv_p (PCalls.le slkE (rWithout h.toRefR F O[j] (by omega))) rfl (by simp [pureL, pureLL]) ?_
            rintro _ rfl
            simp
            have hwl : (woS F O[j]).length ≤ 65 := by have := List.length_filter_le (fun e : EdgeT => e.f != O[j] && e.t != O[j]) F; unfold woS; omega
            refine inv_look (rSameE h.toRefR (woS F O[j]) (woS F O[j]) (by omega)) (Bors.cons (Bor.preE (by simp [St.get]) ht hle) (Bors.cons (.refl _) Bors.nil)) (by simp [pureL, pureLL]) ?_
            rintro _ rfl
            refine ⟨rfl, ?_⟩
            simp
            refine ⟨Vic4 (woS F O[j]).length [some (nv + 1, .mem 1 (O.map cN)), some (nv + 1 + 1 + 1, .mem 1 (O.map cN))] X va, ⟨(woS F O[j]).length, GhostV.refl ⟨0, nv4, rows, by simp, by simp, by simp, hle, ?_, rfl⟩⟩, ?_⟩
            · intro q e hq he
              have : (rows.take (woS F O[j]).length)[q]? = some e := by rw [List.getElem?_take, if_pos hq]; exact he
              rw [ht] at this
              obtain ⟨x, _, rfl⟩ := List.mem_map.1 (List.mem_of_getElem? this)
              rfl
            rintro k4 v st ⟨q, nv5, rows, rfl, hq, rfl, hle, htwo, rfl⟩
            by_cases hltq : q < (woS F O[j]).length
            · have hqr : q < rows.length := by omega
              obtain ⟨e, he⟩ : ∃ e, rows[q]? = some e := ⟨rows[q], List.getElem?_eq_getElem hqr⟩
              have he2 := htwo q e hltq he
              simp [hltq, he]
              refine ⟨by omega, (woS F O[j]).length - (q + 1), by omega, GhostV.refl ⟨q + 1, nv5, rows.set q (.int .u64 99 :: e.tail), rfl, by omega, by rw [wadd1 (by have := List.length_filter_le (fun e : EdgeT => e.f != O[j] && e.t != O[j]) F; unfold woS at hltq; omega)], by simpa using hle, ?_, rfl⟩⟩
              intro q2 e2 hq2 he2'
              by_cases hqq : q = q2
              · subst hqq
                rw [List.getElem?_set_self hqr] at he2'
                simp only [Option.some.injEq] at he2'
                subst he2'
                simp; omega
              · rw [List.getElem?_set_ne hqq] at he2'
                exact htwo q2 e2 hq2 he2'
            · simp [hltq]
              exact ⟨O.length - (j + 1), by omega, GhostV.keep (L := [_, _]) ⟨j + 1, nv5, rfl, by omega, by rw [wadd1 (by omega)], trivial, rfl⟩⟩
        · simp [hlt3]
          exact ⟨R.length - (i + 1), by omega, GhostV.bare ⟨i + 1, _, rfl, by omega, by rw [wadd1 (by omega)], show i + 1 ≤ 8 by omega, rfl⟩⟩
  · simp [hlt]
    refine inv_p (PCalls.le (.cons (.refl _) (.cons .slk .nil)) (wWhole h F (by omega))) rfl (by simp [pureL, pureLL]) ?_
    rintro _ rfl
    exact GhostV.refl ⟨rfl, rfl⟩
end Go.Proofs.Ythoaclojobgelaa.AM
