/- The abstract layer: the next of a map. -/
import Derived.Test.YtmjnpfackanhlaaAmWp
import Derived.Maps.RangeRun
namespace Go.Proofs.Ytmjnpfackanhlaa.AM
open Go Go.RowKit
set_option linter.unusedSimpArgs false
set_option linter.unusedVariables false
variable {P : Program} {g : G} {st : St} {w : World}

theorem next_ok (hs : Sim P g st w) {ty : Nat} {id ver mid mver ep : Nat} {seen : List Nat} {es : List (V × V)} (ho : st.get id ver = some (.iter mid mver ep seen)) (hom : st.get mid mver = some (.map ep es)) {x : Value} (hX : VRel g (.it id ver) x) {K : V → St → Prop}
    (k1 : (∀ i, i < es.length → i ∈ seen) → K (.tup [.bool false]) st)
    (k2 : ∀ i, i < es.length → i ∉ seen → K (.tup [.bool true, (es.getD i (.junk, .junk)).1, (es.getD i (.junk, .junk)).2]) (st.set id ver (.iter mid mver ep (i :: seen)))) :
    ∃ v st', K v st' ∧ Done P g st' v ((Instr.next x false ty).run P w) := by
  have hobj := get_objs ho
  obtain ⟨L, hL, hi⟩ := hs.obj _ _ _ hobj
  cases hX with
  | iter _ _ b L' hL' hb =>
    cases hL.symm.trans hL'
    obtain ⟨b', m, LM, hb', hLM, hep, hm, hcell, hseen⟩ := hi
    rw [hb] at hb'; cases hb'
    obtain ⟨LM', hLM', hmr⟩ := hs.obj _ _ _ (get_objs hom)
    cases hLM.symm.trans hLM'
    obtain ⟨ms, clk, hmap, hent, hsz, q1, hbl, hnd, hlt, hclk, hr⟩ := ents_of hmr hm
    rw [hclk] at hcell
    have born_mem : ∀ i, i < es.length → ∀ e, ms[i]? = some e → (g.born ep)[i]? = some e.born := by
      intro i hi e he
      obtain ⟨e', a1, _, _, a4⟩ := hr i hi
      rw [he] at a1; cases a1; exact a4
    have hold : ∀ y ∈ ms.toList, y.born < clk := by
      intro y hy
      obtain ⟨i, hi, rfl⟩ := List.getElem_of_mem hy
      have hi' : i < ms.size := by simpa using hi
      have := born_mem i (by omega) _ (Array.getElem?_eq_getElem hi')
      exact hlt _ (List.mem_of_getElem? (by simpa using this))
    have hin : ∀ i, i < es.length → ∀ e, ms[i]? = some e → (((seen.reverse.map fun i => (g.born ep).getD i 0).toArray).contains e.born = true ↔ i ∈ seen) := by
      intro i hi e he
      have hb1 := born_mem i hi e he
      simp only [List.contains_toArray, List.contains_eq_mem, decide_eq_true_eq, List.mem_map, List.mem_reverse]
      constructor
      · rintro ⟨j, hj, hje⟩
        have hjl := hseen j hj
        have : (g.born ep)[j]? = (g.born ep)[i]? := by rw [hb1, ← hje] <;> simp [List.getD, hjl]
        have := (List.getElem?_inj hjl hnd).1 this
        exact this ▸ hj
      · intro h
        exact ⟨i, h, by simp [List.getD, hb1]⟩
    rcases run_next_at (P := P) w ty b m clk clk _ ms clk hcell hmap hold (Nat.le_refl _) with ⟨h0, hrun⟩ | ⟨e, he, w1, hw1, hrun⟩
    · refine ⟨_, _, k1 (fun i hi => ?_), _, w, g, hrun, .refl g, rfl, hs, .tup _ _ rfl (fun i hi => ?_)⟩
      · have hi' : i < ms.size := by omega
        refine (hin i hi ms[i] (Array.getElem?_eq_getElem hi')).1 ?_
        refine Classical.byContradiction fun hc => ?_
        have : ms[i] ∈ leftOf ms (seen.reverse.map fun i => (g.born ep).getD i 0).toArray := by
          unfold leftOf; simp only [Array.mem_filter]; exact ⟨Array.getElem_mem hi', by simpa using hc⟩
        rw [Array.eq_empty_of_size_eq_zero h0] at this; exact absurd this (by simp)
      · match i, hi with
        | 0, _ => exact .bool _
    · have he' : e ∈ ms ∧ ((seen.reverse.map fun i => (g.born ep).getD i 0).toArray).contains e.born = false := by
        unfold leftOf at he
        simpa using he
      obtain ⟨hem, hec⟩ := he'
      obtain ⟨i, hi, rfl⟩ := Array.getElem_of_mem hem
      have hi' : i < es.length := by omega
      obtain ⟨e1, a1, a2, a3, a4⟩ := hr i hi'
      rw [Array.getElem?_eq_getElem hi] at a1; cases a1
      have hns : i ∉ seen := fun h => by rw [(hin i hi' _ (Array.getElem?_eq_getElem hi)).2 h] at hec; cases hec
      have hs1 : Sim P g st w1 := by rcases hw1 with rfl | rfl; exact hs; exact hs.drew _
      have hh : w1.heap = w.heap := by rcases hw1 with rfl | rfl <;> rfl
      refine ⟨_, _, k2 i hi' hns, _, _, g, hrun, .refl g, rfl, ?_, ?_⟩
      · have := hs1.turn (g' := g) (ver' := ver) (o' := .iter mid mver ep (i :: seen)) (L' := L) hobj hL (.refl g) rfl rfl rfl rfl hs.fresh (w' := Go.ChangeMaps.setBlock w1 b (.mapIter (some m) clk (((seen.reverse.map fun i => (g.born ep).getD i 0).toArray).push ms[i].born) clk)) (turn_setObj hb _) hL (fun b hb => .inl hb)
          ⟨b, m, LM, hb, hLM, hep, hm, by
            have hlt : b < w1.heap.size := by rw [hh]; exact (Array.getElem?_eq_some_iff.1 hcell).1
            simp [Go.ChangeMaps.setBlock, hlt, hclk, List.getD, a4], by
            intro j hj
            rcases List.mem_cons.1 hj with rfl | hj
            · omega
            · exact hseen j hj⟩
        rw [hs.nv.symm] at this
        exact this
      · exact .tup _ _ rfl (fun j hj => by
          match j, hj with
          | 0, _ => exact .bool _
          | 1, _ => exact a2
          | 2, _ => exact a3)

end Go.Proofs.Ytmjnpfackanhlaa.AM
