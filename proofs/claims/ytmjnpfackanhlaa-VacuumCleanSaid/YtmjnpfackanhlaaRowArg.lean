/- Arguments that are rows of structs with rows in them. -/
import Derived.Test.YtmjnpfackanhlaaVGlue
namespace Go.Proofs.Ytmjnpfackanhlaa.AM
open Go Go.RowKit
set_option linter.unusedVariables false
theorem okCs_cons {k : AK} {ks : List AK} {cs : List Value} (h : okCs (k :: ks) cs) : ∃ c cs', cs = c :: cs' ∧ k.ok c ∧ okCs ks cs' := by
 cases cs with
 | nil => exact h.elim
 | cons c cs => exact ⟨c, cs, rfl, h.1, h.2⟩
theorem okCs_nil {cs : List Value} (h : okCs [] cs) : cs = [] := by
 cases cs with
 | nil => rfl
 | cons c cs => exact h.elim
theorem slice_one {g : G} {k : SK} {sz : Nat} {es sp : List (List V)} {v : Value} (h : VRel g (.sl k sz es sp) v) : v.oneCell' = true := by
 cases h <;> rfl
section
variable {H : Type} {enc : TypeId × Value → H} {P : Program} {w : World} {base : Nat} {spare : Nat → Bool} {held : Bool}
theorem add_zero_a (a : Addr) : a.add 0 = a := by simp [Addr.add]
theorem spot_read {a : Addr} {n : Nat} {cs : List Value} (h : w.cells? base a n = some cs) (h0 : 0 < n) : a.spot = none := by
 obtain ⟨h1, h2⟩ := cells_get h
 have := h2 0 h0
 have hl : 0 < cs.length := by omega
 rw [List.getElem?_eq_getElem hl] at this
 rw [add_zero_a] at this
 exact World.cell?_spot this
theorem slice_rel0 {t e : TypeId} {ks : List AK} {d fuel : Nat} {v : Value} {y : DataW H × List MemPlace} (ht : P.underlying t = some (.slice e)) (hk : kindsOf P d e = some ks) (hc : P.cellsOf e = ks.length) (h0 : 0 < ks.length)
  (hy : DataW.trod enc P w base spare held fuel t [v] = some y) :
  ∃ rows, VRel (G.all w) (.sl .unk ks.length rows []) v ∧ RowsOk ks rows := by
 rcases DataW.trod_slice ht hy with ⟨h, _⟩ | ⟨a, len, cap, elems, rest, n, _, h, _, _, hl, hm, hlen, hel, _, _⟩
 ·simp only [List.cons.injEq, and_true] at h; subst h
  exact ⟨[], .snil _ _ (.inr rfl), by intro r hr; cases hr⟩
 ·simp only [List.cons.injEq, and_true] at h; subst h
  by_cases hz : len = 0
  ·subst hz
   exact ⟨[], .semp .unk _ a cap (by simp) (by simp), by intro r hr; cases hr⟩
  ·obtain ⟨rows, h1, h2, _⟩ := slice_rel ht hk hc h0 hy (fun a' l c hv => by
    cases hv
    have := hel 0 (by omega)
    have hi' : 0 < elems.length := by omega
    rw [List.getElem?_eq_getElem hi', Option.bind_eq_some_iff] at this
    obtain ⟨cs, h3, _⟩ := this
    rw [Nat.zero_mul, add_zero_a] at h3
    exact spot_read h3 (by omega))
   exact ⟨rows, h1, h2⟩
theorem slice_relK {α : Type} {en : α → List V} {Q : α → Prop} {sz : Nat} {t e : TypeId} {fuel : Nat} {v : Value} {y : DataW H × List MemPlace} (ht : P.underlying t = some (.slice e)) (hc : P.cellsOf e = sz) (h0 : 0 < sz) (hln : ∀ x, (en x).length = sz)
    (hE : ∀ n cs y, cs.length = sz → DataW.trod enc P w base spare held n e cs = some y → ∃ x : α, Q x ∧ ∀ j, j < sz → VRel (G.all w) ((en x).getD j .junk) (cs.getD j undef) ∧ (cs.getD j undef).oneCell' = true)
    (hy : DataW.trod enc P w base spare held fuel t [v] = some y) : ∃ l : List α, VRel (G.all w) (.sl .unk sz (l.map en) []) v ∧ ∀ x ∈ l, Q x := by
  rcases DataW.trod_slice ht hy with ⟨h, _⟩ | ⟨a, len, cap, elems, rest, n, _, h, _, _, hl, hm, hlen, hel, _, _⟩
  · simp only [List.cons.injEq, and_true] at h; subst h
    exact ⟨[], .snil _ _ (.inr rfl), by intro x hx; cases hx⟩
  · simp only [List.cons.injEq, and_true] at h; subst h
    by_cases hz : len = 0
    · subst hz
      exact ⟨[], .semp .unk _ a cap (by simp) (by simp), by intro x hx; cases hx⟩
    · have hall : ∀ i : Fin len, ∃ q : List Value × α, Q q.2 ∧ (∀ j, j < sz → w.cell? ((a.add (i.1 * sz)).add j) = some (q.1.getD j undef)) ∧ ∀ j, j < sz → VRel (G.all w) ((en q.2).getD j .junk) (q.1.getD j undef) ∧ (q.1.getD j undef).oneCell' = true := by
        intro ⟨i, hi⟩
        have := hel i hi
        have hi' : i < elems.length := by omega
        rw [List.getElem?_eq_getElem hi', Option.bind_eq_some_iff, hc] at this
        obtain ⟨cs, h1, h2⟩ := this
        obtain ⟨h3, h4⟩ := cells_get h1
        obtain ⟨x, hq, hx⟩ := hE n cs _ h3 h2
        refine ⟨(cs, x), hq, fun j hj => ?_, hx⟩
        rw [h4 j hj]
        simp [List.getD, h3, hj]
      obtain ⟨f, hf⟩ := Classical.axiomOfChoice hall
      have hsp : a.spot = none := by
        have := (hf ⟨0, by omega⟩).2.1 0 h0
        rw [show ((⟨0, by omega⟩ : Fin len).1 * sz) = 0 from Nat.zero_mul _, add_zero_a, add_zero_a] at this
        exact World.cell?_spot this
      obtain ⟨b, o, s⟩ := a
      simp only at hsp; subst hsp
      have hget : ∀ i (hi : i < len), (((List.ofFn f).map (·.2)).map en).getD i [] = en (f ⟨i, hi⟩).2 := by
        intro i hi
        simp [List.getD, hi]
      refine ⟨(List.ofFn f).map (·.2), ?_, ?_⟩
      · have := VRel.sl (g := G.all w) .unk sz (((List.ofFn f).map (·.2)).map en) [] b o cap (fun i j => if h : i < len then ((f ⟨i, h⟩).1.getD j undef) else undef) (by simp) (by simp) h0 (by simpa using hl)
          (fun i hi => by
            have hi : i < len := by simpa using hi
            rw [List.append_nil, hget i hi, hln])
          (fun i j hi hj => by
            have hi : i < len := by simpa using hi
            have h1 := (hf ⟨i, hi⟩).2.1 j hj
            rw [add_none, add_none] at h1
            simp only [hi, dite_true]
            exact G.all_imm h1 ((hf ⟨i, hi⟩).2.2 j hj).2)
          (fun i j hi hj => by
            have hi : i < len := by simpa using hi
            rw [List.append_nil, hget i hi]
            simp only [hi, dite_true]
            exact ((hf ⟨i, hi⟩).2.2 j hj).1)
        simpa using this
      · intro x hx
        simp only [List.mem_map] at hx
        obtain ⟨q, hq, rfl⟩ := hx
        rw [List.mem_ofFn] at hq
        obtain ⟨i, rfl⟩ := hq
        exact (hf i).1
end
end Go.Proofs.Ytmjnpfackanhlaa.AM
