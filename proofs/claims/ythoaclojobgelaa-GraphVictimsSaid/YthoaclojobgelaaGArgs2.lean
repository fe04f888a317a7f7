/- Arguments that are rows of rows. -/
import Derived.Test.YthoaclojobgelaaGHR
import Derived.Test.YthoaclojobgelaaGV
namespace Go.Proofs.Ythoaclojobgelaa.AM
open Go Go.RowKit
set_option linter.unusedVariables false
section
variable {H : Type} {enc : TypeId × Value → H} {P : Program} {w : World} {base : Nat} {spare : Nat → Bool} {held : Bool}
theorem add_zero_a (a : Addr) : a.add 0 = a := by simp [Addr.add]
theorem spot_read {a : Addr} {n : Nat} {cs : List Value} (h : w.cells? base a n = some cs) (h0 : 0 < n) : a.spot = none := by
  obtain ⟨h1, h2⟩ := cells_get h
  have := h2 0 h0
  have hl : 0 < cs.length := by omega
  rw [List.getElem?_eq_getElem hl] at this
  rw [add_zero_a] at this
  exact World.cell?_spot this
/-- A row whose address may be any where it is empty. -/
theorem slice_rel0 {t e : TypeId} {ks : List AK} {d fuel : Nat} {v : Value} {y : DataW H × List MemPlace} (ht : P.underlying t = some (.slice e)) (hk : kindsOf P d e = some ks) (hc : P.cellsOf e = ks.length) (h0 : 0 < ks.length)
    (hy : DataW.trod enc P w base spare held fuel t [v] = some y) :
    ∃ rows, VRel (G.all w) (.sl .unk ks.length rows []) v ∧ RowsOk ks rows := by
  rcases DataW.trod_slice ht hy with ⟨h, _⟩ | ⟨a, len, cap, elems, rest, n, _, h, _, _, hl, hm, hlen, hel, _, _⟩
  · simp only [List.cons.injEq, and_true] at h; subst h
    exact ⟨[], .snil _ _ (.inr rfl), by intro r hr; cases hr⟩
  · simp only [List.cons.injEq, and_true] at h; subst h
    by_cases hz : len = 0
    · subst hz
      exact ⟨[], .semp .unk _ a cap (by simp) (by simp), by intro r hr; cases hr⟩
    · obtain ⟨rows, h1, h2, _⟩ := slice_rel ht hk hc h0 hy (fun a' l c hv => by
        cases hv
        have := hel 0 (by omega)
        have hi' : 0 < elems.length := by omega
        rw [List.getElem?_eq_getElem hi', Option.bind_eq_some_iff] at this
        obtain ⟨cs, h3, _⟩ := this
        rw [Nat.zero_mul, add_zero_a] at h3
        exact spot_read h3 (by omega))
      exact ⟨rows, h1, h2⟩
/-- A row of one-cell things. -/
theorem slice_relE {α : Type} {en : α → V} {t e : TypeId} {fuel : Nat} {v : Value} {y : DataW H × List MemPlace} (ht : P.underlying t = some (.slice e)) (hc : P.cellsOf e = 1)
    (hE : ∀ n c y, DataW.trod enc P w base spare held n e [c] = some y → ∃ x : α, VRel (G.all w) (en x) c ∧ c.oneCell' = true)
    (hy : DataW.trod enc P w base spare held fuel t [v] = some y) : ∃ l : List α, VRel (G.all w) (.sl .unk 1 (l.map fun x => [en x]) []) v := by
  rcases DataW.trod_slice ht hy with ⟨h, _⟩ | ⟨a, len, cap, elems, rest, n, _, h, _, _, hl, hm, hlen, hel, _, _⟩
  · simp only [List.cons.injEq, and_true] at h; subst h
    exact ⟨[], .snil _ _ (.inr rfl)⟩
  · simp only [List.cons.injEq, and_true] at h; subst h
    by_cases hz : len = 0
    · subst hz
      exact ⟨[], .semp .unk _ a cap (by simp) (by simp)⟩
    · have hall : ∀ i : Fin len, ∃ q : Value × α, w.cell? ((a.add (i.1 * 1)).add 0) = some q.1 ∧ VRel (G.all w) (en q.2) q.1 ∧ q.1.oneCell' = true := by
        intro ⟨i, hi⟩
        have := hel i hi
        have hi' : i < elems.length := by omega
        rw [List.getElem?_eq_getElem hi', Option.bind_eq_some_iff, hc] at this
        obtain ⟨cs, h1, h2⟩ := this
        obtain ⟨h3, h4⟩ := cells_get h1
        obtain ⟨c, rfl⟩ : ∃ c, cs = [c] := by
          cases cs with
          | nil => cases h3
          | cons c cs => cases cs with
            | nil => exact ⟨c, rfl⟩
            | cons d cs => simp at h3
        obtain ⟨x, hx, h1c⟩ := hE n c _ h2
        exact ⟨(c, x), by have := h4 0 (by omega); simpa using this, hx, h1c⟩
      obtain ⟨f, hf⟩ := Classical.axiomOfChoice hall
      have hsp : a.spot = none := by
        have := (hf ⟨0, by omega⟩).1
        rw [show ((⟨0, by omega⟩ : Fin len).1 * 1) = 0 from rfl, add_zero_a, add_zero_a] at this
        exact World.cell?_spot this
      obtain ⟨b, o, s⟩ := a
      simp only at hsp; subst hsp
      have hlf : (List.ofFn f).length = len := by simp
      have hget : ∀ i (hi : i < len), (((List.ofFn f).map (·.2)).map fun x => [en x]).getD i [] = [en (f ⟨i, hi⟩).2] := by
        intro i hi
        simp [List.getD, hi]
      refine ⟨(List.ofFn f).map (·.2), ?_⟩
      have := VRel.sl (g := G.all w) .unk 1 (((List.ofFn f).map (·.2)).map fun x => [en x]) [] b o cap (fun i j => if h : i < len then (f ⟨i, h⟩).1 else undef) (by simp) (by simp) (by decide) (by simpa using hl)
        (fun i hi => by
          have hi : i < len := by simpa using hi
          rw [List.append_nil, hget i hi]; rfl)
        (fun i j hi hj => by
          have hi : i < len := by simpa using hi
          obtain rfl : j = 0 := by omega
          have h1 := (hf ⟨i, hi⟩).1
          rw [add_none, add_none] at h1
          simp only [hi, dite_true]
          exact G.all_imm h1 (hf ⟨i, hi⟩).2.2)
        (fun i j hi hj => by
          have hi : i < len := by simpa using hi
          obtain rfl : j = 0 := by omega
          rw [List.append_nil, hget i hi]
          simp only [hi, dite_true]
          exact (hf ⟨i, hi⟩).2.1)
      simpa using this
end
end Go.Proofs.Ythoaclojobgelaa.AM
namespace Go.Proofs.Ythoaclojobgelaa.graphLaw
open Go Go.ChangeShapes Go.WideShapes Go.ChangeAt Go.RowKit Go.Joins Go.Proofs.Ythoaclojobgelaa.AM
set_option linter.unusedVariables false
section
variable {H : Type} {enc : TypeId × Value → H} {W : World} {b0 : Nat} {r : Reach}
theorem slice_one {g : G} {k : SK} {sz : Nat} {es sp : List (List V)} {v : Value} (h : VRel g (.sl k sz es sp) v) : v.oneCell' = true := by
  cases h <;> rfl
set_option maxRecDepth 100000 in
theorem rowsArg {v : Value} {d : DataW H} {p : List MemPlace} (hv : Value.okWide Try.prog W r b0 42 v) (h : DataW.Trod enc Try.prog W 0 (fun _ => true) true 42 v d p) : ∃ l : List (List Nat), VRel (G.all W) (.sl .unk 1 (l.map cRow) []) v := by
  obtain ⟨fuel, hf⟩ := h
  obtain ⟨a, len, cap, rfl⟩ := okWide_slice Try.underlying42 hv
  exact slice_relE (en := fun (q : List Nat) => V.sl .unk 1 (q.map cN) []) Try.underlying42 (by kernel_rfl) (fun n c y hy => by
    obtain ⟨rows, h1, h2⟩ := slice_rel0 (d := 2) (ks := [.int .u64]) Try.underlying23 (by kernel_rfl) (by kernel_rfl) (by decide) hy
    obtain ⟨l, rfl, _⟩ := rows_map num_row h2
    exact ⟨l, h1, slice_one h1⟩) (by simpa [Value.cells] using hf)
end
end Go.Proofs.Ythoaclojobgelaa.graphLaw
