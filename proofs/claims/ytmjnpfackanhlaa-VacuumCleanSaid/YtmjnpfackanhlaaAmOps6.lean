/- The abstract layer: stores. -/
import Derived.Test.YtmjnpfackanhlaaAmOps5
namespace Go.Proofs.Ytmjnpfackanhlaa.AM
open Go Go.RowKit
set_option linter.unusedSimpArgs false
set_option linter.unusedVariables false
variable {P : Program} {g : G} {st : St} {w : World}

/-! ### stores -/
theorem turn_setRow {L : Loc} {b : Nat} (hb : L.blk = some b) (c : Array Value) : Turn g L w (w.setRow b c) :=
 ⟨rfl, rfl, rfl, by simp, fun k hk hne => setRow_other w b k c (fun e => hne (by rw [e]; exact hb))⟩

theorem seg_getD (c vs : Array Value) (o : Nat) (h : o + vs.size ≤ c.size) : (c.toList.take o ++ vs.toList ++ c.toList.drop (o + vs.size)).toArray.size = c.size ∧
  ∀ i, (c.toList.take o ++ vs.toList ++ c.toList.drop (o + vs.size)).toArray.getD i undef = if o ≤ i ∧ i < o + vs.size then vs.getD (i - o) undef else c.getD i undef := by
 have hs := splice_getD undef c.toList o vs.toList (by simpa using h)
 have e : c.toList.take o ++ vs.toList ++ c.toList.drop (o + vs.size) = splice c.toList o vs.toList := by simp [splice]
 rw [e]
 refine ⟨by have := (hs 0).1; simpa using this, fun i => ?_⟩
 have := (hs i).2
 simp only [List.getD, Array.getD_eq_getD_getElem?] at this ⊢
 simpa using this

theorem store_ok (hs : Sim P g st w) {t sz : Nat} (hsz : sizeT P t = some sz) {A X : V} {a x : Value} (hA : VRel g A a) (hX : VRel g X x) {cs : List V} (hc : X.cells = some cs) (hl : cs.length = sz) {st' : St} (hst : st.store A cs = some st') :
    ∃ w', (Instr.storeAt t a x).run P w = .ok () w' ∧ Sim P g st' w' := by
  have hcr := cells_rel hX hc
  unfold St.store at hst
  split at hst
  · rename_i id ver i off
    split at hst
    · rename_i s es ho
      split at hst
      · rename_i e he
        split at hst
        · rename_i hle
          simp only [Option.some.injEq] at hst; subst hst
          have hobj := get_objs ho
          cases hA with
          | ptr _ _ _ _ b L hL hb =>
            obtain ⟨L', hL', hm⟩ := hs.obj _ _ _ hobj
            cases hL.symm.trans hL'
            obtain ⟨h1, h2, h3, h4, h5⟩ := hm
            rw [hb] at h5
            obtain ⟨c, ty, hcell, hcs, hr⟩ := h5
            have hi : i < es.length := (List.getElem?_eq_some_iff.1 he).1
            have hgd : es.getD i [] = e := by simp [List.getD, he]
            have hel := h3 i hi
            rw [hgd] at hel
            have hT : (i + 1) * s ≤ L.T * s := Nat.mul_le_mul_right _ (by omega)
            rw [Nat.add_mul] at hT
            have hbase : L.o + i * L.sz + off + x.cells.size ≤ c.size := by rw [h1, ← hcr.1]; omega
            have hrun := run_storeCells_at (P := P) b (L.o + i * L.sz + off) ty x.cells.toList 0 c w hcell (by simpa using hbase) (fun v hv => by
              obtain ⟨k, hk, rfl⟩ := List.getElem_of_mem hv
              have := (hcr.2 k (by rw [hcr.1]; simpa using hk)).2
              simpa [Array.getD, show k < x.cells.size by simpa using hk] using this)
            simp only [Nat.add_zero, Array.length_toList] at hrun
            have hrun' : (Instr.storeAt t (.pointer (some ⟨b, L.o + i * L.sz + off, none⟩)) x).run P w = .ok () (w.setRow b (c.toList.take (L.o + i * L.sz + off) ++ x.cells.toList ++ c.toList.drop (L.o + i * L.sz + off + x.cells.size)).toArray) := by
              simp only [Instr.storeAt, Instr.sureAddr, storeVar, Sem.run_bind, Sem.run_pure, Result.andThen_ok, run_sizeT hsz]
              rw [if_neg (by rw [← hcr.1]; omega)]
              exact hrun
            refine ⟨_, hrun', ?_⟩
            have hseg := seg_getD c x.cells (L.o + i * L.sz + off) hbase
            have := hs.turn (ver' := ver) (o' := .mem s (es.set i (splice e off cs))) (L' := L) (g' := g) (w' := w.setRow b (c.toList.take (L.o + i * L.sz + off) ++ x.cells.toList ++ c.toList.drop (L.o + i * L.sz + off + x.cells.size)).toArray) hobj hL (.refl g) rfl rfl rfl rfl hs.fresh (turn_setRow hb _) hL (fun b' hb' => .inl hb') (by
              refine ⟨h1, h2, fun k hk => ?_, by simpa using h4, ?_⟩
              · simp at hk
                by_cases ek : k = i
                · subst ek
                  have e1 : (es.set k (splice e off cs)).getD k [] = splice e off cs := by simp [List.getD, hk]
                  rw [e1, (splice_getD V.junk e off cs hle 0).1, hel]
                · have e1 : (es.set i (splice e off cs)).getD k [] = es.getD k [] := by simp only [List.getD]; rw [List.getElem?_set_ne (fun x => ek x.symm)]
                  rw [e1]; exact h3 k hk
              · rw [hb]
                refine ⟨_, ty, setRow_heap w b c _ ty _ hcell, by rw [hseg.1]; exact hcs, fun k j hk hj => ?_⟩
                simp at hk
                rw [hseg.2, ← hcr.1]
                by_cases ek : k = i
                · subst ek
                  have e1 : (es.set k (splice e off cs)).getD k [] = splice e off cs := by simp [List.getD, hk]
                  rw [e1, (splice_getD V.junk e off cs hle j).2]
                  by_cases hin : off ≤ j ∧ j < off + cs.length
                  · rw [if_pos hin, if_pos (by rw [h1]; omega), show L.o + k * s + j - (L.o + k * L.sz + off) = j - off by rw [h1]; omega]
                    exact hcr.2 (j - off) (by omega)
                  · rw [if_neg hin, if_neg (by rw [h1]; omega)]
                    have := hr k j hk hj
                    rw [hgd] at this; exact this
                · have e1 : (es.set i (splice e off cs)).getD k [] = es.getD k [] := by simp only [List.getD]; rw [List.getElem?_set_ne (fun x => ek x.symm)]
                  rw [e1]
                  have hne : ¬ (L.o + i * L.sz + off ≤ L.o + k * s + j ∧ L.o + k * s + j < L.o + i * L.sz + off + cs.length) := by
                    rw [h1]
                    rcases Nat.lt_or_gt_of_ne ek with h' | h'
                    · have := idx_lt (sz := s) h' hj; omega
                    · have := Nat.mul_le_mul_right s (show i + 1 ≤ k from h'); rw [Nat.add_mul] at this; omega
                  rw [if_neg hne]; exact hr k j hk hj)
            have e : g.nv = st.nv := hs.nv.symm
            rw [e] at this
            exact this
        · simp at hst
      · simp at hst
    · simp at hst
  · simp at hst

end Go.Proofs.Ytmjnpfackanhlaa.AM
