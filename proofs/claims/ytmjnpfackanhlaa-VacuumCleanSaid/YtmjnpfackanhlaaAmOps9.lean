/- The abstract layer: maps made and changed. -/
import Derived.Test.YtmjnpfackanhlaaAmOps8
namespace Go.Proofs.Ytmjnpfackanhlaa.AM
open Go Go.RowKit
set_option linter.unusedSimpArgs false
set_option linter.unusedVariables false
variable {P : Program} {g : G} {st : St} {w : World}

theorem bytes_beq {a b : ByteArray} (h : (a == b) = true) : a = b := by
 rw [beq_toListBytes] at h
 have h' : a.toList = b.toList := by simpa using h
 rw [ByteArray.toList_eq, ByteArray.toList_eq] at h'
 obtain ⟨⟨x⟩⟩ := a
 obtain ⟨⟨y⟩⟩ := b
 simp at h'; subst h'; rfl

theorem eqL_true {c : LC} {A B : V} (h : eqL c A B = some true) : A = B := by
 cases c <;> cases A <;> cases B <;> simp [eqL] at h
 ·rw [h]
 ·obtain ⟨rfl, rfl⟩ := h; rfl
 ·rw [bytes_beq h]

theorem eqLs_true : ∀ {ls : List LC} {as bs : List V}, eqLs ls as bs = some true → as = bs
 | [], as, bs, h => by cases as <;> cases bs <;> simp [eqLs] at h ⊢
 | c :: ls, as, bs, h => by
  cases as <;> cases bs <;> simp [eqLs] at h
  split at h
  ·rename_i x y h1 h2
   simp at h; obtain ⟨rfl, rfl⟩ := h
   rw [eqL_true h1, eqLs_true h2]
  ·simp at h

theorem keyEq_true {kc : KC} {A B : V} (h : keyEq kc A B = some true) : A = B := by
 unfold keyEq at h
 split at h
 ·exact eqL_true h
 ·rw [eqLs_true h]
 ·simp at h

theorem mfind_key {kc : KC} {K : V} : ∀ {es : List (V × V)} {i j : Nat} {v : V}, mfind kc K es i = some (some (j, v)) → i ≤ j ∧ j - i < es.length ∧ es.getD (j - i) (.junk, .junk) = (K, v)
 | [], i, j, v, h => by simp [mfind] at h
 | (a, x) :: es, i, j, v, h => by
  simp only [mfind] at h
  split at h
  ·rename_i hq
   simp at h; obtain ⟨rfl, rfl⟩ := h
   refine ⟨Nat.le_refl _, by simp, ?_⟩
   have := keyEq_true hq; subst this
   simp
  ·have := mfind_key h
   refine ⟨by omega, by simp; omega, ?_⟩
   rw [show j - i = (j - (i + 1)) + 1 by omega]
   simpa using this.2.2
  ·simp at h

theorem keyStays (old new : Value) : ∃ x k, (Instr.keyThatStays old new).run P w = .ok x { w with drawn := k } ∧ (x = old ∨ x = new) := by
 unfold Instr.keyThatStays
 split
 ·exact ⟨new, w.drawn, rfl, .inr rfl⟩
 ·have hf : (Question.extern "map.whichKeyStays" 2).forced = false := rfl
  simp only [Sem.run_bind, run_choose, hf, Bool.false_eq_true, if_false, Result.andThen_ok, Sem.run_pure]
  refine ⟨_, w.drawn + 1, rfl, ?_⟩
  split
  ·exact .inr rfl
  ·exact .inl rfl

theorem run_setMap {b : Nat} {ms : Array MapEntry} {clk : Nat} (h : w.heap[b]? = some (.map ms clk)) (o : Go.Obj) : (setObj b o).run P w = .ok () { w with heap := w.heap.setIfInBounds b o } := by
 simp [setObj, Sem.run, h]

theorem turn_setObj {L : Loc} {b : Nat} (hb : L.blk = some b) (o : Go.Obj) : Turn g L w { w with heap := w.heap.setIfInBounds b o } :=
 ⟨rfl, rfl, rfl, by simp, fun k hk hne => Array.getElem?_setIfInBounds_ne (fun e => hne (by rw [hb, e]))⟩

def G.ep (g : G) (bs : List Nat) (c : Nat) : G := { g with nv := g.nv + 1, born := fun v => if v = g.nv then bs else g.born v, clk := fun v => if v = g.nv then c else g.clk v }
theorem G.ep_le (bs : List Nat) (c : Nat) : g.le (g.ep bs c) :=
 ⟨rfl, rfl, Nat.le_succ _, fun _ _ h => h, fun v hv => by simp only [G.ep]; rw [if_neg (by omega)], fun v hv => by simp only [G.ep]; rw [if_neg (by omega)], fun _ _ _ h => h, fun _ _ _ _ h => h⟩

theorem mkmap_ok (hs : Sim P g st w) {t : Nat} : Done P g ⟨st.objs ++ [some (st.nv, .map (st.nv + 1) [])], st.nv + 2⟩ (.map st.objs.length st.nv) ((Instr.makeMap t none).run P w) := by
  let L : Loc := ⟨some w.heap.size, 0, 0, 0⟩
  have h1 := G.add_le (g := g) L (hs.fresh _ (Nat.le_refl _))
  have hle := h1.trans (G.ep_le (g := g.add L) [] 0)
  refine ⟨.map (some w.heap.size), { w with heap := w.heap.push (.map #[] 0) }, (g.add L).ep [] 0, by simp [Instr.makeMap], hle, rfl, ?_, ?_⟩
  · have := hs.pushed (ver' := g.nv) (o' := .map (g.nv + 1) []) (L' := L) (w' := { w with heap := w.heap.push (.map #[] 0) }) hle rfl rfl rfl rfl (fun v hv => by simp only [G.ep, G.add] at hv ⊢; rw [if_neg (by omega)]; exact hs.fresh v (by omega))
      rfl rfl rfl (by simp) (fun k hk => by simp only [Array.getElem?_push]; rw [if_neg (by omega)]) (by simp [G.ep, G.add]) (fun b hb => by simp [L] at hb; subst hb; simp)
      ⟨w.heap.size, #[], 0, rfl, by simp, rfl, by simp [G.ep, G.add], by simp [G.ep, G.add], by simp [G.ep, G.add], by simp [G.ep, G.add], by simp [G.ep, G.add], fun i hi => by simp at hi⟩
    rw [hs.nv]; exact this
  · rw [hs.nv]; exact .map _ _ _ L (by simp [G.ep, G.add]) rfl

theorem map_obj (hs : Sim P g st w) {id ver ep : Nat} {es : List (V × V)} (ho : st.get id ver = some (.map ep es)) {x : Value} (hX : VRel g (.map id ver) x) :
  ∃ b L, x = .map (some b) ∧ g.loc ver = some L ∧ L.blk = some b ∧ MapRel g w L ep es := by
 cases hX with
 | map _ _ b L hL hb =>
  obtain ⟨L', hL', h⟩ := hs.obj _ _ _ (get_objs ho)
  cases hL.symm.trans hL'
  exact ⟨b, L, rfl, hL, hb, h⟩

theorem ents_of {L : Loc} {ep b : Nat} {es : List (V × V)} (h : MapRel g w L ep es) (hb : L.blk = some b) : ∃ ms clk, w.heap[b]? = some (.map ms clk) ∧ EntsRel g es ms.toList ∧ ms.size = es.length ∧ ep < g.nv ∧ (g.born ep).length = es.length ∧ (g.born ep).Nodup ∧
  (∀ x ∈ g.born ep, x < clk) ∧ g.clk ep = clk ∧ ∀ i, i < es.length → ∃ e, ms[i]? = some e ∧ VRel g (es.getD i (.junk, .junk)).1 e.key ∧ VRel g (es.getD i (.junk, .junk)).2 e.val ∧ (g.born ep)[i]? = some e.born := by
 obtain ⟨b', ms, clk, hb', hm, hsz, h1, h2, h3, h4, h5, hr⟩ := h
 rw [hb] at hb'; cases hb'
 exact ⟨ms, clk, hm, ⟨by simpa using hsz, fun i hi => by obtain ⟨e, q1, q2, q3, _⟩ := hr i hi; exact ⟨e, by simpa using q1, q2, q3⟩⟩, hsz, h1, h2, h3, h4, h5, hr⟩

theorem mupd_ok (hs : Sim P g st w) {t kt e : Nat} (hu : P.underlying t = some (.map kt e)) {kc : KC} (hk : keyT P kt = some kc) {id ver ep : Nat} {es : List (V × V)} (ho : st.get id ver = some (.map ep es)) {K A : V} {m k x : Value} (hM : VRel g (.map id ver) m) (hK : VRel g K k) (hA : VRel g A x)
    {r : Option (Nat × V)} (hr : mfindK kc K es = some r) :
    ∃ w' g', (Instr.mapUpdate t m k x).run P w = .ok () w' ∧ g.le g' ∧ g'.dfr = g.dfr ∧
      Sim P g' (match r with | some (i, _) => st.set id ver (.map ep (es.set i (K, A))) | none => ⟨st.objs.set id (some (ver, .map st.nv (es ++ [(K, A)]))), st.nv + 1⟩) w' := by
  unfold mfindK at hr
  split at hr
  · rename_i hok
    obtain ⟨b, L, rfl, hL, hb, hm⟩ := map_obj hs ho hM
    obtain ⟨ms, clk, hcell, hent, hsz, h1, h2, h3, h4, h5, hr'⟩ := ents_of hm hb
    obtain ⟨q, hq1, hq2⟩ := findKey_ok (P := P) (w := w) hk hK hent hr
    have hck := checkKey_ok (w := w) hk hK hok false
    cases r with
    | none =>
      cases q with
      | some q => simp [fres] at hq2
      | none =>
        let g' := g.ep (g.born ep ++ [clk]) (clk + 1)
        have hle := G.ep_le (g := g) (g.born ep ++ [clk]) (clk + 1)
        refine ⟨{ w with heap := w.heap.setIfInBounds b (.map (ms.push { key := k, val := x, born := clk }) (clk + 1)) }, g', ?_, hle, rfl, ?_⟩
        · simp [Instr.mapUpdate, run_underlying hu, run_getMap hcell, hck, hq1, run_setMap hcell]
        · have hlt : b < w.heap.size := (Array.getElem?_eq_some_iff.1 hcell).1
          have := hs.turn (ver' := ver) (o' := .map g.nv (es ++ [(K, A)])) (L' := L) (g' := g') (w' := { w with heap := w.heap.setIfInBounds b (.map (ms.push { key := k, val := x, born := clk }) (clk + 1)) }) (get_objs ho) hL hle rfl rfl rfl rfl
            (fun v hv => hs.fresh v (by simp only [g', G.ep] at hv; omega)) (turn_setObj hb _) (hle.loc _ _ hL) (fun b' hb' => .inl hb') (by
            refine ⟨b, ms.push { key := k, val := x, born := clk }, clk + 1, hb, by simp [hlt], by simp [hsz], by simp [g', G.ep], by simp [g', G.ep, h2], ?_, ?_, by simp [g', G.ep], ?_⟩
            · simp only [g', G.ep, if_true]
              rw [List.nodup_append]
              exact ⟨h3, by simp, fun a ha b hb => by simp at hb; subst hb; have := h4 a ha; omega⟩
            · intro y hy
              simp only [g', G.ep, if_true] at hy
              rw [List.mem_append] at hy
              rcases hy with hy | hy
              · have := h4 y hy; omega
              · simp at hy; omega
            · intro i hi
              simp at hi
              by_cases hlast : i < es.length
              · obtain ⟨e', q1, q2, q3, q4⟩ := hr' i hlast
                refine ⟨e', ?_, ?_, ?_, ?_⟩
                · rw [Array.getElem?_push, if_neg (by omega)]; exact q1
                · have : (es ++ [(K, A)]).getD i (.junk, .junk) = es.getD i (.junk, .junk) := by simp [List.getD, List.getElem?_append_left hlast]
                  rw [this]; exact q2.mono hle
                · have : (es ++ [(K, A)]).getD i (.junk, .junk) = es.getD i (.junk, .junk) := by simp [List.getD, List.getElem?_append_left hlast]
                  rw [this]; exact q3.mono hle
                · simp only [g', G.ep, if_true]; rw [List.getElem?_append_left (by omega)]; exact q4
              · obtain rfl : i = es.length := by omega
                refine ⟨{ key := k, val := x, born := clk }, by rw [← hsz]; simp, ?_, ?_, ?_⟩
                · simpa [List.getD] using hK.mono hle
                · simpa [List.getD] using hA.mono hle
                · simp only [g', G.ep, if_true]; rw [← h2]; simp)
          rw [hs.nv]; exact this
    | some r =>
      cases q with
      | none => simp [fres] at hq2
      | some q =>
        obtain ⟨i, v⟩ := r
        obtain ⟨i', y⟩ := q
        simp only [fres] at hq2
        obtain ⟨rfl, _, _, _⟩ := hq2
        have hf := mfind_key hr
        simp only [Nat.sub_zero] at hf
        obtain ⟨_, hi, hfe⟩ := hf
        obtain ⟨e', q1, q2, q3, q4⟩ := hr' i hi
        obtain ⟨nk, dk, hst, hor⟩ := keyStays (P := P) (w := w) (((ms[i]?).map (·.key)).getD k) k
        have hnk : VRel g K nk := by
          rcases hor with rfl | rfl
          · rw [q1]; simp only [Option.map_some, Option.getD_some]
            rw [hfe] at q2; exact q2
          · exact hK
        have hs2 := hs.drew dk
        have hcell2 : ({ w with drawn := dk } : World).heap[b]? = some (.map ms clk) := hcell
        refine ⟨{ w with drawn := dk, heap := w.heap.setIfInBounds b (.map (ms.modify i fun e => { e with key := nk, val := x }) clk) }, g, ?_, .refl g, rfl, ?_⟩
        · have hst' : (Instr.keyThatStays ((Option.map (fun x => x.key) ms[i]?).getD k) k).run P w = .ok nk { w with drawn := dk } := hst
          simp only [Instr.mapUpdate, Sem.run_bind, run_underlying hu, Result.andThen_ok, run_getMap hcell, hck, hq1, hst', run_setMap hcell2]
        · have hlt : b < w.heap.size := (Array.getElem?_eq_some_iff.1 hcell).1
          have := hs2.turn (ver' := ver) (o' := .map ep (es.set i (K, A))) (L' := L) (g' := g) (w' := { w with drawn := dk, heap := w.heap.setIfInBounds b (.map (ms.modify i fun e => { e with key := nk, val := x }) clk) }) (get_objs ho) hL (.refl g) rfl rfl rfl rfl
            hs.fresh (turn_setObj (w := { w with drawn := dk }) hb _) hL (fun b' hb' => .inl hb') (by
            refine ⟨b, ms.modify i fun e => { e with key := nk, val := x }, clk, hb, by simp [hlt], by simp [hsz], h1, by simp [h2], h3, h4, h5, ?_⟩
            intro j hj
            simp at hj
            by_cases hji : j = i
            · subst hji
              refine ⟨{ e' with key := nk, val := x }, by rw [Array.getElem?_modify]; simp [q1], ?_, ?_, q4⟩
              · simpa [List.getD, hj] using hnk
              · simpa [List.getD, hj] using hA
            · obtain ⟨e2, p1, p2, p3, p4⟩ := hr' j hj
              have e3 : (es.set i (K, A)).getD j (.junk, .junk) = es.getD j (.junk, .junk) := by simp only [List.getD]; rw [List.getElem?_set_ne (fun x => hji x.symm)]
              refine ⟨e2, by rw [Array.getElem?_modify, if_neg (fun x => hji x.symm)]; exact p1, by rw [e3]; exact p2, by rw [e3]; exact p3, p4⟩)
          have e : g.nv = st.nv := hs.nv.symm
          rw [e] at this
          exact this
  · simp at hr

theorem heap_self {b : Nat} {o : Go.Obj} (h : w.heap[b]? = some o) : ({ w with heap := w.heap.setIfInBounds b o } : World) = w := by
 have : w.heap.setIfInBounds b o = w.heap := by
  apply Array.ext_getElem?
  intro i
  by_cases e : i = b
  ·subst e
   have hlt := (Array.getElem?_eq_some_iff.1 h).1
   rw [h]; simp [hlt]
  ·rw [Array.getElem?_setIfInBounds_ne (fun h => e h.symm)]
 rw [this]

theorem mdel_ok (hs : Sim P g st w) {ts : Array TypeId} {ty : Nat} {t kt e : Nat} (ht : ts[0]? = some t) (hu : P.underlying t = some (.map kt e)) {kc : KC} (hk : keyT P kt = some kc) {id ver ep : Nat} {es : List (V × V)} (ho : st.get id ver = some (.map ep es)) {K : V} {m k : Value} (hM : VRel g (.map id ver) m) (hK : VRel g K k)
  {r : Option (Nat × V)} (hr : mfindK kc K es = some r) :
  ∃ w' g', (Builtin.delete_ ts ty #[m, k]).run P w = .ok (.tuple #[]) w' ∧ g.le g' ∧ g'.dfr = g.dfr ∧
   Sim P g' (match r with | some (i, _) => ⟨st.objs.set id (some (ver, .map st.nv (es.eraseIdx i))), st.nv + 1⟩ | none => st) w' := by
 unfold mfindK at hr
 split at hr
 ·rename_i hok
  obtain ⟨b, L, rfl, hL, hb, hm⟩ := map_obj hs ho hM
  obtain ⟨ms, clk, hcell, hent, hsz, h1, h2, h3, h4, h5, hr'⟩ := ents_of hm hb
  obtain ⟨q, hq1, hq2⟩ := findKey_ok (P := P) (w := w) hk hK hent hr
  have hck := checkKey_ok (w := w) hk hK hok ms.isEmpty
  cases r with
  | none =>
   cases q with
   | some q => simp [fres] at hq2
   | none =>
    refine ⟨w, g, ?_, .refl g, rfl, hs⟩
    simp [Builtin.delete_, ht, run_underlying hu, run_getMap hcell, hck, hq1, run_setMap hcell, heap_self hcell]
  | some r =>
   cases q with
   | none => simp [fres] at hq2
   | some q =>
    obtain ⟨i, v⟩ := r
    obtain ⟨i', y⟩ := q
    simp only [fres] at hq2
    obtain ⟨rfl, _, _, _⟩ := hq2
    have hf := mfind_key hr
    simp only [Nat.sub_zero] at hf
    obtain ⟨_, hi, hfe⟩ := hf
    let g' := g.ep ((g.born ep).eraseIdx i) clk
    have hle := G.ep_le (g := g) ((g.born ep).eraseIdx i) clk
    refine ⟨{ w with heap := w.heap.setIfInBounds b (.map (ms.eraseIdxIfInBounds i) clk) }, g', ?_, hle, rfl, ?_⟩
    ·simp [Builtin.delete_, ht, run_underlying hu, run_getMap hcell, hck, hq1, run_setMap hcell]
    ·have hlt : b < w.heap.size := (Array.getElem?_eq_some_iff.1 hcell).1
     have him : i < ms.size := by omega
     have hget : ∀ j, (ms.eraseIdxIfInBounds i)[j]? = if j < i then ms[j]? else ms[j + 1]? := by
      intro j
      rw [Array.eraseIdxIfInBounds_eq, dif_pos him, Array.getElem?_eraseIdx]
     have := hs.turn (ver' := ver) (o' := .map g.nv (es.eraseIdx i)) (L' := L) (g' := g') (w' := { w with heap := w.heap.setIfInBounds b (.map (ms.eraseIdxIfInBounds i) clk) }) (get_objs ho) hL hle rfl rfl rfl rfl
      (fun v hv => hs.fresh v (by simp only [g', G.ep] at hv; omega)) (turn_setObj hb _) (hle.loc _ _ hL) (fun b' hb' => .inl hb') (by
      refine ⟨b, ms.eraseIdxIfInBounds i, clk, hb, by simp [hlt], ?_, by simp [g', G.ep], ?_, ?_, ?_, by simp [g', G.ep], ?_⟩
      ·rw [Array.eraseIdxIfInBounds_eq, dif_pos him, Array.size_eraseIdx, List.length_eraseIdx, if_pos hi, hsz]
      ·simp only [g', G.ep, if_true]
       rw [List.length_eraseIdx, List.length_eraseIdx, h2]
      ·simp only [g', G.ep, if_true]
       exact h3.sublist (List.eraseIdx_sublist ..)
      ·intro y hy
       simp only [g', G.ep, if_true] at hy
       exact h4 y (List.mem_of_mem_eraseIdx hy)
      ·intro j hj
       rw [List.length_eraseIdx, if_pos hi] at hj
       have ge : (es.eraseIdx i).getD j (.junk, .junk) = if j < i then es.getD j (.junk, .junk) else es.getD (j + 1) (.junk, .junk) := by
        simp only [List.getD, List.getElem?_eraseIdx]
        split <;> rfl
       rw [hget, ge]
       simp only [g', G.ep, if_true]
       rw [List.getElem?_eraseIdx]
       by_cases hji : j < i
       ·rw [if_pos hji, if_pos hji, if_pos hji]
        obtain ⟨e', q1, q2, q3, q4⟩ := hr' j (by omega)
        exact ⟨e', q1, q2.mono hle, q3.mono hle, q4⟩
       ·rw [if_neg hji, if_neg hji, if_neg hji]
        obtain ⟨e', q1, q2, q3, q4⟩ := hr' (j + 1) (by omega)
        exact ⟨e', q1, q2.mono hle, q3.mono hle, q4⟩)
     rw [hs.nv]; exact this
 ·simp at hr

theorem range_ok (hs : Sim P g st w) {t kt e : Nat} (hu : P.underlying t = some (.map kt e)) {id ver ep : Nat} {es : List (V × V)} (ho : st.get id ver = some (.map ep es)) {m : Value} (hM : VRel g (.map id ver) m) :
  Done P g (st.push (.iter id ver ep [])) (.it st.objs.length st.nv) ((Instr.range t m).run P w) := by
 obtain ⟨b, L, rfl, hL, hb, hm⟩ := map_obj hs ho hM
 obtain ⟨ms, clk, hcell, hent, hsz, h1, h2, h3, h4, h5, hr'⟩ := ents_of hm hb
 let L2 : Loc := ⟨some w.heap.size, 0, 0, 0⟩
 have hle := G.add_le (g := g) L2 (hs.fresh _ (Nat.le_refl _))
 refine ⟨.pointer (some ⟨w.heap.size, 0, none⟩), { w with heap := w.heap.push (.mapIter (some b) clk #[] clk) }, g.add L2, by simp [Instr.range, run_underlying hu, run_getMap hcell], hle, rfl, ?_, ?_⟩
 ·have := hs.pushed (ver' := g.nv) (o' := .iter id ver ep []) (L' := L2) (w' := { w with heap := w.heap.push (.mapIter (some b) clk #[] clk) }) hle rfl rfl rfl rfl (G.add_fresh L2 hs.fresh)
   rfl rfl rfl (by simp) (fun k hk => by simp only [Array.getElem?_push]; rw [if_neg (by omega)]) (G.add_loc L2) (fun b hb => by simp [L2] at hb; subst hb; simp)
   ⟨w.heap.size, b, L, rfl, hle.loc _ _ hL, Nat.lt_of_lt_of_le h1 hle.nv, hb, by simp [G.add, h5], fun i hi => by simp at hi⟩
  simp only [St.push, hs.nv]; exact this
 ·rw [hs.nv]; exact .iter _ _ _ L2 (G.add_loc _) rfl

end Go.Proofs.Ytmjnpfackanhlaa.AM
