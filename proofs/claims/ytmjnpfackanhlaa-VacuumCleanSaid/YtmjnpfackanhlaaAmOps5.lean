/- The abstract layer: operations that make or change memory. -/
import Derived.Test.YtmjnpfackanhlaaAmQuiet
namespace Go.Proofs.Ytmjnpfackanhlaa.AM
open Go Go.RowKit
set_option linter.unusedSimpArgs false
set_option linter.unusedVariables false
variable {P : Program} {g : G} {st : St} {w : World}

def G.add (g : G) (L : Loc) : G := { g with nv := g.nv + 1, loc := fun v => if v = g.nv then some L else g.loc v }

theorem G.add_le (L : Loc) (h : g.loc g.nv = none) : g.le (g.add L) :=
 ⟨rfl, rfl, Nat.le_succ _, fun v L' hv => by simp only [G.add]; rw [if_neg (fun e => by subst e; rw [h] at hv; cases hv)]; exact hv, fun _ _ => rfl, fun _ _ => rfl, fun _ _ _ h => h, fun _ _ _ _ h => h⟩

theorem G.add_loc (L : Loc) : (g.add L).loc g.nv = some L := by simp [G.add]
theorem G.add_fresh (L : Loc) (h : ∀ v, g.nv ≤ v → g.loc v = none) : ∀ v, (g.add L).nv ≤ v → (g.add L).loc v = none := by
 intro v hv
 simp only [G.add] at hv ⊢
 rw [if_neg (by omega)]; exact h v (by omega)

theorem push_mem (hs : Sim P g st w) {sz T : Nat} {es : List (List V)} {vs : Array Value} {t : TypeId} (h0 : 0 < sz) (hT : T * sz ≤ vs.size) (hl : es.length ≤ T) (hr : RowRel g sz es vs 0) :
    let L : Loc := ⟨some w.heap.size, 0, sz, T⟩
    g.le (g.add L) ∧ (g.add L).dfr = g.dfr ∧ Sim P (g.add L) (st.push (.mem sz es)) { w with heap := w.heap.push (.cells vs t) } := by
  intro L
  have hle := G.add_le (g := g) L (hs.fresh _ (Nat.le_refl _))
  refine ⟨hle, rfl, ?_⟩
  have := hs.pushed (ver' := g.nv) (o' := .mem sz es) (L' := L) (w' := { w with heap := w.heap.push (.cells vs t) }) hle rfl rfl rfl rfl (G.add_fresh L hs.fresh) rfl rfl rfl (by simp) (fun k hk => by simp only [Array.getElem?_push]; rw [if_neg (by omega)])
    (G.add_loc L) (fun b hb => by simp [L] at hb; subst hb; simp) ⟨rfl, h0, hr.2.1, hl, vs, t, by simp, by simpa [L] using hT, fun i j hi hj => by
      have := hr.2.2 i j hi hj; exact ⟨this.1.mono hle, this.2⟩⟩
  have e : st.nv = g.nv := hs.nv
  simp only [St.push, e]
  exact this

theorem row_of_cells {cs : List V} {vs : Array Value} (h : CellsRel g cs vs) : RowRel g cs.length [cs] vs 0 := by
 refine ⟨by simp [h.1], fun i hi => ?_, fun i j hi hj => ?_⟩
 ·simp at hi; subst hi; simp
 ·simp at hi; subst hi
  have := h.2 j hj
  simpa using this

def Done (P : Program) (g : G) (st' : St) (v : V) (r : Result Value) : Prop := ∃ x w' g', r = .ok x w' ∧ g.le g' ∧ g'.dfr = g.dfr ∧ Sim P g' st' w' ∧ VRel g' v x

theorem ptr_new {w' : World} {g' : G} {id b sz T : Nat} {v : Nat} (h : g'.loc v = some ⟨some b, 0, sz, T⟩) : VRel g' (.ptr id v 0 0) (.pointer (some ⟨b, 0, none⟩)) := by
 have := VRel.ptr (g := g') id v 0 0 b _ h rfl
 simpa using this

theorem alloc_ok (hs : Sim P g st w) {t : Nat} {z : List V} (hz : zeroT P t = some z) (hne : z.isEmpty = false) :
  Done P g (st.push (.mem z.length [z])) (.ptr st.objs.length st.nv 0 0) ((Instr.alloc t true (.tuple #[])).run P w) := by
 obtain ⟨zz, h1, h2⟩ := zeroT_ok (P := P) (w := w) (g := g) hz
 have h0 : 0 < z.length := by cases z <;> simp at hne ⊢
 obtain ⟨e1, e2, e3⟩ := push_mem hs (t := t) h0 (T := 1) (by have := h2.1; omega) (Nat.le_refl _) (row_of_cells h2)
 refine ⟨.pointer (some ⟨w.heap.size, 0, none⟩), _, _, ?_, e1, e2, e3, ?_⟩
 ·simp [Instr.alloc, h1, newVar, newRow]
 ·rw [hs.nv]; exact ptr_new (w' := w) (G.add_loc _)

theorem box_ok (hs : Sim P g st w) {t : Nat} {A : V} {x : Value} (hA : VRel g A x) {cs : List V} (hc : A.cells = some cs) (hne : cs.isEmpty = false) :
  Done P g (st.push (.mem cs.length [cs])) (.ptr st.objs.length st.nv 0 0) ((Instr.box t x).run P w) := by
 have h2 := cells_rel hA hc
 have h0 : 0 < cs.length := by cases cs <;> simp at hne ⊢
 obtain ⟨e1, e2, e3⟩ := push_mem hs (t := t) h0 (T := 1) (by have := h2.1; omega) (Nat.le_refl _) (row_of_cells h2)
 refine ⟨.pointer (some ⟨w.heap.size, 0, none⟩), _, _, ?_, e1, e2, e3, ?_⟩
 ·simp [Instr.box, newVar, newRow]
 ·rw [hs.nv]; exact ptr_new (w' := w) (G.add_loc _)

/-! ### slices' literals -/
theorem getD_bang (vs : Array Value) (i : Nat) (h : i < vs.size) : vs[i]! = vs.getD i undef := by simp [h, Array.getD]

theorem row_zero {sz : Nat} {z : List V} {zz : Array Value} (h : CellsRel g z zz) (hz : z.length = sz) (n : Nat) : RowRel g sz (List.replicate n z) ((Array.range (n * sz)).map (zz[· % zz.size]!)) 0 := by
 have hsz : zz.size = sz := by rw [← h.1]; exact hz
 refine ⟨by simp, fun i hi => ?_, fun i j hi hj => ?_⟩
 ·simp at hi; simp [List.getD, hi, hz]
 ·simp at hi
  have e1 : (List.replicate n z).getD i [] = z := by simp [List.getD, hi]
  have hlt : i * sz + j < n * sz := idx_lt hi hj
  have e2 : ((Array.range (n * sz)).map (zz[· % zz.size]!)).getD (0 + i * sz + j) undef = zz.getD j undef := by
   simp only [Nat.zero_add, Array.getD_eq_getD_getElem?, Array.getElem?_map, Array.getElem?_range, hlt, if_true, Option.map_some, Option.getD_some, hsz]
   rw [Nat.mul_add_mod_self_right, Nat.mod_eq_of_lt hj, getD_bang _ _ (by omega), Array.getD_eq_getD_getElem?]
  rw [e1, e2]
  exact h.2 j (by omega)

theorem row_set {sz : Nat} {es : List (List V)} {vs us : Array Value} {cs : List V} (h : RowRel g sz es vs 0) (hc : CellsRel g cs us) (hl : cs.length = sz) {i : Nat} (hi : i < es.length) :
  RowRel g sz (es.set i cs) (lay vs (i * sz) us) 0 := by
 have hus : us.size = sz := by rw [← hc.1]; exact hl
 have hle : i * sz + sz ≤ vs.size := by
  have := Nat.mul_le_mul_right sz (show i + 1 ≤ es.length from hi)
  rw [Nat.add_mul] at this; have := h.1; omega
 have h1 := lay_getD vs (i * sz) us (by omega)
 refine ⟨by rw [h1.1]; simpa using h.1, fun k hk => ?_, fun k j hk hj => ?_⟩
 ·simp at hk
  by_cases e : k = i
  ·subst e; simp [List.getD, hk, hl]
  ·have := h.2.1 k hk
   simp only [List.getD] at this ⊢; rw [List.getElem?_set_ne (fun x => e x.symm)]; exact this
 ·simp at hk
  rw [h1.2]
  by_cases e : k = i
  ·subst e
   rw [if_pos (by omega)]
   have e1 : (es.set k cs).getD k [] = cs := by simp [List.getD, hk]
   rw [e1, show 0 + k * sz + j - k * sz = j by omega]
   exact hc.2 j (by omega)
  ·have hne : ¬ (i * sz ≤ 0 + k * sz + j ∧ 0 + k * sz + j < i * sz + us.size) := by
    rcases Nat.lt_or_gt_of_ne e with h' | h'
    ·have := idx_lt (sz := sz) h' hj; omega
    ·have := Nat.mul_le_mul_right sz (show i + 1 ≤ k from h'); rw [Nat.add_mul] at this; omega
   rw [if_neg hne]
   have e1 : (es.set i cs).getD k [] = es.getD k [] := by simp only [List.getD]; rw [List.getElem?_set_ne (fun x => e x.symm)]
   rw [e1]; exact h.2.2 k j hk hj

theorem resElems_rel {n : Nat} {fr : Fr} {a : Act} (hf : FrRel g n fr a.tmps) : ∀ {ps : List (Nat × Operand)} {qs : List (Nat × X)}, resElems ps = some qs →
  qs.length = ps.length ∧ ∀ i, i < ps.length → ∃ p q, ps[i]? = some p ∧ qs[i]? = some q ∧ q.1 = p.1 ∧ VRel g (q.2.ev fr) (a.eval p.2)
 | [], qs, h => by simp [resElems] at h; subst h; exact ⟨rfl, fun i hi => by simp at hi⟩
 | (i, x) :: r, qs, h => by
  simp only [resElems] at h
  split at h
  ·rename_i y l h2 h3
   simp only [Option.some.injEq] at h; subst h
   have ih := resElems_rel hf h3
   refine ⟨by simp [ih.1], fun j hj => ?_⟩
   cases j with
   | zero => exact ⟨_, _, rfl, rfl, rfl, resX_rel hf h2⟩
   | succ j => have := ih.2 j (by simpa using hj); simpa using this
  ·simp at h

theorem fill_rows {fr : Fr} {sz : Nat} : ∀ (ps : List (Nat × Value)) (qs : List (Nat × X)) (es es' : List (List V)) (vs : Array Value), RowRel g sz es vs 0 → qs.length = ps.length →
  (∀ i, i < ps.length → ∃ p q, ps[i]? = some p ∧ qs[i]? = some q ∧ q.1 = p.1 ∧ VRel g (q.2.ev fr) p.2) →
  qs.foldlM (fun (acc : List (List V)) (p : Nat × X) =>
   match (p.2.ev fr).cells with
   | some cs => if cs.length = sz ∧ p.1 < acc.length then some (acc.set p.1 cs) else none
   | none => none) es = some es' →
  ∃ vs', Instr.fill (fun i => some (i * sz, sz)) vs ps = some vs' ∧ RowRel g sz es' vs' 0 ∧ vs'.size = vs.size ∧ es'.length = es.length
 | [], [], es, es', vs, h, _, _, hf => by simp at hf; subst hf; exact ⟨vs, rfl, h, rfl, rfl⟩
 | [], _ :: _, _, _, _, _, hl, _, _ => by simp at hl
 | _ :: _, [], _, _, _, _, hl, _, _ => by simp at hl
 | p :: ps, q :: qs, es, es', vs, h, hl, hp, hf => by
  obtain ⟨p', q', e1, e2, h1, h2⟩ := hp 0 (by simp)
  simp at e1 e2; subst e1; subst e2
  simp only [List.foldlM_cons] at hf
  cases hc : (q.2.ev fr).cells with
  | none => simp [hc] at hf
  | some cs =>
   simp only [hc] at hf
   split at hf
   ·rename_i hcond
    simp only [Option.bind_eq_bind, Option.bind_some] at hf
    obtain ⟨i, v⟩ := p
    simp at h1
    have hcr := cells_rel h2 hc
    have hsz : v.cells.size = sz := by rw [← hcr.1]; exact hcond.1
    have hi : i < es.length := by rw [← h1]; exact hcond.2
    have hle : i * sz + sz ≤ vs.size := by
     have := Nat.mul_le_mul_right sz (show i + 1 ≤ es.length from hi)
     rw [Nat.add_mul] at this; have := h.1; omega
    rw [h1] at hf
    obtain ⟨vs', h5, h6, h7, h8⟩ := fill_rows ps qs _ es' _ (row_set h hcr hcond.1 hi) (by simpa using hl) (fun k hk => by have := hp (k + 1) (by simpa using hk); simpa using this) hf
    refine ⟨vs', ?_, h6, by rw [h7, (lay_getD vs (i * sz) v.cells (by omega)).1], by simpa using h8⟩
    simp only [Instr.fill]
    rw [if_neg (by simp; omega)]
    exact h5
   ·simp at hf

theorem mkSl_ok (hs : Sim P g st w) {n : Nat} {fr : Fr} {a : Act} (hf : FrRel g n fr a.tmps) {t e sz len : Nat} (hu : P.underlying t = some (.slice e)) (hsz : sizeT P e = some sz) {z : List V} (hz : zeroT P e = some z) (hlen : len * sz ≤ 2 ^ 24) (h0 : sz ≠ 0) (hzl : z.length = sz)
    {ps : Array (Nat × Operand)} {qs : List (Nat × X)} (hq : resElems ps.toList = some qs) {es : List (List V)}
    (hv : qs.foldlM (fun (acc : List (List V)) (p : Nat × X) =>
      match (p.2.ev fr).cells with
      | some cs => if cs.length = sz ∧ p.1 < acc.length then some (acc.set p.1 cs) else none
      | none => none) (List.replicate len z) = some es) :
    Done P g (st.push (.mem sz es)) (.msl st.objs.length st.nv 0 len) ((Instr.buildSlice t len (ps.map fun (i, x) => (i, a.eval x))).run P w) := by
  obtain ⟨zz, hzr, hzc⟩ := zeroT_ok (P := P) (w := w) (g := g) hz
  have hr := resElems_rel hf hq
  obtain ⟨vs', h1, h2, h3, h4⟩ := fill_rows (sz := sz) (ps.toList.map fun (i, x) => (i, a.eval x)) qs _ es _ (row_zero hzc hzl len) (by simp [hr.1]) (by
    intro i hi
    obtain ⟨p, q, e1, e2, e3, e4⟩ := hr.2 i (by simpa using hi)
    exact ⟨(p.1, a.eval p.2), q, by simp [e1], e2, e3, e4⟩) hv
  simp at h3 h4
  obtain ⟨e1, e2, e3⟩ := push_mem hs (t := e) (T := len) (by omega) (by omega) (by omega) h2
  refine ⟨.slice (some ⟨w.heap.size, 0, none⟩) len len, _, _, ?_, e1, e2, e3, ?_⟩
  · have ep : (ps.map fun (i, x) => (i, a.eval x)).toList = ps.toList.map fun (i, x) => (i, a.eval x) := by simp
    simp only [Instr.buildSlice, Sem.run_bind, run_underlying hu, Result.andThen_ok, run_sizeT hsz]
    rw [if_neg (by omega)]
    simp only [pure_bind, Sem.run_bind]
    by_cases hl0 : len * sz = 0
    · rw [if_pos hl0]
      have hlen0 : len = 0 := by rcases Nat.mul_eq_zero.1 hl0 with h | h; exact h; exact absurd h h0
      subst hlen0
      simp only [Sem.run_pure, Result.andThen_ok, ep]
      have hvs : (Array.range (0 * sz)).map (zz.cells[· % zz.cells.size]!) = (Array.range (0 * sz)).map ((#[] : Array Value)[· % (#[] : Array Value).size]!) := by simp
      rw [hvs] at h1
      rw [h1]
      simp [newRow]
    · rw [if_neg hl0]
      simp only [Sem.run_bind, hzr, Result.andThen_ok, Sem.run_pure, ep]
      rw [h1]
      simp [newRow]
  · rw [hs.nv]
    have := VRel.msl (g := g.add ⟨some w.heap.size, 0, sz, len⟩) st.objs.length g.nv 0 len w.heap.size ⟨w.heap.size, 0, none⟩ _ (G.add_loc _) rfl (by simp) (by intro _; simp) rfl
    simpa using this

end Go.Proofs.Ytmjnpfackanhlaa.AM
