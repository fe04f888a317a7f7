/- The abstract layer: structs made; all reading operations together. -/
import Derived.Test.YtmjnpfackanhlaaAmOps3
namespace Go.Proofs.Ytmjnpfackanhlaa.AM
open Go Go.RowKit
set_option linter.unusedSimpArgs false
set_option linter.unusedVariables false
variable {P : Program} {g : G} {st : St} {w : World}

def CellsRel (g : G) (cs : List V) (vs : Array Value) : Prop := cs.length = vs.size ∧ ∀ i, i < cs.length → VRel g (cs.getD i .junk) (vs.getD i undef) ∧ (vs.getD i undef).oneCell' = true

theorem CellsRel.mono {g' : G} (hg : g.le g') {cs : List V} {vs : Array Value} (h : CellsRel g cs vs) : CellsRel g' cs vs := ⟨h.1, fun i hi => ⟨(h.2 i hi).1.mono hg, (h.2 i hi).2⟩⟩

theorem cells_rel {A : V} {x : Value} (hA : VRel g A x) {cs : List V} (hc : A.cells = some cs) : CellsRel g cs x.cells := by
 have one : ∀ (A : V) (x : Value), VRel g A x → x.oneCell' = true → x.cells = #[x] → CellsRel g [A] x.cells := by
  intro A x h h1 h2
  rw [h2]
  refine ⟨rfl, fun i hi => ?_⟩
  simp at hi; subst hi
  exact ⟨h, h1⟩
 cases hA with
 | agg cs' vs hl h h1 => simp [V.cells] at hc; subst hc; exact ⟨hl, fun i hi => ⟨h i hi, h1 i hi⟩⟩
 | tup cs' vs hl h => simp [V.cells] at hc
 | junk x => simp [V.cells] at hc
 | bool b => simp [V.cells] at hc; subst hc; exact one _ _ (.bool b) rfl rfl
 | int k n => simp [V.cells] at hc; subst hc; exact one _ _ (.int k n) rfl rfl
 | str s => simp [V.cells] at hc; subst hc; exact one _ _ (.str s) rfl rfl
 | nilp => simp [V.cells] at hc; subst hc; exact one _ _ .nilp rfl rfl
 | ptr id ver i off b L hL hb => simp [V.cells] at hc; subst hc; exact one _ _ (.ptr id ver i off b L hL hb) rfl rfl
 | eptr cs off b o vals hi hr => simp [V.cells] at hc; subst hc; exact one _ _ (.eptr cs off b o vals hi hr) rfl rfl
 | sl k sz es sp b o cap vals hk hk0 hsz hcap he hi hr => simp [V.cells] at hc; subst hc; exact one _ _ (.sl k sz es sp b o cap vals hk hk0 hsz hcap he hi hr) rfl rfl
 | snil k sz hk => simp [V.cells] at hc; subst hc; exact one _ _ (.snil k sz hk) rfl rfl
 | semp k sz a cap hk hk0 => simp [V.cells] at hc; subst hc; exact one _ _ (.semp k sz a cap hk hk0) rfl rfl
 | msl id ver off len b a L hL hb hT ha hp => simp [V.cells] at hc; subst hc; exact one _ _ (.msl id ver off len b a L hL hb hT ha hp) rfl rfl
 | mnil id ver L hL hb => simp [V.cells] at hc; subst hc; exact one _ _ (.mnil id ver L hL hb) rfl rfl
 | asl id ver i off n sz b L hL hb => simp [V.cells] at hc; subst hc; exact one _ _ (.asl id ver i off n sz b L hL hb) rfl rfl
 | mcut id ver len b a L hL hb hT ha hp => simp [V.cells] at hc; subst hc; exact one _ _ (.mcut id ver len b a L hL hb hT ha hp) rfl rfl
 | mcutn id ver L hL hb => simp [V.cells] at hc; subst hc; exact one _ _ (.mcutn id ver L hL hb) rfl rfl
 | nilm => simp [V.cells] at hc; subst hc; exact one _ _ .nilm rfl rfl
 | map id ver b L hL hb => simp [V.cells] at hc; subst hc; exact one _ _ (.map id ver b L hL hb) rfl rfl
 | iter id ver b L hL hb => simp [V.cells] at hc; subst hc; exact one _ _ (.iter id ver b L hL hb) rfl rfl
 | fn f a b fs cs hf hc' h1 h2 => simp [V.cells] at hc; subst hc; exact one _ _ (.fn f a b fs cs hf hc' h1 h2) rfl rfl
 | yld id ver b L hL hb => simp [V.cells] at hc; subst hc; exact one _ _ (.yld id ver b L hL hb) rfl rfl
 | nilf => simp [V.cells] at hc; subst hc; exact one _ _ .nilf rfl rfl
 | nili => simp [V.cells] at hc; subst hc; exact one _ _ .nili rfl rfl
 | iface t v x h => simp [V.cells] at hc; subst hc; exact one _ _ (.iface t v x h) rfl rfl

theorem splice_getD {α : Type} (d : α) (l : List α) (off : Nat) (cs : List α) (h : off + cs.length ≤ l.length) (i : Nat) :
    (splice l off cs).length = l.length ∧ (splice l off cs).getD i d = if off ≤ i ∧ i < off + cs.length then cs.getD (i - off) d else l.getD i d := by
  unfold splice
  refine ⟨by simp; omega, ?_⟩
  simp only [List.getD, List.append_assoc]
  by_cases h1 : i < off
  · rw [List.getElem?_append_left (by simp; omega), if_neg (by omega), List.getElem?_take, if_pos h1]
  · rw [List.getElem?_append_right (by simp; omega)]
    have e : (l.take off).length = off := by simp; omega
    rw [e]
    by_cases h2 : i < off + cs.length
    · rw [List.getElem?_append_left (by omega), if_pos (by omega)]
    · rw [List.getElem?_append_right (by omega), if_neg (by omega), List.getElem?_drop]
      congr 2; omega

def lay (vs : Array Value) (off : Nat) (ns : Array Value) : Array Value := ns.zipIdx.foldl (fun cs (c, j) => cs.setIfInBounds (off + j) c) vs

theorem lay_getD (vs : Array Value) (off : Nat) (ns : Array Value) (h : off + ns.size ≤ vs.size) : (lay vs off ns).size = vs.size ∧
    ∀ i, (lay vs off ns).getD i undef = if off ≤ i ∧ i < off + ns.size then ns.getD (i - off) undef else vs.getD i undef := by
  unfold lay
  rw [← Array.foldl_toList, Array.toList_zipIdx]
  obtain ⟨l⟩ := ns
  simp only [List.size_toArray] at h ⊢
  suffices key : ∀ (l : List Value) (k : Nat) (vs : Array Value), off + k + l.length ≤ vs.size → ((l.zipIdx k).foldl (fun cs (c, j) => cs.setIfInBounds (off + j) c) vs).size = vs.size ∧
      ∀ i, ((l.zipIdx k).foldl (fun cs (c, j) => cs.setIfInBounds (off + j) c) vs).getD i undef = if off + k ≤ i ∧ i < off + k + l.length then l.getD (i - (off + k)) undef else vs.getD i undef by
    have := key l 0 vs (by simpa using h)
    refine ⟨this.1, fun i => ?_⟩
    have := this.2 i
    simp only [Nat.add_zero] at this
    rw [this]
    split <;> simp [Array.getD_eq_getD_getElem?, List.getD]
  intro l
  induction l with
  | nil => intro k vs _; simp; intro i h1 h2; omega
  | cons v l ih =>
    intro k vs hk
    simp only [List.zipIdx_cons, List.foldl_cons]
    have := ih (k + 1) (vs.setIfInBounds (off + k) v) (by simp at hk ⊢; omega)
    refine ⟨by simpa using this.1, fun i => ?_⟩
    rw [this.2 i]
    simp only [List.length_cons] at hk ⊢
    by_cases h1 : off + (k + 1) ≤ i ∧ i < off + (k + 1) + l.length
    · rw [if_pos h1, if_pos (by omega)]
      have : i - (off + k) = (i - (off + (k + 1))) + 1 := by omega
      rw [this]; simp [List.getD]
    · rw [if_neg h1]
      by_cases h2 : i = off + k
      · subst h2
        rw [if_pos (by omega)]
        simp only [Array.getD_eq_getD_getElem?]
        rw [Array.getElem?_setIfInBounds_self_of_lt (by omega)]; simp
      · rw [if_neg (by omega)]
        simp only [Array.getD_eq_getD_getElem?]
        rw [Array.getElem?_setIfInBounds_ne (fun e => h2 e.symm)]

theorem lay_rel {cs ns : List V} {vs us : Array Value} {off : Nat} (h : CellsRel g cs vs) (hn : CellsRel g ns us) (hl : off + ns.length ≤ cs.length) : CellsRel g (splice cs off ns) (lay vs off us) := by
 have h1 := lay_getD vs off us (by rw [← h.1, ← hn.1]; exact hl)
 refine ⟨by rw [(splice_getD V.junk cs off ns hl 0).1, h1.1, h.1], fun i hi => ?_⟩
 rw [(splice_getD V.junk cs off ns hl 0).1] at hi
 rw [(splice_getD V.junk cs off ns hl i).2, h1.2 i, ← hn.1]
 split
 ·exact hn.2 _ (by omega)
 ·exact h.2 i hi

theorem run_mapM {α β : Type} (F : α → Sem β) (H : α → β) (l : List α) (h : ∀ a, a ∈ l → (F a).run P w = .ok (H a) w) : (l.mapM F).run P w = .ok (l.map H) w := by
 induction l with
 | nil => simp
 | cons a l ih =>
  rw [List.mapM_cons]
  simp [h a (by simp), ih (fun b hb => h b (by simp [hb]))]

theorem fill_ok {place : Nat → Option (Nat × Nat)} : ∀ (ps : List (Nat × Value)) (qs : List (Nat × Nat × List V)) (cs cs' : List V) (vs : Array Value), CellsRel g cs vs → qs.length = ps.length →
  (∀ i, i < ps.length → ∃ p q, ps[i]? = some p ∧ qs[i]? = some q ∧ place p.1 = some (q.1, q.2.1) ∧ CellsRel g q.2.2 p.2.cells ∧ q.2.2.length = q.2.1) →
  qs.foldlM (fun (acc : List V) (q : Nat × Nat × List V) => if q.1 + q.2.1 ≤ acc.length then some (splice acc q.1 q.2.2) else none) cs = some cs' → ∃ vs', Instr.fill place vs ps = some vs' ∧ CellsRel g cs' vs'
 | [], [], cs, cs', vs, h, _, _, hf => by simp at hf; subst hf; exact ⟨vs, rfl, h⟩
 | [], _ :: _, _, _, _, _, hl, _, _ => by simp at hl
 | _ :: _, [], _, _, _, _, hl, _, _ => by simp at hl
 | p :: ps, q :: qs, cs, cs', vs, h, hl, hp, hf => by
  obtain ⟨p', q', e1, e2, h1, h2, h3⟩ := hp 0 (by simp)
  simp at e1 e2; subst e1; subst e2
  simp only [List.foldlM_cons] at hf
  split at hf
  ·rename_i hle
   simp only [Option.bind_eq_bind, Option.bind_some] at hf
   obtain ⟨i, v⟩ := p
   have hsz : v.cells.size = q.2.1 := by rw [← h2.1]; exact h3
   obtain ⟨vs', h5, h6⟩ := fill_ok ps qs _ cs' _ (lay_rel h h2 (by omega)) (by simpa using hl) (fun i hi => by have := hp (i + 1) (by simpa using hi); simpa using this) hf
   refine ⟨vs', ?_, h6⟩
   simp only [Instr.fill, h1]
   rw [if_neg (by have := h.1; simp; omega)]
   exact h5
  ·simp at hf

theorem zeroT_ok {t : Nat} {z : List V} (hz : zeroT P t = some z) : ∃ zz, (zeroValue t).run P w = .ok zz w ∧ CellsRel g z zz.cells := by
 unfold zeroT at hz
 cases hi : P.info? t with
 | none => simp [hi] at hz
 | some i =>
  simp only [hi, Option.bind_some] at hz
  cases hzz : i.zero with
  | none => simp [hzz] at hz
  | some v =>
   simp only [hzz] at hz
   have := constL_rel (g := g) hz
   refine ⟨v, by simp [zeroValue, run_ti hi, hzz], by simpa using this.1, fun i hi => ?_⟩
   have := this.2 i hi
   simpa [Array.getD_eq_getD_getElem?, List.getD] using this

theorem resParts_rel {n : Nat} {fr : Fr} {a : Act} (hf : FrRel g n fr a.tmps) {fs : Array Field} : ∀ {ps : List (Nat × Operand)} {qs : List (Nat × Nat × X)}, resParts P fs ps = some qs →
  qs.length = ps.length ∧ ∀ i, i < ps.length → ∃ p q f, ps[i]? = some p ∧ qs[i]? = some q ∧ fs[p.1]? = some f ∧ q.1 = f.offset ∧ sizeT P f.type = some q.2.1 ∧ VRel g (q.2.2.ev fr) (a.eval p.2)
 | [], qs, h => by simp [resParts] at h; subst h; exact ⟨rfl, fun i hi => by simp at hi⟩
 | (i, x) :: r, qs, h => by
  simp only [resParts] at h
  split at h
  ·rename_i f y l h1 h2 h3
   simp only [Option.map_eq_some_iff] at h
   obtain ⟨k, hk, rfl⟩ := h
   have ih := resParts_rel hf h3
   refine ⟨by simp [ih.1], fun j hj => ?_⟩
   cases j with
   | zero => exact ⟨_, _, f, rfl, rfl, h1, rfl, hk, resX_rel hf h2⟩
   | succ j => have := ih.2 j (by simpa using hj); simpa using this
  ·simp at h

theorem fold_parts {fr : Fr} : ∀ {qs : List (Nat × Nat × X)} {cs cs' : List V}, qs.foldlM (fun (acc : List V) (p : Nat × Nat × X) =>
   match (p.2.2.ev fr).cells with
   | some cs => if cs.length = p.2.1 ∧ p.1 + p.2.1 ≤ acc.length then some (splice acc p.1 cs) else none
   | none => none) cs = some cs' →
  (∀ (i : Nat) (q : Nat × Nat × X), qs[i]? = some q → ∃ l : List V, (q.2.2.ev fr).cells = some l ∧ l.length = q.2.1) ∧
  (qs.map fun q => (q.1, q.2.1, ((q.2.2.ev fr).cells).getD [])).foldlM (fun (acc : List V) (q : Nat × Nat × List V) => if q.1 + q.2.1 ≤ acc.length then some (splice acc q.1 q.2.2) else none) cs = some cs'
 | [], cs, cs', h => ⟨fun i q hq => by simp at hq, by simpa using h⟩
 | q :: qs, cs, cs', h => by
  simp only [List.foldlM_cons] at h
  cases hc : (q.2.2.ev fr).cells with
  | none => simp [hc] at h
  | some l =>
   simp only [hc] at h
   split at h
   ·rename_i hl
    simp only [Option.bind_eq_bind, Option.bind_some] at h
    obtain ⟨h1, h2⟩ := fold_parts h
    refine ⟨fun i q' hq => ?_, ?_⟩
    ·cases i with
     | zero => simp at hq; subst hq; exact ⟨l, hc, hl.1⟩
     | succ i => exact h1 i q' (by simpa using hq)
    ·simp only [List.map_cons, List.foldlM_cons, hc, Option.getD_some, if_pos hl.2, Option.bind_eq_bind, Option.bind_some]
     exact h2
   ·simp at h

theorem build_ok {n : Nat} {fr : Fr} {a : Act} (hf : FrRel g n fr a.tmps) {t : Nat} {fs : Array Field} (hu : P.underlying t = some (.struct fs)) {z : List V} (hz : zeroT P t = some z) (hall : fs.toList.all (fun f => (sizeT P f.type).isSome) = true)
    {ps : Array (Nat × Operand)} {qs : List (Nat × Nat × X)} (hq : resParts P fs ps.toList = some qs) {cs : List V}
    (hv : qs.foldlM (fun (acc : List V) (p : Nat × Nat × X) =>
      match (p.2.2.ev fr).cells with
      | some cs => if cs.length = p.2.1 ∧ p.1 + p.2.1 ≤ acc.length then some (splice acc p.1 cs) else none
      | none => none) z = some cs) :
    ∃ y, (Instr.build t (ps.map fun (i, x) => (i, a.eval x))).run P w = .ok y w ∧ VRel g (.agg cs) y := by
  obtain ⟨zz, hzr, hzc⟩ := zeroT_ok (P := P) (w := w) (g := g) hz
  have hr := resParts_rel hf hq
  obtain ⟨h1, h2⟩ := fold_parts hv
  have hmap : (fs.mapM fun f => (do pure (f.offset, ← sizeOf f.type) : Sem (Nat × Nat))).run P w = .ok (fs.map fun f => (f.offset, (sizeT P f.type).getD 0)) w := by
    rw [Array.mapM_eq_mapM_toList]
    rw [Sem.run_map, run_mapM (P := P) (w := w) _ (fun f => (f.offset, (sizeT P f.type).getD 0))]
    · simp only [Result.andThen_ok]; congr 1; apply Array.ext'; simp
    · intro f hf'
      have := List.all_eq_true.1 hall f hf'
      cases hs : sizeT P f.type with
      | none => simp [hs] at this
      | some k => simp [run_sizeT hs]
  obtain ⟨vs', h3, h4⟩ := fill_ok (place := fun i => (fs.map fun f => (f.offset, (sizeT P f.type).getD 0))[i]?) (ps.toList.map fun (i, x) => (i, a.eval x)) (qs.map fun q => (q.1, q.2.1, ((q.2.2.ev fr).cells).getD [])) z cs zz.cells hzc (by simp [hr.1]) (by
    intro i hi
    simp at hi
    obtain ⟨p, q, f, e1, e2, e3, e4, e5, e6⟩ := hr.2 i (by simpa using hi)
    obtain ⟨l, hl1, hl2⟩ := h1 i q e2
    refine ⟨(p.1, a.eval p.2), (q.1, q.2.1, l), by simp [e1], by simp [e2, hl1], by simp [e3, e4, e5], cells_rel e6 hl1, hl2⟩) h2
  refine ⟨.agg vs', ?_, .agg _ _ h4.1 (fun i hi => (h4.2 i hi).1) (fun i hi => (h4.2 i hi).2)⟩
  simp only [Instr.build, Sem.run_bind, hzr, Result.andThen_ok, run_underlying hu]
  have hmap' : (fs.mapM fun f => (do let y ← sizeOf f.type; pure (f.offset, y) : Sem (Nat × Nat))).run P w = .ok (fs.map fun f => (f.offset, (sizeT P f.type).getD 0)) w := hmap
  simp only [hmap', Result.andThen_ok]
  have e : (ps.map fun (i, x) => (i, a.eval x)).toList = ps.toList.map fun (i, x) => (i, a.eval x) := by simp
  rw [e, h3]
  rfl

end Go.Proofs.Ytmjnpfackanhlaa.AM
