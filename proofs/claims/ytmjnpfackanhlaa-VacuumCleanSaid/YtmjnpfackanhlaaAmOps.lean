/- The abstract layer: operations that touch no memory, or only read. -/
import Derived.Test.YtmjnpfackanhlaaAmSim
import Derived.Laws.Cells
import Derived.Laws.CopyRow
import Derived.Laws.Entries
namespace Go.Proofs.Ytmjnpfackanhlaa.AM
open Go Go.RowKit
set_option linter.unusedSimpArgs false
set_option linter.unusedVariables false
variable {P : Program} {g : G} {st : St} {w : World}

structure Reads (P : Program) (g : G) (st : St) (w : World) : Prop where
 imm : ∀ (b o : Nat) (x : Value), g.imm b o = some x → w.cell? ⟨b, o, none⟩ = some x ∧ x.oneCell' = true
 obj : ∀ (id ver : Nat) (o : Obj) (L : Loc), st.get id ver = some o → g.loc ver = some L → OLoc P g w L o

theorem Sim.reads (h : Sim P g st w) : Reads P g st w :=
 ⟨h.imm, fun id ver o L ho hL => by obtain ⟨L', hL', h2⟩ := h.obj _ _ _ (get_objs ho); cases hL.symm.trans hL'; exact h2⟩

theorem const1_rel {x : Value} {v : V} (h : const1 x = some v) : VRel g v x := by
 cases x with
 | bool b => simp [const1] at h; subst h; exact .bool b
 | int k n => simp [const1] at h; subst h; exact .int k n
 | string s => simp [const1] at h; subst h; exact .str s
 | pointer a => cases a <;> simp [const1] at h; subst h; exact .nilp
 | slice a l c =>
  cases a with
  | some _ => simp [const1] at h
  | none => cases l <;> cases c <;> simp [const1] at h; subst h; exact .snil _ _ (.inl rfl)
 | map r => cases r <;> simp [const1] at h; subst h; exact .nilm
 | nilFunc => simp [const1] at h; subst h; exact .nilf
 | nilIface => simp [const1] at h; subst h; exact .nili
 | _ => simp [const1] at h

theorem const1_one {x : Value} {v : V} (h : const1 x = some v) : x.oneCell' = true := by
 cases x <;> simp [const1] at h <;> simp [Value.oneCell']

theorem constL_rel : ∀ {l : List Value} {vs : List V}, constL l = some vs → vs.length = l.length ∧ ∀ i, i < vs.length → VRel g (vs.getD i .junk) (l.getD i undef) ∧ (l.getD i undef).oneCell' = true
 | [], vs, h => by simp [constL] at h; subst h; exact ⟨rfl, fun i hi => by simp at hi⟩
 | v :: r, vs, h => by
  simp only [constL] at h
  split at h
  ·rename_i a b h1 h2
   simp at h; subst h
   have ih := constL_rel h2
   refine ⟨by simp [ih.1], fun i hi => ?_⟩
   cases i with
   | zero => exact ⟨const1_rel h1, const1_one h1⟩
   | succ i => exact ih.2 i (by simpa using hi)
  ·simp at h

theorem constV_rel {x : Value} {v : V} (h : constV x = some v) : VRel g v x := by
 unfold constV at h
 split at h
 ·rename_i cs
  cases hc : constL cs.toList with
  | none => simp [hc] at h
  | some l =>
   simp [hc] at h; subst h
   have := constL_rel (g := g) hc
   refine .agg _ _ (by simpa using this.1) (fun i hi => ?_) (fun i hi => ?_)
   ·have := (this.2 i hi).1; simpa [Array.getD_eq_getD_getElem?, List.getD] using this
   ·have := (this.2 i hi).2; simpa [Array.getD_eq_getD_getElem?, List.getD] using this
 ·split at h
  ·rename_i he
   simp only [Bool.and_eq_true, Array.isEmpty_iff] at he
   obtain ⟨rfl, rfl⟩ := he
   simp at h; subst h; exact .fn _ _ _ _ _ rfl rfl (fun i hi => by simp at hi) (fun i hi => by simp at hi)
  ·simp at h
 ·exact const1_rel h

theorem resX_rel {n : Nat} {fr : Fr} {a : Act} (hf : FrRel g n fr a.tmps) {x : Operand} {y : X} (h : resX x = some y) : VRel g (y.ev fr) (a.eval x) := by
 cases x with
 | tmp t => simp [resX] at h; subst h; exact hf.2 t
 | const v =>
  simp [resX] at h
  obtain ⟨z, hz, rfl⟩ := h
  exact constV_rel hz
 | global g => simp [resX] at h
 | func f => simp [resX] at h; subst h; exact .fn _ _ _ _ _ rfl rfl (fun i hi => by simp at hi) (fun i hi => by simp at hi)

theorem resXs_rel {n : Nat} {fr : Fr} {a : Act} (hf : FrRel g n fr a.tmps) : ∀ {xs : List Operand} {ys : List X}, resXs xs = some ys →
  ys.length = xs.length ∧ ∀ i, i < ys.length → VRel g ((ys.map (·.ev fr)).getD i .junk) ((xs.map a.eval).getD i undef)
 | [], ys, h => by simp [resXs] at h; subst h; exact ⟨rfl, fun i hi => by simp at hi⟩
 | x :: r, ys, h => by
  simp only [resXs] at h
  split at h
  ·rename_i y b h1 h2
   simp at h; subst h
   have ih := resXs_rel hf h2
   refine ⟨by simp [ih.1], fun i hi => ?_⟩
   cases i with
   | zero => exact resX_rel hf h1
   | succ i => exact ih.2 i (by simpa using hi)
  ·simp at h

theorem resXs_rels {n : Nat} {fr : Fr} {a : Act} (hf : FrRel g n fr a.tmps) {xs : Array Operand} {ys : List X} (h : resXs xs.toList = some ys) :
  VRels g (ys.map (·.ev fr)) (xs.map a.eval) := by
 have := resXs_rel hf h
 refine ⟨by simp [this.1], fun i hi => ?_⟩
 have := this.2 i (by simpa using hi)
 simpa [Array.getD_eq_getD_getElem?, List.getD] using this

/-! ### types -/
theorem run_ti {t : Nat} {i : TypeInfo} (h : P.info? t = some i) : (typeInfo t).run P w = .ok i w := by simp [typeInfo, h]
theorem run_sizeT {t n : Nat} (h : sizeT P t = some n) : (sizeOf t).run P w = .ok n w := by
 simp only [sizeT, Option.map_eq_some_iff] at h
 obtain ⟨i, hi, rfl⟩ := h
 simp [sizeOf, run_ti hi]

theorem run_aggT {t : Nat} {b : Bool} (h : aggT P t = some b) : (isAgg t).run P w = .ok b w := by
 unfold aggT at h
 cases hu : P.underlying t with
 | none => simp [hu] at h
 | some d => simp only [hu] at h; cases d <;> simp at h <;> subst h <;> simp [isAgg, run_underlying hu]

theorem szT_agg {t : Nat} {n : Option Nat} (h : szT P t = some n) : aggT P t = some n.isSome ∧ ∃ m, sizeT P t = some m ∧ ∀ k, n = some k → k = m := by
 unfold szT at h
 split at h
 ·rename_i m h1 h2; simp at h; subst h; exact ⟨h1, m, h2, fun k hk => by simp at hk; exact hk.symm⟩
 ·rename_i m h1 h2; simp at h; subst h; exact ⟨h1, m, h2, fun k hk => by simp at hk⟩
 ·simp at h

/-! ### loads -/
theorem add_zero_addr (b o j : Nat) : (⟨b, o, none⟩ : Addr).add j = ⟨b, o + j, none⟩ := by unfold Addr.add; split <;> simp_all

theorem cellsAt_rel (hs : Reads P g st w) {A : V} {x : Value} (hA : VRel g A x) {cs : List V} {off : Nat} (hc : st.cellsAt A = some (cs, off)) :
  ∃ b o, x = .pointer (some ⟨b, o + off, none⟩) ∧ ∀ j, j < cs.length → ∃ y, w.cell? ⟨b, o + j, none⟩ = some y ∧ VRel g (cs.getD j .junk) y ∧ y.oneCell' = true := by
 cases hA with
 | ptr id ver i off' b L hL hb =>
  simp only [St.cellsAt] at hc
  split at hc
  ·rename_i sz es ho
   simp only [Option.map_eq_some_iff] at hc
   obtain ⟨e, he, h1⟩ := hc
   simp at h1; obtain ⟨rfl, rfl⟩ := h1
   obtain ⟨h1, h2, h3, h4, h5⟩ := hs.obj _ _ _ _ ho hL
   rw [hb] at h5
   obtain ⟨c, t, hcell, hsz, hr⟩ := h5
   have hi : i < es.length := (List.getElem?_eq_some_iff.1 he).1
   have hgd : es.getD i [] = e := by simp [List.getD, he]
   have hl := h3 i hi
   rw [hgd] at hl
   refine ⟨b, L.o + i * L.sz, rfl, fun j hj => ?_⟩
   have := hr i j hi (by omega)
   rw [hgd] at this
   refine ⟨c.getD (L.o + i * sz + j) undef, ?_, this⟩
   have hlt : L.o + i * sz + j < c.size := by
    have : (i + 1) * sz ≤ L.T * sz := Nat.mul_le_mul_right _ (by omega)
    rw [Nat.add_mul] at this; omega
   simp [World.cell?, hcell, h1, Array.getD, hlt]
  ·simp at hc
 | eptr cs' off' b o vals hi hr =>
  simp [St.cellsAt] at hc; obtain ⟨rfl, rfl⟩ := hc
  exact ⟨b, o, rfl, fun j hj => ⟨vals j, (hs.imm _ _ _ (hi j hj)).1, hr j hj, (hs.imm _ _ _ (hi j hj)).2⟩⟩
 | _ => simp [St.cellsAt] at hc

theorem part_load {t : Nat} {n : Option Nat} (hn : szT P t = some n) {cs : List V} {off b o : Nat}
    (hc : ∀ j, j < cs.length → ∃ y, w.cell? ⟨b, o + j, none⟩ = some y ∧ VRel g (cs.getD j .junk) y ∧ y.oneCell' = true) {v : V} (hv : partV cs off n = some v) :
    ∃ y, (loadVar t ⟨b, o + off, none⟩).run P w = .ok y w ∧ VRel g v y := by
  obtain ⟨ha, m, hm, hk⟩ := szT_agg hn
  cases n with
  | none =>
    simp only [partV] at hv
    have hj := (List.getElem?_eq_some_iff.1 hv).1
    obtain ⟨y, h1, h2, _⟩ := hc off hj
    have : cs.getD off .junk = v := by simp [List.getD, hv]
    rw [this] at h2
    exact ⟨y, by simp [loadVar, run_aggT ha, h1], h2⟩
  | some k =>
    obtain rfl := hk k rfl
    simp only [partV] at hv
    split at hv
    · rename_i hle
      simp at hv; subst hv
      have key : ∀ j, j < k → w.cell? ((⟨b, o + off, none⟩ : Addr).add j) = some (((w.cell? ⟨b, o + off + j, none⟩).getD undef)) := by
        intro j hj
        obtain ⟨y, h1, _⟩ := hc (off + j) (by omega)
        rw [add_zero_addr, Nat.add_assoc]; rw [h1]; rfl
      refine ⟨.agg ((List.range k).map fun j => (w.cell? ⟨b, o + off + j, none⟩).getD undef).toArray, ?_, ?_⟩
      · simp [loadVar, run_aggT ha, run_sizeT hm, run_loadCells w _ k _ key]
      · have hlen : ((cs.drop off).take k).length = k := by simp; omega
        refine .agg _ _ (by simp; omega) (fun i hi => ?_) (fun i hi => ?_)
        · rw [hlen] at hi
          obtain ⟨y, h1, h2, _⟩ := hc (off + i) (by omega)
          have e1 : ((cs.drop off).take k).getD i .junk = cs.getD (off + i) .junk := by simp [List.getD, hi]
          rw [e1]
          rw [← Nat.add_assoc] at h1
          simpa [Array.getD_eq_getD_getElem?, hi, h1] using h2
        · rw [hlen] at hi
          obtain ⟨y, h1, _, h3⟩ := hc (off + i) (by omega)
          rw [← Nat.add_assoc] at h1
          simpa [Array.getD_eq_getD_getElem?, hi, h1] using h3
    · simp at hv

theorem agg_open {cs : List V} {x : Value} (h : VRel g (.agg cs) x) : ∃ vs : Array Value, x = .agg vs ∧ cs.length = vs.size ∧ (∀ i, i < cs.length → VRel g (cs.getD i .junk) (vs.getD i undef)) ∧ ∀ i, i < cs.length → (vs.getD i undef).oneCell' = true := by
 cases h with
 | agg cs vs hl h h1 => exact ⟨vs, rfl, hl, h, h1⟩

theorem part_ok {t : Nat} {n : Option Nat} (hn : szT P t = some n) {cs : List V} {off : Nat} {vs : Array Value} (hl : cs.length = vs.size)
  (h : ∀ i, i < cs.length → VRel g (cs.getD i .junk) (vs.getD i undef)) (h1 : ∀ i, i < cs.length → (vs.getD i undef).oneCell' = true)
  {v : V} (hv : partV cs off n = some v) : ∃ y, (part t vs off).run P w = .ok y w ∧ VRel g v y := by
 obtain ⟨ha, m, hm, hk⟩ := szT_agg hn
 cases n with
 | none =>
  simp only [partV] at hv
  have hj := (List.getElem?_eq_some_iff.1 hv).1
  have h2 := h off hj
  have : cs.getD off .junk = v := by simp [List.getD, hv]
  rw [this] at h2
  have hlt : off < vs.size := by omega
  refine ⟨vs.getD off undef, ?_, h2⟩
  simp [part, run_aggT ha, hlt, Array.getD]
 | some k =>
  obtain rfl := hk k rfl
  simp only [partV] at hv
  split at hv
  ·rename_i hle
   simp at hv; subst hv
   refine ⟨.agg (vs.extract off (off + k)), by simp [part, run_aggT ha, run_sizeT hm], ?_⟩
   have hlen : ((cs.drop off).take k).length = k := by simp; omega
   refine .agg _ _ (by simp; omega) (fun i hi => ?_) (fun i hi => ?_)
   ·rw [hlen] at hi
    have h2 := h (off + i) (by omega)
    have e1 : ((cs.drop off).take k).getD i .junk = cs.getD (off + i) .junk := by simp [List.getD, hi]
    rw [e1]
    have e2 : (vs.extract off (off + k)).getD i undef = vs.getD (off + i) undef := by
     simp only [Array.getD_eq_getD_getElem?, Array.getElem?_extract]; rw [if_pos (by omega)]
    rw [e2]; exact h2
   ·rw [hlen] at hi
    have h2 := h1 (off + i) (by omega)
    have e2 : (vs.extract off (off + k)).getD i undef = vs.getD (off + i) undef := by
     simp only [Array.getD_eq_getD_getElem?, Array.getElem?_extract]; rw [if_pos (by omega)]
    rw [e2]; exact h2
  ·simp at hv

/-! ### one operation after another -/
theorem ld_ok (hs : Reads P g st w) {t : Nat} {n : Option Nat} (hn : szT P t = some n) {A : V} {x : Value} (hA : VRel g A x) {cs : List V} {off : Nat}
  (hc : st.cellsAt A = some (cs, off)) {v : V} (hv : partV cs off n = some v) : ∃ y, (Instr.loadAt t x).run P w = .ok y w ∧ VRel g v y := by
 obtain ⟨b, o, rfl, h⟩ := cellsAt_rel hs hA hc
 obtain ⟨y, h1, h2⟩ := part_load hn h hv
 exact ⟨y, by simp [Instr.loadAt, Instr.sureAddr, h1], h2⟩

theorem fld_ok {t : Nat} {fs : Array Field} (hu : P.underlying t = some (.struct fs)) {i k : Nat} {f : Field} (hf : fs[i]? = some f) (hsz : sizeT P f.type = some (k + 1))
  {A : V} {x : Value} (hA : VRel g A x) {v : V} (hv : offV f.offset A = some v) :
  ∃ y, (Instr.fieldAt t x i).run P w = .ok y w ∧ VRel g v y := by
 have hrun : ∀ b o, (Instr.fieldAt t (.pointer (some ⟨b, o, none⟩)) i).run P w = .ok (.pointer (some ⟨b, o + f.offset, none⟩)) w := by
  intro b o
  simp [Instr.fieldAt, run_underlying hu, hf, Instr.sureAddr, fieldPlace, run_sizeT hsz, add_zero_addr]
 cases hA with
 | ptr id ver i' off b L hL hb =>
  simp [offV] at hv; subst hv
  refine ⟨_, hrun _ _, ?_⟩
  have := VRel.ptr (g := g) id ver i' (off + f.offset) b L hL hb
  rw [← Nat.add_assoc] at this; exact this
 | eptr cs off b o vals hi hr =>
  simp [offV] at hv; subst hv
  refine ⟨_, hrun _ _, ?_⟩
  have := VRel.eptr (g := g) cs (off + f.offset) b o vals hi hr
  rw [← Nat.add_assoc] at this; exact this
 | _ => simp [offV] at hv

theorem fldV_ok {t : Nat} {fs : Array Field} (hu : P.underlying t = some (.struct fs)) {i : Nat} {f : Field} (hf : fs[i]? = some f) {n : Option Nat} (hn : szT P f.type = some n)
  {cs : List V} {x : Value} (hA : VRel g (.agg cs) x) {v : V} (hv : partV cs f.offset n = some v) :
  ∃ y, (Instr.field t x i).run P w = .ok y w ∧ VRel g v y := by
 obtain ⟨vs, rfl, hl, h, h1⟩ := agg_open hA
 obtain ⟨y, h2, h3⟩ := part_ok (P := P) (w := w) hn hl h h1 hv
 exact ⟨y, by simp [Instr.field, run_underlying hu, hf, asAgg, h2], h3⟩

theorem int_open {k : IntKind} {n : Int} {x : Value} (h : VRel g (.int k n) x) : x = .int k n := by cases h; rfl
theorem asInt_open {v : V} {n : Int} {x : Value} (h : VRel g v x) (hv : v.asInt = some n) : ∃ k, x = .int k n := by
 cases h <;> simp [V.asInt] at hv
 subst hv; exact ⟨_, rfl⟩

theorem idx_ok (hs : Reads P g st w) {t e sz : Nat} (hu : P.underlying t = some (.slice e)) (hsz : sizeT P e = some sz) {X I : V} {x i : Value} (hX : VRel g X x) (hI : VRel g I i)
    {v : V} (hv : idxV st sz X I = some v) : ∃ y, (Instr.indexAt t x i).run P w = .ok y w ∧ VRel g v y := by
  unfold idxV at hv
  cases hI with
  | int k n =>
    simp only at hv
    cases hX with
    | sl kk sz' es sp b o cap vals hk hk0 h0 hc he hi hr =>
      simp only at hv
      split at hv
      · rename_i hcond
        obtain ⟨h1, h2, rfl⟩ := hcond
        simp at hv; subst hv
        have hlt : n.toNat < es.length := by omega
        refine ⟨.pointer (some ⟨b, o + n.toNat * sz', none⟩), ?_, ?_⟩
        · simp [Instr.indexAt, asIntOf, run_underlying hu, h1, h2, run_sizeT hsz, add_zero_addr]
        · have hlt' : n.toNat < (es ++ sp).length := by simp; omega
          have hg : (es ++ sp).getD n.toNat [] = es.getD n.toNat [] := by simp [List.getD, List.getElem?_append_left hlt]
          have hl := he n.toNat hlt'
          rw [hg] at hl
          have := VRel.eptr (g := g) (es.getD n.toNat []) 0 b (o + n.toNat * sz') (fun j => vals n.toNat j) (fun j hj => hi _ _ hlt' (by omega)) (fun j hj => by have := hr n.toNat j hlt' (by omega); rw [hg] at this; exact this)
          simpa using this
      · simp at hv
    | snil k sz' hk => simp at hv; omega
    | semp k sz' a cap hk hk0 => simp at hv; omega
    | msl id ver off len b ad L hL hb hT hadr hp =>
      simp only at hv
      split at hv
      · rename_i sz' es ho
        split at hv
        · rename_i hcond
          obtain ⟨h1, h2, rfl⟩ := hcond
          simp at hv; subst hv
          obtain rfl := hadr (by omega)
          have hm := hs.obj _ _ _ _ ho hL
          refine ⟨.pointer (some ⟨b, L.o + off * L.sz + n.toNat * sz', none⟩), ?_, ?_⟩
          · simp [Instr.indexAt, asIntOf, run_underlying hu, h1, h2, run_sizeT hsz, add_zero_addr]
          · have := VRel.ptr (g := g) id ver (off + n.toNat) 0 b L hL hb
            have e : L.o + (off + n.toNat) * L.sz + 0 = L.o + off * L.sz + n.toNat * sz' := by rw [hm.1, Nat.add_mul]; omega
            rw [e] at this; exact this
        · simp at hv
      · simp at hv
    | mnil id ver L hL hb =>
      simp only at hv
      split at hv
      · split at hv
        · rename_i hcond; simp at hcond; omega
        · simp at hv
      · simp at hv
    | _ => simp at hv
  | _ => simp at hv

theorem idxA_ok {t e sz len : Nat} (hu : P.underlying t = some (.array len e)) (hsz : sizeT P e = some sz) {X I : V} {x i : Value} (hX : VRel g X x) (hI : VRel g I i) {n : Int} (hn : I.asInt = some n)
  (hb : 0 ≤ n ∧ n < len) {v : V} (hv : offV (n.toNat * sz) X = some v) :
  ∃ y, (Instr.indexAt t x i).run P w = .ok y w ∧ VRel g v y := by
 obtain ⟨k, rfl⟩ := asInt_open hI hn
 have hrun : ∀ b o, (Instr.indexAt t (.pointer (some ⟨b, o, none⟩)) (.int k n)).run P w = .ok (.pointer (some ⟨b, o + n.toNat * sz, none⟩)) w := by
  intro b o
  simp [Instr.indexAt, asIntOf, run_underlying hu, Instr.sureAddr, hb, run_sizeT hsz, add_zero_addr]
 cases hX with
 | ptr id ver i' off b L hL hb =>
  simp [offV] at hv; subst hv
  refine ⟨_, hrun _ _, ?_⟩
  have := VRel.ptr (g := g) id ver i' (off + n.toNat * sz) b L hL hb
  rw [← Nat.add_assoc] at this; exact this
 | eptr cs off b o vals hi hr =>
  simp [offV] at hv; subst hv
  refine ⟨_, hrun _ _, ?_⟩
  have := VRel.eptr (g := g) cs (off + n.toNat * sz) b o vals hi hr
  rw [← Nat.add_assoc] at this; exact this
 | _ => simp [offV] at hv

theorem idxV_ok {t e sz len : Nat} {ag : Bool} (hu : P.underlying t = some (.array len e)) (hsz : sizeT P e = some sz) (hag : aggT P e = some ag) {cs : List V} {I : V} {x i : Value} (hX : VRel g (.agg cs) x)
  (hI : VRel g I i) {n : Int} (hn : I.asInt = some n) (hb : 0 ≤ n ∧ n < len) {v : V} (hv : partV cs (n.toNat * sz) (if ag then some sz else none) = some v) :
  ∃ y, (Instr.index t x i).run P w = .ok y w ∧ VRel g v y := by
 obtain ⟨k, rfl⟩ := asInt_open hI hn
 obtain ⟨vs, rfl, hl, h, h1⟩ := agg_open hX
 have hn' : szT P e = some (if ag then some sz else none) := by cases ag <;> simp [szT, hag, hsz]
 obtain ⟨y, h2, h3⟩ := part_ok (P := P) (w := w) hn' hl h h1 hv
 exact ⟨y, by simp [Instr.index, asIntOf, run_underlying hu, hb, run_sizeT hsz, h2], h3⟩

theorem idxS_ok {t : Nat} (hu : P.underlying t = some .string) {s : ByteArray} {I : V} {i : Value} (hI : VRel g I i) {n : Int} (hn : I.asInt = some n) (hb : 0 ≤ n ∧ n < s.size) :
  (Instr.index t (.string s) i).run P w = .ok (.int .u8 (s.data.getD n.toNat 0).toNat) w := by
 obtain ⟨k, rfl⟩ := asInt_open hI hn
 have hlt : n.toNat < s.size := by omega
 have hlt' : n.toNat < s.data.size := hlt
 have : s[n.toNat]? = some (s.data.getD n.toNat 0) := by
  rw [getElem?_pos s n.toNat hlt]; simp only [Array.getD]; rw [dif_pos hlt']; rfl
 simp [Instr.index, asIntOf, run_underlying hu, hb.1, this]

theorem bin_ok {op : BinOp} {t : Nat} {x y : Operand} {A B : V} {a b : Value} (hA : VRel g A a) (hB : VRel g B b) {v : V} (hv : binV op A B = some v) :
    ∃ z, (do eqGuard op t x y a b; binOp op t a b : Sem Value).run P w = .ok z w ∧ VRel g v z := by
  cases hA with
  | int k n =>
    cases hB with
    | int k' m =>
      have hg : (eqGuard op t x y (.int k n) (.int k' m)).run P w = .ok () w := by unfold eqGuard; split <;> simp
      cases op <;> simp only [binV] at hv
      case shl =>
        split at hv
        · simp at hv
        · rename_i h; simp at hv; subst hv; exact ⟨_, by simp [hg, Go.binOp, Op.shift, h], .int _ _⟩
      case shr =>
        split at hv
        · simp at hv
        · rename_i h; simp at hv; subst hv; exact ⟨_, by simp [hg, Go.binOp, Op.shift, h], .int _ _⟩
      all_goals
        split at hv
        · rename_i hk; subst hk
          simp only [intBin] at hv
          first
          | (obtain rfl := Option.some.inj hv; refine ⟨_, ?_, VRel.int _ _⟩; simp [hg, Go.binOp, Op.intArith, Op.intCmp, Op.intBits]; done)
          | (obtain rfl := Option.some.inj hv; refine ⟨_, ?_, VRel.bool _⟩; simp [hg, Go.binOp, Op.intArith, Op.intCmp, Op.intBits]; done)
          | (simp at hv; done)
          | (split at hv
             · simp at hv
             · rename_i h; simp at hv; subst hv; exact ⟨_, by simp [hg, Go.binOp, Op.intDiv, h], .int _ _⟩)
        · simp at hv
    | _ => simp [binV] at hv
  | str s =>
    cases hB with
    | str s' =>
      have hg : (eqGuard op t x y (.string s) (.string s')).run P w = .ok () w := by unfold eqGuard; split <;> simp
      cases op <;> simp only [binV, strBin] at hv
      case add =>
        split at hv
        · rename_i h
          simp at hv; subst hv
          have h' : ¬ ((s.size + s'.size : Nat) : Int) > IntKind.i64.max := by
            have : IntKind.i64.max = 9223372036854775807 := by decide
            omega
          exact ⟨_, by simp only [Sem.run_bind, hg, Result.andThen_ok, Go.binOp, Op.stringOp, if_neg h']; rfl, .str _⟩
        · simp at hv
      all_goals first
        | (simp at hv; done)
        | (simp at hv; subst hv; exact ⟨_, by simp [hg, Go.binOp, Op.stringOp], .bool _⟩)
    | _ => simp [binV] at hv
  | _ => simp [binV] at hv

theorem un_ok {op : UnOp} {A : V} {a : Value} (hA : VRel g A a) {v : V} (hv : unV op A = some v) : ∃ z, (Op.unary op a).run P w = .ok z w ∧ VRel g v z := by
 cases hA <;> cases op <;> simp [unV] at hv
 ·subst hv; exact ⟨_, by simp [Op.unary], .bool _⟩
 ·subst hv; exact ⟨_, by simp [Op.unary, Op.intArith], .int _ _⟩
 ·subst hv; exact ⟨_, by simp [Op.unary, Op.intBits], .int _ _⟩

theorem conv_ok {s t : Nat} {k k' : IntKind} (hs : P.underlying s = some (.int k')) (ht : P.underlying t = some (.int k)) {kk : IntKind} {n : Int} :
  (convert s t (.int kk n)).run P w = .ok (.int k (k.wrap n)) w := by
 simp [convert, run_underlying hs, run_underlying ht, Conv.intToInt]

theorem ext_ok {vs : List V} {x : Value} (hX : VRel g (.tup vs) x) {i : Nat} {v : V} (hv : vs[i]? = some v) : ∃ y, (Instr.extract x i).run P w = .ok y w ∧ VRel g v y := by
 cases hX with
 | tup cs xs hl h =>
  have hi := (List.getElem?_eq_some_iff.1 hv).1
  have := h i hi
  have hlt : i < xs.size := by omega
  have e : vs.getD i .junk = v := by simp [List.getD, hv]
  rw [e] at this
  exact ⟨xs.getD i undef, by simp [Instr.extract, hlt, Array.getD], this⟩

theorem minmax_ok {mx : Bool} : ∀ {xs : List V} {ys : List Value} {A : V} {a : Value}, VRel g A a → xs.length = ys.length → (∀ i, i < xs.length → VRel g (xs.getD i .junk) (ys.getD i undef)) →
  ∀ {v : V}, minmaxV mx A xs = some v → ∃ z, (ys.foldlM (if mx then Builtin.max2 else Builtin.min2) a).run P w = .ok z w ∧ VRel g v z
 | [], [], A, a, hA, _, _, v, hv => by simp [minmaxV] at hv; subst hv; exact ⟨a, by simp, hA⟩
 | [], _ :: _, _, _, _, hl, _, _, _ => by simp at hl
 | _ :: _, [], _, _, _, hl, _, _, _ => by simp at hl
 | x :: xs, y :: ys, A, a, hA, hl, h, v, hv => by
  simp only [minmaxV] at hv
  cases hz : min2V mx A x with
  | none => simp [hz] at hv
  | some z =>
   simp [hz] at hv
   have hx : VRel g x y := by simpa using h 0 (by simp)
   have : ∃ z', ((if mx then Builtin.max2 else Builtin.min2) a y).run P w = .ok z' w ∧ VRel g z z' := by
    cases hA <;> cases hx <;> simp [min2V] at hz
    subst hz
    refine ⟨_, ?_, .int _ _⟩
    cases mx <;> simp [Builtin.max2, Builtin.min2]
   obtain ⟨z', h1, h2⟩ := this
   obtain ⟨r, h3, h4⟩ := minmax_ok (mx := mx) h2 (by simpa using hl) (fun i hi => by simpa using h (i + 1) (by simpa using hi)) hv
   exact ⟨r, by simp [h1, h3], h4⟩

end Go.Proofs.Ytmjnpfackanhlaa.AM
