/- The abstract layer: states and worlds. -/
import Derived.Test.YtmjnpfackanhlaaAmRes
import Derived.Test.YtmjnpfackanhlaaAmSem
namespace Go.Proofs.Ytmjnpfackanhlaa.AM
open Go Go.RowKit
set_option linter.unusedVariables false

def MemRel (g : G) (w : World) (L : Loc) (sz : Nat) (es : List (List V)) : Prop :=
 L.sz = sz ∧ 0 < sz ∧ (∀ i, i < es.length → (es.getD i []).length = sz) ∧ es.length ≤ L.T ∧
 match L.blk with
 | none => L.T = 0
 | some b => ∃ c t, w.heap[b]? = some (.cells c t (0, 0)) ∧ L.o + L.T * sz ≤ c.size ∧
   ∀ i j, i < es.length → j < sz → VRel g ((es.getD i []).getD j .junk) (c.getD (L.o + i * sz + j) undef) ∧ (c.getD (L.o + i * sz + j) undef).oneCell' = true

def MapRel (g : G) (w : World) (L : Loc) (ep : Nat) (es : List (V × V)) : Prop :=
 ∃ b ms clk, L.blk = some b ∧ w.heap[b]? = some (.map ms clk) ∧ ms.size = es.length ∧ ep < g.nv ∧ (g.born ep).length = es.length ∧ (g.born ep).Nodup ∧
  (∀ x ∈ g.born ep, x < clk) ∧ g.clk ep = clk ∧
  ∀ i, i < es.length → ∃ e, ms[i]? = some e ∧ VRel g (es.getD i (.junk, .junk)).1 e.key ∧ VRel g (es.getD i (.junk, .junk)).2 e.val ∧ (g.born ep)[i]? = some e.born

def IterRel (g : G) (w : World) (L : Loc) (ver ep : Nat) (seen : List Nat) : Prop :=
 ∃ b m LM, L.blk = some b ∧ g.loc ver = some LM ∧ ep < g.nv ∧ LM.blk = some m ∧
  w.heap[b]? = some (.mapIter (some m) (g.clk ep) (seen.reverse.map fun i => (g.born ep).getD i 0).toArray (g.clk ep)) ∧ ∀ i ∈ seen, i < (g.born ep).length

def Jump.code : Jump → Code
 | .ret => .ret
 | .exit id => .exit id

def LSt.rel : LSt → LoopState → Option Code → Prop
 | .ready, s, p => s = .ready ∧ p = none
 | .busy, s, p => s = .busy ∧ p = none
 | .done j, s, p => s = .done ∧ p = some j.code

def LoopRel (P : Program) (g : G) (w : World) (L : Loc) (fr : Fr) (n : Nat) (ps : List Nat) (assign body : RCode) (s : LSt) : Prop :=
 ∃ (b : Nat) (l : Loop), L.blk = some b ∧ w.heap[b]? = some (.loop l) ∧ FrRel g n fr l.tmps ∧ l.params.toList = ps ∧ (∀ p ∈ ps, p < n) ∧
  resCode P n l.assign = some assign ∧ resCode P n l.body = some body ∧ s.rel l.state l.pending

def OLoc (P : Program) (g : G) (w : World) (L : Loc) : Obj → Prop
 | .mem sz es => MemRel g w L sz es
 | .map ep es => MapRel g w L ep es
 | .iter _ v ep seen => IterRel g w L v ep seen
 | .loop fr n ps assign body s => LoopRel P g w L fr n ps assign body s

structure Sim (P : Program) (g : G) (st : St) (w : World) : Prop where
 nv : st.nv = g.nv
 B : g.B ≤ w.heap.size
 below : Below g.B g.w0 w
 imm : ∀ (b o : Nat) (x : Value), g.imm b o = some x → w.cell? ⟨b, o, none⟩ = some x ∧ x.oneCell' = true
 fresh : ∀ v, g.nv ≤ v → g.loc v = none
 obj : ∀ (id ver : Nat) (o : Obj), st.objs[id]? = some (some (ver, o)) → ∃ L, g.loc ver = some L ∧ OLoc P g w L o
 own : ∀ (id ver : Nat) (o : Obj) (L : Loc) (b : Nat), st.objs[id]? = some (some (ver, o)) → g.loc ver = some L → L.blk = some b → g.B ≤ b ∧ b < w.heap.size ∧ (∀ off, g.imm b off = none) ∧ b ∉ g.dfr.map (·.1)
 dis : ∀ (id id' ver ver' : Nat) (o o' : Obj) (L L' : Loc) (b : Nat), st.objs[id]? = some (some (ver, o)) → st.objs[id']? = some (some (ver', o')) → id ≠ id' → g.loc ver = some L → g.loc ver' = some L' → L.blk = some b → L'.blk ≠ some b
 dfr : ∀ D ∈ g.dfr, g.B ≤ D.1 ∧ w.heap[D.1]? = some D.2 ∧ ∀ off, g.imm D.1 off = none
 dnd : (g.dfr.map (·.1)).Nodup

theorem get_objs {st : St} {id ver : Nat} {o : Obj} (h : st.get id ver = some o) : st.objs[id]? = some (some (ver, o)) := by
 unfold St.get at h
 split at h
 ·rename_i v o' e
  split at h
  ·rename_i hv; subst hv; simp at h; subst h; exact e
  ·simp at h
 ·simp at h

theorem OLoc.mono {P : Program} {g g' : G} {w w' : World} {L : Loc} {o : Obj} (hg : g.le g')
  (hw : ∀ b, L.blk = some b → w'.heap[b]? = w.heap[b]?) (h : OLoc P g w L o) : OLoc P g' w' L o := by
 cases o with
 | mem sz es =>
  simp only [OLoc, MemRel] at *
  obtain ⟨h1, h2, h3, h4, h5⟩ := h
  refine ⟨h1, h2, h3, h4, ?_⟩
  cases hb : L.blk with
  | none => rw [hb] at h5; exact h5
  | some b =>
   rw [hb] at h5
   obtain ⟨c, t, hc, hs, hr⟩ := h5
   exact ⟨c, t, (hw b hb).trans hc, hs, fun i j hi hj => ⟨(hr i j hi hj).1.mono hg, (hr i j hi hj).2⟩⟩
 | map ep es =>
  simp only [OLoc, MapRel] at *
  obtain ⟨b, ms, clk, hb, hm, hs, he, hl, hn, hx, hc, hr⟩ := h
  refine ⟨b, ms, clk, hb, (hw b hb).trans hm, hs, Nat.lt_of_lt_of_le he hg.nv, ?_, ?_, ?_, ?_, ?_⟩
  ·rw [hg.born ep he]; exact hl
  ·rw [hg.born ep he]; exact hn
  ·rw [hg.born ep he]; exact hx
  ·rw [hg.clk ep he]; exact hc
  ·intro i hi
   obtain ⟨e, h1, h2, h3, h4⟩ := hr i hi
   exact ⟨e, h1, h2.mono hg, h3.mono hg, by rw [hg.born ep he]; exact h4⟩
 | iter a v ep seen =>
  simp only [OLoc, IterRel] at *
  obtain ⟨b, m, LM, hb, h1, h2, h3, h4, h5⟩ := h
  refine ⟨b, m, LM, hb, hg.loc _ _ h1, Nat.lt_of_lt_of_le h2 hg.nv, h3, ?_, ?_⟩
  ·rw [hg.clk ep h2, hg.born ep h2]; exact (hw b hb).trans h4
  ·rw [hg.born ep h2]; exact h5
 | loop fr n ps assign body s =>
  simp only [OLoc, LoopRel] at *
  obtain ⟨b, l, hb, h1, h2, h3⟩ := h
  exact ⟨b, l, hb, (hw b hb).trans h1, h2.mono hg, h3⟩

structure Turn (g : G) (L : Loc) (w w' : World) : Prop where
 os : w'.os = w.os
 tape : w'.tape = w.tape
 output : w'.output = w.output
 size : w.heap.size ≤ w'.heap.size
 same : ∀ k, k < w.heap.size → L.blk ≠ some k → w'.heap[k]? = w.heap[k]?

theorem cell_same {w w' : World} {b o : Nat} (h : w'.heap[b]? = w.heap[b]?) : w'.cell? ⟨b, o, none⟩ = w.cell? ⟨b, o, none⟩ := by
 simp only [World.cell?, h]

theorem lt_of_cell {w : World} {b o : Nat} {x : Value} (h : w.cell? ⟨b, o, none⟩ = some x) : b < w.heap.size := by
 simp only [World.cell?] at h
 split at h
 ·rename_i e; exact (Array.getElem?_eq_some_iff.1 e).1
 ·simp at h

theorem Sim.turn {P : Program} {g g' : G} {st : St} {w w' : World} (h : Sim P g st w) {id ver ver' : Nat} {o o' : Obj} (ho : st.objs[id]? = some (some (ver, o))) {L L' : Loc}
  (hL : g.loc ver = some L) (hg : g.le g') (hB : g'.B = g.B) (hw0 : g'.w0 = g.w0) (himm : g'.imm = g.imm) (hdfr : g'.dfr = g.dfr) (hfr : ∀ v, g'.nv ≤ v → g'.loc v = none) (ht : Turn g L w w')
  (hL' : g'.loc ver' = some L') (hblk : ∀ b, L'.blk = some b → L.blk = some b ∨ (w.heap.size ≤ b ∧ b < w'.heap.size))
  (hr : OLoc P g' w' L' o') : Sim P g' ⟨st.objs.set id (some (ver', o')), g'.nv⟩ w' := by
 have hlt : id < st.objs.length := (List.getElem?_eq_some_iff.1 ho).1
 have other : ∀ (id1 ver1 : Nat) (o1 : Obj) (L1 : Loc), id1 ≠ id → st.objs[id1]? = some (some (ver1, o1)) → g.loc ver1 = some L1 → ∀ b, L1.blk = some b → w'.heap[b]? = w.heap[b]? := by
  intro id1 ver1 o1 L1 hne h1 hL1 b hb
  have := h.own _ _ _ _ _ h1 hL1 hb
  exact ht.same b this.2.1 (fun e => h.dis id id1 ver ver1 o o1 L L1 b ho h1 (Ne.symm hne) hL hL1 e hb)
 have get : ∀ (id1 : Nat) (x : Option (Nat × Obj)), (st.objs.set id (some (ver', o')))[id1]? = some x → (id1 = id ∧ x = some (ver', o')) ∨ (id1 ≠ id ∧ st.objs[id1]? = some x) := by
  intro id1 x hx
  rw [List.getElem?_set] at hx
  by_cases e : id = id1
  ·subst e; simp [hlt] at hx; exact .inl ⟨rfl, hx.symm⟩
  ·simp [e] at hx; exact .inr ⟨fun k => e k.symm, hx⟩
 refine ⟨rfl, ?_, ?_, ?_, hfr, ?_, ?_, ?_, ?_, by rw [hdfr]; exact h.dnd⟩
 ·rw [hB]; exact Nat.le_trans h.B ht.size
 ·rw [hB, hw0]
  refine ⟨ht.os.trans h.below.os, ht.tape.trans h.below.tape, ht.output.trans h.below.output, Nat.le_trans h.below.size ht.size, fun k hk => ?_⟩
  refine (ht.same k (Nat.lt_of_lt_of_le hk h.B) (fun e => ?_)).trans (h.below.block k hk)
  have := (h.own _ _ _ _ _ ho hL e).1; omega
 ·intro b off x hx
  rw [himm] at hx
  have hc := h.imm b off x hx
  refine ⟨(cell_same (ht.same b (lt_of_cell hc.1) (fun e => ?_))).trans hc.1, hc.2⟩
  have := (h.own _ _ _ _ _ ho hL e).2.2.1 off; rw [this] at hx; cases hx
 ·intro id1 ver1 o1 h1
  rcases get _ _ h1 with ⟨_, e⟩ | ⟨hne, h1⟩
  ·cases e; exact ⟨L', hL', hr⟩
  ·obtain ⟨L1, hL1, h2⟩ := h.obj _ _ _ h1
   exact ⟨L1, hg.loc _ _ hL1, h2.mono hg (other _ _ _ _ hne h1 hL1)⟩
 ·intro id1 ver1 o1 L1 b h1 hL1 hb
  rw [hB, himm, hdfr]
  rcases get _ _ h1 with ⟨_, e⟩ | ⟨hne, h1⟩
  ·cases e
   obtain rfl := Option.some.inj (hL1.symm.trans hL')
   rcases hblk b hb with hb | ⟨hb, hb'⟩
   ·have := h.own _ _ _ _ _ ho hL hb
    exact ⟨this.1, Nat.lt_of_lt_of_le this.2.1 ht.size, this.2.2⟩
   ·refine ⟨Nat.le_trans h.B hb, hb', fun off => ?_, fun hm => ?_⟩
    ·cases hx : g.imm b off with
     | none => rfl
     | some x => have := lt_of_cell (h.imm b off x hx).1; omega
    ·obtain ⟨D, hD, rfl⟩ := List.mem_map.1 hm; have := (Array.getElem?_eq_some_iff.1 (h.dfr D hD).2.1).1; omega
  ·obtain ⟨L2, hL2, _⟩ := h.obj _ _ _ h1
   obtain rfl := Option.some.inj (hL1.symm.trans (hg.loc _ _ hL2))
   have := h.own _ _ _ _ _ h1 hL2 hb
   exact ⟨this.1, Nat.lt_of_lt_of_le this.2.1 ht.size, this.2.2⟩
 ·intro id1 id2 ver1 ver2 o1 o2 L1 L2 b h1 h2 hne hL1 hL2 hb
  rcases get _ _ h1 with ⟨e1, e⟩ | ⟨hne1, h1⟩
  ·cases e
   obtain rfl := Option.some.inj (hL1.symm.trans hL')
   rcases get _ _ h2 with ⟨e2, e⟩ | ⟨hne2, h2⟩
   ·exact absurd (e1.trans e2.symm) hne
   ·obtain ⟨L3, hL3, _⟩ := h.obj _ _ _ h2
    obtain rfl := Option.some.inj (hL2.symm.trans (hg.loc _ _ hL3))
    rcases hblk b hb with hb | ⟨hb, _⟩
    ·exact h.dis _ _ _ _ _ _ _ _ _ ho h2 (fun e => hne2 e.symm) hL hL3 hb
    ·intro e; have := (h.own _ _ _ _ _ h2 hL3 e).2.1; omega
  ·obtain ⟨L3, hL3, _⟩ := h.obj _ _ _ h1
   obtain rfl := Option.some.inj (hL1.symm.trans (hg.loc _ _ hL3))
   rcases get _ _ h2 with ⟨e2, e⟩ | ⟨hne2, h2⟩
   ·cases e
    obtain rfl := Option.some.inj (hL2.symm.trans hL')
    intro hb'
    rcases hblk b hb' with hb' | ⟨hb', _⟩
    ·exact h.dis _ _ _ _ _ _ _ _ _ ho h1 (fun e => hne1 e.symm) hL hL3 hb' hb
    ·have := (h.own _ _ _ _ _ h1 hL3 hb).2.1; omega
   ·obtain ⟨L4, hL4, _⟩ := h.obj _ _ _ h2
    obtain rfl := Option.some.inj (hL2.symm.trans (hg.loc _ _ hL4))
    exact h.dis _ _ _ _ _ _ _ _ _ h1 h2 hne hL3 hL4 hb
 ·intro D hD
  rw [hdfr] at hD
  have := h.dfr D hD
  refine ⟨by rw [hB]; exact this.1, (ht.same D.1 (Array.getElem?_eq_some_iff.1 this.2.1).1 (fun e => ?_)).trans this.2.1, by rw [himm]; exact this.2.2⟩
  exact (h.own _ _ _ _ _ ho hL e).2.2.2 (List.mem_map_of_mem hD)

theorem Sim.pushed {P : Program} {g g' : G} {st : St} {w w' : World} (h : Sim P g st w) {ver' : Nat} {o' : Obj} {L' : Loc}
    (hg : g.le g') (hB : g'.B = g.B) (hw0 : g'.w0 = g.w0) (himm : g'.imm = g.imm) (hdfr : g'.dfr = g.dfr) (hfr : ∀ v, g'.nv ≤ v → g'.loc v = none)
    (hos : w'.os = w.os) (htape : w'.tape = w.tape) (hout : w'.output = w.output) (hsz : w.heap.size ≤ w'.heap.size) (hsame : ∀ k, k < w.heap.size → w'.heap[k]? = w.heap[k]?)
    (hL' : g'.loc ver' = some L') (hblk : ∀ b, L'.blk = some b → w.heap.size ≤ b ∧ b < w'.heap.size)
    (hr : OLoc P g' w' L' o') : Sim P g' ⟨st.objs ++ [some (ver', o')], g'.nv⟩ w' := by
  have get : ∀ (id1 : Nat) (x : Option (Nat × Obj)), (st.objs ++ [some (ver', o')])[id1]? = some x → (id1 = st.objs.length ∧ x = some (ver', o')) ∨ (id1 < st.objs.length ∧ st.objs[id1]? = some x) := by
    intro id1 x hx
    by_cases e : id1 < st.objs.length
    · rw [List.getElem?_append_left e] at hx; exact .inr ⟨e, hx⟩
    · rw [List.getElem?_append_right (by omega)] at hx
      have h0 : id1 - st.objs.length = 0 := by
        have := (List.getElem?_eq_some_iff.1 hx).1; simp at this; omega
      rw [h0] at hx; simp at hx
      exact .inl ⟨by omega, hx.symm⟩
  refine ⟨rfl, ?_, ?_, ?_, hfr, ?_, ?_, ?_, ?_, by rw [hdfr]; exact h.dnd⟩
  · rw [hB]; exact Nat.le_trans h.B hsz
  · rw [hB, hw0]
    exact ⟨hos.trans h.below.os, htape.trans h.below.tape, hout.trans h.below.output, Nat.le_trans h.below.size hsz, fun k hk => (hsame k (Nat.lt_of_lt_of_le hk h.B)).trans (h.below.block k hk)⟩
  · intro b off x hx
    rw [himm] at hx
    have hc := h.imm b off x hx
    exact ⟨(cell_same (hsame b (lt_of_cell hc.1))).trans hc.1, hc.2⟩
  · intro id1 ver1 o1 h1
    rcases get _ _ h1 with ⟨_, e⟩ | ⟨_, h1⟩
    · cases e; exact ⟨L', hL', hr⟩
    · obtain ⟨L1, hL1, h2⟩ := h.obj _ _ _ h1
      exact ⟨L1, hg.loc _ _ hL1, h2.mono hg (fun b hb => hsame b (h.own _ _ _ _ _ h1 hL1 hb).2.1)⟩
  · intro id1 ver1 o1 L1 b h1 hL1 hb
    rw [hB, himm, hdfr]
    rcases get _ _ h1 with ⟨_, e⟩ | ⟨_, h1⟩
    · cases e
      obtain rfl := Option.some.inj (hL1.symm.trans hL')
      obtain ⟨hb, hb'⟩ := hblk b hb
      refine ⟨Nat.le_trans h.B hb, hb', fun off => ?_, fun hm => ?_⟩
      · cases hx : g.imm b off with
        | none => rfl
        | some x => have := lt_of_cell (h.imm b off x hx).1; omega
      · obtain ⟨D, hD, rfl⟩ := List.mem_map.1 hm; have := (Array.getElem?_eq_some_iff.1 (h.dfr D hD).2.1).1; omega
    · obtain ⟨L2, hL2, _⟩ := h.obj _ _ _ h1
      obtain rfl := Option.some.inj (hL1.symm.trans (hg.loc _ _ hL2))
      have := h.own _ _ _ _ _ h1 hL2 hb
      exact ⟨this.1, Nat.lt_of_lt_of_le this.2.1 hsz, this.2.2⟩
  · intro id1 id2 ver1 ver2 o1 o2 L1 L2 b h1 h2 hne hL1 hL2 hb
    rcases get _ _ h1 with ⟨e1, e⟩ | ⟨hl1, h1⟩
    · cases e
      obtain rfl := Option.some.inj (hL1.symm.trans hL')
      rcases get _ _ h2 with ⟨e2, e⟩ | ⟨_, h2⟩
      · exact absurd (e1.trans e2.symm) hne
      · obtain ⟨L3, hL3, _⟩ := h.obj _ _ _ h2
        obtain rfl := Option.some.inj (hL2.symm.trans (hg.loc _ _ hL3))
        intro e; have := (h.own _ _ _ _ _ h2 hL3 e).2.1; have := (hblk b hb).1; omega
    · obtain ⟨L3, hL3, _⟩ := h.obj _ _ _ h1
      obtain rfl := Option.some.inj (hL1.symm.trans (hg.loc _ _ hL3))
      rcases get _ _ h2 with ⟨e2, e⟩ | ⟨_, h2⟩
      · cases e
        obtain rfl := Option.some.inj (hL2.symm.trans hL')
        intro hb'
        have := (h.own _ _ _ _ _ h1 hL3 hb).2.1; have := (hblk b hb').1; omega
      · obtain ⟨L4, hL4, _⟩ := h.obj _ _ _ h2
        obtain rfl := Option.some.inj (hL2.symm.trans (hg.loc _ _ hL4))
        exact h.dis _ _ _ _ _ _ _ _ _ h1 h2 hne hL3 hL4 hb
  · intro D hD
    rw [hdfr] at hD
    have := h.dfr D hD
    exact ⟨by rw [hB]; exact this.1, (hsame D.1 (Array.getElem?_eq_some_iff.1 this.2.1).1).trans this.2.1, by rw [himm]; exact this.2.2⟩

theorem Sim.sub {P : Program} {g : G} {st st' : St} {w : World} (h : Sim P g st w) (hnv : st'.nv = st.nv) (f : Nat → Nat)
  (hf : ∀ (id : Nat) (x : Nat × Obj), st'.objs[id]? = some (some x) → st.objs[f id]? = some (some x))
  (hi : ∀ (id id' : Nat) (x x' : Nat × Obj), st'.objs[id]? = some (some x) → st'.objs[id']? = some (some x') → f id = f id' → id = id') : Sim P g st' w := by
 refine ⟨hnv.trans h.nv, h.B, h.below, h.imm, h.fresh, fun id ver o ho => h.obj _ _ _ (hf _ _ ho), fun id ver o L b ho hL hb => h.own _ _ _ _ _ (hf _ _ ho) hL hb, ?_, h.dfr, h.dnd⟩
 intro id id' ver ver' o o' L L' b h1 h2 hne hL hL' hb
 exact h.dis _ _ _ _ _ _ _ _ _ (hf _ _ h1) (hf _ _ h2) (fun e => hne (hi _ _ _ _ h1 h2 e)) hL hL' hb

theorem Sim.drew {P : Program} {g : G} {st : St} {w : World} (h : Sim P g st w) (k : Nat) : Sim P g st { w with drawn := k } :=
  ⟨h.nv, h.B, ⟨h.below.os, h.below.tape, h.below.output, h.below.size, h.below.block⟩, h.imm, h.fresh,
   fun id ver o ho => let ⟨L, hL, h2⟩ := h.obj _ _ _ ho; ⟨L, hL, h2.mono (.refl g) (fun _ _ => rfl)⟩, h.own, h.dis, h.dfr, h.dnd⟩

def G.skip (g : G) (k : Nat) : G := { g with nv := k }
theorem Sim.skip {P : Program} {g : G} {st : St} {w : World} (h : Sim P g st w) (k : Nat) (hk : st.nv ≤ k) : g.le (g.skip k) ∧ Sim P (g.skip k) ⟨st.objs, k⟩ w := by
  have hle : g.le (g.skip k) := ⟨rfl, rfl, by rw [← h.nv]; exact hk, fun _ _ h => h, fun _ _ => rfl, fun _ _ => rfl, fun _ _ _ h => h, fun _ _ _ _ h => h⟩
  exact ⟨hle, rfl, h.B, h.below, h.imm, fun v hv => h.fresh v (Nat.le_trans (by rw [← h.nv]; exact hk) hv),
    fun id ver o ho => let ⟨L, hL, h2⟩ := h.obj _ _ _ ho; ⟨L, hL, h2.mono hle (fun _ _ => rfl)⟩, h.own, h.dis, h.dfr, h.dnd⟩

end Go.Proofs.Ytmjnpfackanhlaa.AM
